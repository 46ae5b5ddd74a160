/- Several texts in one, made short by a program of mine. -/
import Derived.Test.YtknejlcijdngoaaGreatTQ4
import Derived.Maps.RangeWalk
import Derived.Conc.WgGenN2
import Derived.StillTailTactics
import Derived.BigQuiet
import Derived.Deep.DeepCutAuto
import Derived.Shelf.SlicesQ.Reverse
import Derived.BigRegion
set_option linter.defProp false
set_option linter.unusedVariables false
set_option linter.unusedSimpArgs false
set_option linter.unusedSectionVars false
set_option maxHeartbeats 16000000
set_option maxRecDepth 100000
open Array renaming empty_append→kU,getD_eq_getD_getElem?→bH,getElem?_eq_none→iH,getElem?_eq_some_iff→aI,getElem?_modify→bq,mem_of_getElem?→ug,replicate→eG
open Bool renaming and_eq_true→aG,eq_iff_iff→l8,or_eq_true→gi,false→ay,true→aw
open Go renaming Frame→bp,FuncId→bK,Goroutine→au,Operand→cG,Program→aS,TypeId→aA,Value→ao,World→ah
open Go.Act renaming eval→bX
open Go.Builtin renaming delete_→me
open Go.Deferred renaming ofValue→ic
open Go.Extern.MapsClone renaming clone→qJ
open Go.Frame renaming finish_at→nL
open Go.Instr renaming checkKey→fV,findKey→kG,loadAt→eh,lookup→j9
open Go.Lib renaming hid→af
open Go.MapKept renaming run_getObj_map→lP
open Go.Proofs.Tryz renaming prog→aj
open Go.Region renaming wanted→bu
open Go.Result renaming andThen→dQ,andThen_ok→ij
open Go.Sem renaming run_bind→eH
open Go.Value renaming int→aF,oneCell'→kT,ownBlock→fx,slice→eA
open Go.World renaming block_lt_of_cell?→rX,cell?→c8,ownsRow_nil→oh,size_alloc→dw
open Go.World.ownsRow renaming lt→gJ
open Go.stepG renaming apply→fe
open Int renaming toNat_natCast→fw
open List renaming any_eq_true→qc,append_assoc→cx,append_nil→ew,drop_append→qd,drop_of_length_le→iU,drop_succ_cons→mZ,eq_nil_of_length_eq_zero→ft,ext_getElem?→mf,filter_cons→qg,flatMap_append→dG,flatMap_cons→bN,foldl_append→j5,getD→bB,getElem?_eq_getElem→aq,getElem?_eq_none→jz,getElem?_eq_some_iff→bz,getElem?_map→dN,getElem?_set→fh,getElem_mem→bg,length_append→aZ,length_map→aL,length_set→de,length_take→cK,map_append→ey,map_congr_left→dx,map_cons→eN,mem_append→jh,mem_cons→cj,mem_filter→cm,mem_map→aH,mem_of_getElem?→pM,mem_of_mem_take→pN,mem_range→ng,mem_singleton→eO,nil_append→cy,range→bP,replicate→bW,set_append_right→oA,take_length→dm,take_of_length_le→ck,take_succ_eq_append_getElem→bh
open List.Perm renaming append_left→dy,refl→qK,swap→cJ
open Nat renaming add_mul→gY,add_zero→lC,le_refl→ax,le_trans→bM,lt_of_lt_of_le→cc,mul_le_mul_right→fC,one_mul→jE,zero_add→bS,zero_le→cE
open Option renaming getD_some→bT,map_eq_some_iff→aJ,map_some→fS,none→ai,some→ae
open Option.some renaming inj→be
open Or renaming inl→bm,inr→bO
namespace Go.Proofs.YtknejlcijdngoaaGreat
section
open Go.RowKit Go.MapKept Go.ChangeMaps
structure nQ (P:aS) (k:aA) {κ:Type} (ek:κ->ao) (good:κ->Prop):Prop where
 inj: ∀{a b:κ},ek a=ek b->a=b
 check: ∀(w:ah) (em:Bool) (x:κ),good x->(fV em 10000 k (ek x)).run P w=.ok () w
 find: ∀(w:ah) (x:κ),good x-> ∀es:List MapEntry,(∀e∈es,∃y,good y/\e.key=ek y)->((kG k (ek x) es).run P w=.ok ai w/\ ∀e∈es,e.key≠ek x)\/ ∃j e,(kG k (ek x) es).run P w=.ok (ae (j,e.val)) w/\es[j]? =ae e/\e.key=ek x
 stays: ∀(w:ah) (x:κ),(Instr.keyThatStays (ek x) (ek x)).run P w=.ok (ek x) w
def dW {κ ν:Type}(ek:κ->ao)(ev:ν->ao)(good:κ->Prop)(w:ah)(b:Nat)(m:List (κ×ν)):Prop:= ∃es clock,w.heap[b]? =ae (.map es clock)/\Stamped es clock/\es.toList.map (λe=>(e.key,e.val))=m.map (λp=>(ek p.1,ev p.2))/\ ∀p∈m,good p.1
section
variable {κ ν:Type} {P:aS} {k:aA} {ek:κ->ao} {ev:ν->ao} {good:κ->Prop} {w w':ah} {b:Nat} {m:List (κ×ν)}
def dW.lt (h:dW ek ev good w b m):b<w.heap.size:=by obtain⟨es,clock,hb,_⟩:=h;exact(aI.1 hb).1
def dW.block (h:dW ek ev good w b m)(hb:w'.heap[b]? =w.heap[b]?):dW ek ev good w' b m:=by obtain⟨es,clock,h1,h2⟩:=h;exact⟨es,clock,hb.trans h1,h2⟩
def dW.only {F:Nat->Prop}(h:dW ek ev good w b m)(ho:db F w w')(hF: ¬F b):dW ek ev good w' b m:=h.block (ho.block b h.lt hF)
def dW.below {B:Nat}(h:dW ek ev good w b m)(hb:Below B w w')(hB:b<B):dW ek ev good w' b m:=h.block (hb.block b hB)
def dW.after (h:dW ek ev good w b m)(hb:Below w.heap.size w w'):dW ek ev good w' b m:=h.below hb h.lt
def dW.new (w:ah)(ek:κ->ao)(ev:ν->ao)(good:κ->Prop):dW ek ev good (w.alloc (.map #[] 0)) w.heap.size []:=⟨#[],0,(MapKept.heap_alloc w _).1,stamped_empty 0,rfl,by simp⟩
def Dp {es:List MapEntry}(h:es.map (λe=>(e.key,e.val))=m.map (λp=>(ek p.1,ev p.2)))(hg: ∀p∈m,good p.1): ∀e∈es,∃y,good y/\e.key=ek y:=by
 intro e he;have:(e.key,e.val)∈m.map (λp=>(ek p.1,ev p.2)):=by rw[<-h];exact aH.2 ⟨e,he,rfl⟩
 obtain⟨p,hp,LS⟩:=aH.1 this;injection LS with h1 h2
 exact⟨p.1,hg p hp,h1.symm⟩
def dW.nodup (K:nQ P k ek good)(h:dW ek ev good w b m):(aW m).Nodup:=by
 obtain⟨es,clock,_,hs,he,_⟩:=h;have h1:es.toList.map (·.key)=(aW m).map ek:=by have:=congrArg (List.map Prod.fst) he;simpa[aW,Function.comp_def]using this
 have h2:=hs.2.2;rw[h1]at h2;exact(List.Pairwise.of_map ek (λa b eb e=>eb (by rw[e])) h2)
def find_spec (K:nQ P k ek good){es:List MapEntry}(he:es.map (λe=>(e.key,e.val))=m.map (λp=>(ek p.1,ev p.2))){x:κ}:(∀e∈es,e.key≠ek x)↔x∉aW m:=by
 have h1:es.map (·.key)=(aW m).map ek:=by have:=congrArg (List.map Prod.fst) he;simpa[aW,Function.comp_def]using this
 constructor
 ·intro h hx;have:ek x∈es.map (·.key):=by rw[h1];exact aH.2 ⟨x,hx,rfl⟩
  obtain⟨e,hee,h2⟩:=aH.1 this;exact h e hee h2
 ·intro h e hee hk;have:e.key∈es.map (·.key):=aH.2 ⟨e,hee,rfl⟩;rw[h1]at this;obtain⟨y,hy,h2⟩:=aH.1 this;exact h (by rw[<-K.inj (h2.trans hk)];exact hy)
def Di (K:nQ P k ek good){es:List MapEntry}(he:es.map (λe=>(e.key,e.val))=m.map (λp=>(ek p.1,ev p.2))){x:κ}{j:Nat}{e:MapEntry}(hj:es[j]? =ae e)(hk:e.key=ek x): ∃v,m[j]? =ae (x,v)/\e.val=ev v:=by
 have:=congrArg (·[j]?) he;simp only[dN,hj,fS]at this;obtain⟨p,hp,LS⟩:=aJ.1 this.symm;injection LS with h1 h2
 have:p.1=x:=K.inj (h1.trans hk);refine⟨p.2,?_,h2.symm⟩;rw[hp,<-this]
def jc (w:ah)(b:Nat)(o:Obj):db (· =b) w (setBlock w b o):=⟨rfl,rfl,rfl,by simp[setBlock],λi _ hi=>by simp[setBlock,Array.getElem?_setIfInBounds,Ne.symm hi]⟩
def dn {κ ν:Type}(ek:κ->ao)(ev:ν->ao)(good:κ->Prop)(w:ah)(b r:Nat)(m left:List (κ×ν)):Prop:=
 ∃es clock since seen c0,w.heap[b]? =ae (.map es clock)/\Stamped es clock/\es.toList.map (λe=>(e.key,e.val))=m.map (λp=>(ek p.1,ev p.2))/\(∀p∈m,good p.1)/\
  w.heap[r]? =ae (.mapIter (ae b) since seen c0)/\(∀x∈es.toList,x.born<since)/\since<=c0/\since<=clock/\
  (es.toList.filter λe=> !seen.contains e.born).map (λe=>(e.key,e.val))=left.map (λp=>(ek p.1,ev p.2))/\ ∀p∈left,p∈m
def dn.map {r:Nat}{left:List (κ×ν)}(h:dn ek ev good w b r m left):dW ek ev good w b m:=by obtain⟨es,clock,since,seen,c0,h1,h2,h3,h4,_⟩:=h;exact⟨es,clock,h1,h2,h3,h4⟩
def dn.lt {r:Nat}{left:List (κ×ν)}(h:dn ek ev good w b r m left):r<w.heap.size:=by obtain⟨es,clock,since,seen,c0,h1,h2,h3,h4,h5,_⟩:=h;exact(aI.1 h5).1
def dn.ne {r:Nat}{left:List (κ×ν)}(h:dn ek ev good w b r m left):r≠b:=by obtain⟨es,clock,since,seen,c0,h1,h2,h3,h4,h5,_⟩:=h;intro e;rw[e,h1]at h5;cases h5
def dn.block {r:Nat}{left:List (κ×ν)}(h:dn ek ev good w b r m left)(hb:w'.heap[b]? =w.heap[b]?)(hr:w'.heap[r]? =w.heap[r]?):dn ek ev good w' b r m left:=by obtain⟨es,clock,since,seen,c0,h1,h2,h3,h4,h5,h6⟩:=h;exact⟨es,clock,since,seen,c0,hb.trans h1,h2,h3,h4,hr.trans h5,h6⟩
def dn.only {F:Nat->Prop}{r:Nat}{left:List (κ×ν)}(h:dn ek ev good w b r m left)(ho:db F w w')(hF: ¬F b)(hR: ¬F r):dn ek ev good w' b r m left:=h.block (ho.block b h.map.lt hF) (ho.block r h.lt hR)
def dn.after {r:Nat}{left:List (κ×ν)}(h:dn ek ev good w b r m left)(hb:Below w.heap.size w w'):dn ek ev good w' b r m left:=h.block (hb.block b h.map.lt) (hb.block r h.lt)
def dn.count {r:Nat}{left:List (κ×ν)}(h:dn ek ev good w b r m left):w.rangeLeft b r=left.length:=by obtain⟨es,clock,since,seen,c0,h1,h2,h3,h4,h5,h6,h7,h8,h9,_⟩:=h;unfold World.rangeLeft;rw[h1,h5];have:=congrArg List.length h9;simp only[aL]at this;rw[<-this];simp only[leftOf];rw[<-Array.length_toList,Array.toList_filter]
def dW.range (h:dW ek ev good w b m){t e:aA}(ht:P.underlying t=ae (.map k e)): ∃w',(Instr.range t (.map (ae b))).run P w=.ok (.pointer (ae ⟨w.heap.size,0,ai⟩)) w'/\dn ek ev good w' b w.heap.size m m/\Below w.heap.size w w'/\w'.heap.size=w.heap.size+1:=by
 have bJ:=h.lt;obtain⟨es,clock,hb,hs,he,hg⟩:=h;refine⟨_,run_range_map w t k e b es clock ht hb,⟨es,clock,clock,#[],clock,((MapKept.heap_alloc w _).2 b bJ).trans hb,hs,he,hg,(MapKept.heap_alloc w _).1,hs.1,ax _,ax _,?_,λp hp=>hp⟩,(Below.refl _ _).alloc (ax _) _,by simp⟩;have:(es.toList.filter λe=> !(#[]:Array Nat).contains e.born)=es.toList:=List.filter_eq_self.2 λe _=>by simp
 rw[this];exact he
section
variable [DecidableEq κ]
def dW.look (K:nQ P k ek good)(h:dW ek ev good w b m){t e:aA}(ht:P.underlying t=ae (.map k e)){z:ao}(hz:(zeroValue e).run P w=.ok z w){x:κ}(hx:good x)(c:Bool):(j9 t (.map (ae b)) (ek x) c).run P w=.ok (if c then .tuple #[(dY m x).elim z ev,.bool (dY m x).isSome]else(dY m x).elim z ev) w:=by
 have hn:=h.nodup K;obtain⟨es,clock,hb,hs,he,hg⟩:=h;rcases K.find w x hx es.toList (Dp he hg)with⟨h1,h2⟩|⟨j,e0,h1,h2,h3⟩
 ·have h4:dY m x=ai:=qG.2 ((find_spec K he).1 h2);simp[j9,run_underlying ht,lP hb,K.check w _ x hx,h1,hz,dQ,h4]
 ·obtain⟨v,hv,jJ⟩:=Di K he h2 h3;have h4:dY m x=ae v:=nI hn (pM hv);simp[j9,run_underlying ht,lP hb,K.check w _ x hx,h1,dQ,h4,jJ]
def QD {es:List MapEntry}{x:κ}{v u:ν}{j:Nat}(hn:(aW m).Nodup)(hj:m[j]? =ae (x,u)):m.map (λp=>if p.1=x then(x,v)else p)=m.set j (x,v):=by
 apply mf;intro i;rw[dN,fh];by_cases hi:j=i
 ·subst hi;have hl:=(bz.1 hj).1;rw[if_pos rfl,if_pos hl,hj];simp
 ·rw[if_neg hi];cases hmi:m[i]? with
  |none=>rfl
  |some p=>
   have:p.1≠x:=by
    intro e;have h1:(aW m)[i]? =ae x:=by simp[aW,hmi,e]
    have h2:(aW m)[j]? =ae x:=by simp[aW,hj]
    have hl:=(bz.1 h2).1;exact hi ((List.getElem?_inj hl hn).1 (h2.trans h1.symm))
   simp[this]
def dW.store (K:nQ P k ek good)(h:dW ek ev good w b m){t e:aA}(ht:P.underlying t=ae (.map k e)){x:κ}(hx:good x)(v:ν): ∃w',(Instr.mapUpdate t (.map (ae b)) (ek x) (ev v)).run P w=.ok () w'/\dW ek ev good w' b (hZ m x v)/\db (· =b) w w'/\w'.heap.size=w.heap.size:=by
 have hn:=h.nodup K;have bJ:=h.lt;obtain⟨es,clock,hb,hs,he,hg⟩:=h;have Cf: ∀p∈hZ m x v,good p.1:=λp hp=>by
  rcases NH hp with rfl|⟨hp,_⟩
  ·exact hx
  ·exact hg p hp
 have xX: ∀o,(setBlock w b o).heap[b]? =ae o:=λo=>by simp[setBlock,bJ]
 rcases K.find w x hx es.toList (Dp he hg)with⟨h1,h2⟩|⟨j,e0,h1,h2,h3⟩
 ·have hnk:=(find_spec K he).1 h2;refine⟨setBlock w b (.map (es.push ⟨ek x,ev v,clock⟩) (clock+1)),?_,⟨_,_,xX _,stamped_push hs h2,?_,Cf⟩,jc _ _ _,by simp[setBlock]⟩
  ·simp[Instr.mapUpdate,run_underlying ht,lP hb,K.check w ay x hx,h1,MapKept.run_setObj_map _ hb,dQ,setBlock]
  ·unfold hZ;rw[if_neg,Array.toList_push,ey,he,ey]
   ·rfl
   ·intro ha;obtain⟨p,hp,e1⟩:=qc.1 ha;exact hnk (aH.2 ⟨p,hp,by simpa using e1⟩)
 ·obtain⟨u,hu,heu⟩:=Di K he h2 h3;have hj:es[j]? =ae e0:=by simpa using h2
  refine⟨setBlock w b (.map (es.modify j (λe'=>{e' with key:=ek x,val:=ev v})) clock),?_,⟨_,_,xX _,stamped_modify hs _ _ (λ_ _=>rfl) (λe' _ LP=>by rw[hj]at LP;cases LP;exact h3.symm),?_,Cf⟩,jc _ _ _,by simp[setBlock]⟩
  ·simp[Instr.mapUpdate,run_underlying ht,lP hb,K.check w ay x hx,h1,hj,h3,K.stays w x,MapKept.run_setObj_map _ hb,dQ,setBlock]
  ·unfold hZ;rw[if_pos (qc.2 ⟨(x,u),pM hu,by simp⟩),QD (es:=es.toList) hn hu,Array.toList_modify,modify_eq_set _ _ _ _ h2,List.map_set,he,List.map_set]
def yE {x:κ}{u:ν}{j:Nat}(hn:(aW m).Nodup)(hj:m[j]? =ae (x,u)):dZ m x=m.eraseIdx j:=by have hp:m.Pairwise (λp q=>p.1≠q.1):=List.pairwise_map.1 hn;exact filter_eq_eraseIdx (λp:κ×ν=>decide (p.1=x)) m j (x,u) hj (by simp) (hp.imp λeb ⟨h1,h2⟩=>eb (by rw[of_decide_eq_true h1,of_decide_eq_true h2]))
def SK {x:κ}(h:x∉aW m):dZ m x=m:=by
 unfold dZ;rw[List.filter_eq_self];intro p hp;have:p.1≠x:=λe=>h (by rw[<-e];exact aH.2 ⟨p,hp,rfl⟩)
 simp[this]
def dW.drop (K:nQ P k ek good)(h:dW ek ev good w b m){t e:aA}(ht:P.underlying t=ae (.map k e)){x:κ}(hx:good x)(ty:aA): ∃w',(me #[t,k] ty #[.map (ae b),ek x]).run P w=.ok (.tuple #[]) w'/\dW ek ev good w' b (dZ m x)/\db (· =b) w w'/\w'.heap.size=w.heap.size:=by
 have hn:=h.nodup K;have bJ:=h.lt;obtain⟨es,clock,hb,hs,he,hg⟩:=h;have Cf: ∀p∈dZ m x,good p.1:=λp hp=>hg p (fP.1 hp).1
 have xX: ∀o,(setBlock w b o).heap[b]? =ae o:=λo=>by simp[setBlock,bJ]
 rcases K.find w x hx es.toList (Dp he hg)with⟨h1,h2⟩|⟨j,e0,h1,h2,h3⟩
 ·have hnk:=(find_spec K he).1 h2;refine⟨setBlock w b (.map es clock),?_,⟨_,_,xX _,hs,?_,Cf⟩,jc _ _ _,by simp[setBlock]⟩
  ·simp[me,run_underlying ht,lP hb,K.check w _ x hx,h1,MapKept.run_setObj_map _ hb,dQ,setBlock]
  ·rw[SK hnk];exact he
 ·obtain⟨u,hu,heu⟩:=Di K he h2 h3;have sa:j<es.toList.length:=(bz.1 h2).1;have Wq:j<es.size:=by simpa using sa
  have mW:(es.eraseIdxIfInBounds j).toList=es.toList.eraseIdx j:=by unfold Array.eraseIdxIfInBounds;rw[dif_pos Wq];simp
  refine⟨setBlock w b (.map (es.eraseIdxIfInBounds j) clock),?_,⟨_,_,xX _,stamped_erase hs j,?_,Cf⟩,jc _ _ _,by simp[setBlock]⟩
  ·simp[me,run_underlying ht,lP hb,K.check w _ x hx,h1,MapKept.run_setObj_map _ hb,dQ,setBlock]
  ·rw[mW,yE hn hu,map_eraseIdx,map_eraseIdx,he]
def dn.step (K:nQ P k ek good){r:Nat}{left:List (κ×ν)}(h:dn ek ev good w b r m left)(ty:aA):(left=[]/\(Instr.next (.pointer (ae ⟨r,0,ai⟩)) ay ty).run P w=.ok (.tuple #[.bool ay]) w)\/ ∃x v w',(x,v)∈left/\(Instr.next (.pointer (ae ⟨r,0,ai⟩)) ay ty).run P w=.ok (.tuple #[.bool aw,ek x,ev v]) w'/\dn ek ev good w' b r m (dZ left x)/\db (· =r) w w'/\w'.heap.size=w.heap.size/\(dZ left x).length<left.length/\(Instr.entry (.pointer (ae ⟨r,0,ai⟩))).run P w'=.ok (.tuple #[ek x,ev v]) w':=by
 classical
 have eb:=h.ne;have aia:=h.map.lt;have aib:=h.lt;obtain⟨es,clock,since,seen,c0,h1,h2,h3,h4,h5,h6,h7,h8,h9,Sr⟩:=h;rcases run_next_at (P:=P) w ty r b since c0 seen es clock h5 h1 h6 h7 with⟨h0,cT⟩|⟨e,he,w1,Uu,cT⟩
 ·refine bm ⟨?_,cT⟩;have:=congrArg List.length h9;simp only[aL]at this;unfold leftOf at h0;rw[<-Array.length_toList,Array.toList_filter]at h0;rw[h0]at this;exact ft this.symm
 ·right;unfold leftOf at he;rw[Array.toList_filter]at he;obtain⟨hee,hse⟩:=cm.1 he;have jB:(e.key,e.val)∈left.map (λp=>(ek p.1,ev p.2)):=by rw[<-h9];exact aH.2 ⟨e,he,rfl⟩
  obtain⟨⟨x,v⟩,hp,LS⟩:=aH.1 jB;injection LS with Yv hk2
  simp only at Yv hk2;have lJ:w1.heap=w.heap:=by rcases Uu with rfl|rfl<;>rfl
  have hO1:db (· =r) w (setBlock w1 r (.mapIter (ae b) since (seen.push e.born) clock)):=by
   have:=jc w1 r (.mapIter (ae b) since (seen.push e.born) clock);rcases Uu with rfl|rfl
   ·exact this
   ·exact⟨this.os,this.tape,this.output,this.size,this.block⟩
  have Av:(setBlock w1 r (.mapIter (ae b) since (seen.push e.born) clock)).heap[r]? =ae (.mapIter (ae b) since (seen.push e.born) clock):=by simp[setBlock,lJ,aib]
  have jP:(setBlock w1 r (.mapIter (ae b) since (seen.push e.born) clock)).heap[b]? =ae (.map es clock):=(hO1.block b aia (λe'=>eb e'.symm)).trans h1;have ahZ:(es.toList.filter λe'=> !(seen.push e.born).contains e'.born).map (λe=>(e.key,e.val))=(dZ left x).map (λp=>(ek p.1,ev p.2)):=by
   have hff:(es.toList.filter λe'=> !(seen.push e.born).contains e'.born)=(es.toList.filter λe'=> !seen.contains e'.born).filter λe'=> !decide (e'.key=ek x):=by
    rw[List.filter_filter];apply List.filter_congr;intro e' LP;have ad9:(e'.born=e.born)↔(e'.key=ek x):=by
     constructor
     ·intro hbb;have:e'=e:=by have f1:=find_born e' _ h2.2.1 LP;have f2:=find_born e _ h2.2.1 hee;rw[hbb]at f1;exact be (f1.symm.trans f2)
      rw[this,Yv]
     ·intro hkk;have:=entry_eq_of_key ((stamped_iff es clock).1 h2).2.2 LP hee (hkk.trans Yv);rw[this]
    have:(seen.push e.born).contains e'.born=(seen.contains e'.born||decide (e'.key=ek x)):=by rw[l8];simp only[Array.contains_iff_mem,Array.mem_push,gi,decide_eq_true_eq];rw[ad9]
    rw[this,Bool.not_or,Bool.and_comm]
   rw[hff];unfold dZ;have gen: ∀(es:List MapEntry) (l:List (κ×ν)),es.map (λe=>(e.key,e.val))=l.map (λp=>(ek p.1,ev p.2))->
    (es.filter λe'=> !decide (e'.key=ek x)).map (λe=>(e.key,e.val))=(l.filter λp=> !decide (p.1=x)).map (λp=>(ek p.1,ev p.2)):=by
    intro es
    induction es with
    |nil=>intro l hl;cases l with
     |nil=>rfl
     |cons a l=>simp at hl
    |cons a es ih=>intro l hl;cases l with
     |nil=>simp at hl
     |cons p l=>
      simp only[eN,List.cons.injEq]at hl;have hap:(a.key=ek x)↔(p.1=x):=by have:=congrArg Prod.fst hl.1;simp only at this;rw[this];exact⟨λe=>K.inj e,λe=>by rw[e]⟩
      rw[qg,qg];by_cases hx:p.1=x
      ·rw[decide_eq_true (hap.2 hx),decide_eq_true hx];simpa using ih l hl.2
      ·rw[decide_eq_false (λe=>hx (hap.1 e)),decide_eq_false hx];simp only[Bool.not_false,if_true,eN];rw[hl.1,ih l hl.2]
   exact gen _ _ h9
  refine⟨x,v,_,hp,by rw[Yv,hk2];exact cT,⟨es,clock,since,_,clock,jP,h2,h3,h4,Av,h6,h8,h8,ahZ,λp hp=>Sr p (fP.1 hp).1⟩,hO1,by simp[setBlock,lJ],?_,?_⟩
  ·unfold dZ;exact List.length_filter_lt_length_iff_exists.2 ⟨(x,v),hp,by simp⟩
  ·rw[Yv,hk2];exact run_entry_at _ r b since seen es clock e Av jP hee h2.2.1
def xv {left:List (κ×ν)}(hn:(aW left).Nodup){x:κ}{v:ν}(h:(x,v)∈left):left.Perm ((x,v)::dZ left x):=by
 obtain⟨j,hj⟩:=List.mem_iff_getElem?.1 h;rw[yE hn hj];clear h hn
 induction left generalizing j with
 |nil=>simp at hj
 |cons a l ih=>
  cases j with
  |zero=>simp at hj;subst hj;exact qK _
  |succ j=>rw[List.eraseIdx_cons_succ];exact((ih j (by simpa using hj)).cons a).trans (cJ _ _ _)
def dn.drop (K:nQ P k ek good){r:Nat}{left:List (κ×ν)}(h:dn ek ev good w b r m left){t e:aA}(ht:P.underlying t=ae (.map k e)){x:κ}(hx:good x)(SE:x∉aW left)(ty:aA): ∃w',(me #[t,k] ty #[.map (ae b),ek x]).run P w=.ok (.tuple #[]) w'/\dn ek ev good w' b r (dZ m x) left/\db (· =b) w w'/\w'.heap.size=w.heap.size:=by
 have hn:=h.map.nodup K;have bJ:=h.map.lt;have sO:=h.ne;obtain⟨es,clock,since,seen,c0,hb,hs,he,hg,h5,h6,h7,h8,h9,Sr⟩:=h;have Cf: ∀p∈dZ m x,good p.1:=λp hp=>hg p (fP.1 hp).1
 have xX: ∀o,(setBlock w b o).heap[b]? =ae o:=λo=>by simp[setBlock,bJ]
 have Av: ∀o,(setBlock w b o).heap[r]? =ae (.mapIter (ae b) since seen c0):=λo=>((jc w b o).block r (aI.1 h5).1 sO).trans h5
 have SC: ∀p∈left,p∈dZ m x:=λp hp=>fP.2 ⟨Sr p hp,λe=>SE (by rw[<-e];exact aH.2 ⟨p,hp,rfl⟩)⟩
 rcases K.find w x hx es.toList (Dp he hg)with⟨h1,h2⟩|⟨j,e0,h1,h2,h3⟩
 ·have hnk:=(find_spec K he).1 h2;refine⟨setBlock w b (.map es clock),?_,⟨es,clock,since,seen,c0,xX _,hs,?_,Cf,Av _,h6,h7,h8,h9,SC⟩,jc _ _ _,by simp[setBlock]⟩
  ·simp[me,run_underlying ht,lP hb,K.check w _ x hx,h1,MapKept.run_setObj_map _ hb,dQ,setBlock]
  ·rw[SK hnk];exact he
 ·obtain⟨u,hu,heu⟩:=Di K he h2 h3;have sa:j<es.toList.length:=(bz.1 h2).1;have Wq:j<es.size:=by simpa using sa
  have mW:(es.eraseIdxIfInBounds j).toList=es.toList.eraseIdx j:=by unfold Array.eraseIdxIfInBounds;rw[dif_pos Wq];simp
  refine⟨setBlock w b (.map (es.eraseIdxIfInBounds j) clock),?_,⟨_,clock,since,seen,c0,xX _,stamped_erase hs j,?_,Cf,Av _,?_,h7,h8,?_,SC⟩,jc _ _ _,by simp[setBlock]⟩
  ·simp[me,run_underlying ht,lP hb,K.check w _ x hx,h1,MapKept.run_setObj_map _ hb,dQ,setBlock]
  ·rw[mW,yE hn hu,map_eraseIdx,map_eraseIdx,he]
  ·intro y hy;rw[mW]at hy;exact h6 y ((List.eraseIdx_sublist _ _).subset hy)
  ·rw[<-h9,mW];congr 1;have Nj:seen.contains e0.born=aw:=by
    cases hc:seen.contains e0.born
    ·exfalso;have jB:e0∈es.toList.filter λe=> !seen.contains e.born:=cm.2 ⟨pM h2,by rw[hc];rfl⟩
     have:(e0.key,e0.val)∈left.map (λp=>(ek p.1,ev p.2)):=by rw[<-h9];exact aH.2 ⟨e0,jB,rfl⟩
     obtain⟨p,hp,LS⟩:=aH.1 this;injection LS with q1 q2
     have:p.1=x:=K.inj (q1.trans h3);exact SE (by rw[<-this];exact aH.2 ⟨p,hp,rfl⟩)
    ·rfl
   have gen: ∀(l:List MapEntry) (j:Nat),l[j]? =ae e0->(l.eraseIdx j).filter (λe=> !seen.contains e.born)=l.filter (λe=> !seen.contains e.born):=by
    intro l
    induction l with
    |nil=>intro j hj;simp at hj
    |cons a l ih=>
     intro j hj;cases j with
     |zero=>simp at hj;subst hj;simp only[List.eraseIdx_cons_zero];rw[qg,Nj];simp
     |succ j=>simp only[List.eraseIdx_cons_succ,qg];rw[ih j (by simpa using hj)]
   exact gen _ _ h2
def CL (K:nQ P k ek good){ops:Array Oper}{rest:List Oper}{o:Oper}{a:Act}{Q:Exit->Act->ah->Prop}(sN:o.guard=ai)(mo xo:cG)(t e:aA)(c:Bool)(hop:o.op=Op.lookup t mo xo c)(ht:P.underlying t=ae (.map k e))(z:ao)(hz:(zeroValue e).run P w=.ok z w)(b:Nat)(m:List (κ×ν))(hm:a.eval mo=.map (ae b))(h:dW ek ev good w b m)(x:κ)(hx:a.eval xo=ek x)(Wm:good x)(val:ao)(KB:(if c then .tuple #[(dY m x).elim z ev,.bool (dY m x).isSome]else(dY m x).elim z ev)=val)(hK:wpList P ops Q rest (a.put o.dst val) w):wpList P ops Q (o::rest) a w:=by
 refine wpList_plain sN λK' jX=> ?_
 have cT:=h.look K ht hz Wm c;rw[KB]at cT;unfold Oper.wp;simp[execOp,hop,hm,hx,cT,dQ];exact jX _ _ hK
def iZ (K:nQ P k ek good){ops:Array Oper}{rest:List Oper}{o:Oper}{a:Act}{Q:Exit->Act->ah->Prop}(sN:o.guard=ai)(mo xo vo:cG)(t e:aA)(hop:o.op=Op.mapUpdate t mo xo vo)(ht:P.underlying t=ae (.map k e))(b:Nat)(m:List (κ×ν))(hm:a.eval mo=.map (ae b))(h:dW ek ev good w b m)(x:κ)(hx:a.eval xo=ek x)(Wm:good x)(v:ν)(hv:a.eval vo=ev v)(hK: ∀w',dW ek ev good w' b (hZ m x v)->db (· =b) w w'->w'.heap.size=w.heap.size->wpList P ops Q rest (a.put o.dst undef) w'):wpList P ops Q (o::rest) a w:=by
 refine wpList_plain sN λK' jX=> ?_
 obtain⟨w',cT,h1,h2,h3⟩:=h.store K ht Wm v;unfold Oper.wp;simp[execOp,hop,hm,hx,hv,cT,dQ];exact jX _ _ (hK w' h1 h2 h3)
def sx (K:nQ P k ek good){ops:Array Oper}{rest:List Oper}{o:Oper}{a:Act}{Q:Exit->Act->ah->Prop}(sN:o.guard=ai)(mo xo:cG)(t e:aA)(hop:o.op=Op.call {callee:=Callee.builtin Builtin.delete,args:= #[mo,xo],argTypes:= #[t,k]})(ht:P.underlying t=ae (.map k e))(b:Nat)(m:List (κ×ν))(hm:a.eval mo=.map (ae b))(h:dW ek ev good w b m)(x:κ)(hx:a.eval xo=ek x)(Wm:good x)(hK: ∀w',dW ek ev good w' b (dZ m x)->db (· =b) w w'->w'.heap.size=w.heap.size->wpList P ops Q rest (a.put o.dst (.tuple #[])) w'):wpList P ops Q (o::rest) a w:=by
 refine wpList_plain sN λK' jX=> ?_
 obtain⟨w',cT,h1,h2,h3⟩:=h.drop K ht Wm o.type;unfold Oper.wp;simp[execOp,hop,resolve,invoke,builtin,hm,hx,cT,dQ];exact jX _ _ (hK w' h1 h2 h3)
def j1 (K:nQ P k ek good){ops:Array Oper}{rest:List Oper}{o:Oper}{a:Act}{Q:Exit->Act->ah->Prop}(sN:o.guard=ai)(it:cG)(hop:o.op=Op.next it ay)(b r:Nat)(m left:List (κ×ν))(hit:a.eval it=.pointer (ae ⟨r,0,ai⟩))(h:dn ek ev good w b r m left)(Yd:left=[]->wpList P ops Q rest (a.put o.dst (.tuple #[.bool ay])) w)(Yj: ∀x v w',(x,v)∈left->dn ek ev good w' b r m (dZ left x)->db (· =r) w w'->w'.heap.size=w.heap.size->(dZ left x).length<left.length->(Instr.entry (.pointer (ae ⟨r,0,ai⟩))).run P w'=.ok (.tuple #[ek x,ev v]) w'->wpList P ops Q rest (a.put o.dst (.tuple #[.bool aw,ek x,ev v])) w'):wpList P ops Q (o::rest) a w:=by
 refine wpList_plain sN λK' jX=> ?_
 unfold Oper.wp;rcases h.step K o.type with⟨h0,cT⟩|⟨x,v,w',hx,cT,h1,h2,h3,h4,h5⟩
 ·simp[execOp,hop,hit,cT,dQ];exact jX _ _ (Yd h0)
 ·simp[execOp,hop,hit,cT,dQ];exact jX _ _ (Yj x v w' hx h1 h2 h3 h4 h5)
end
def gX {ops:Array Oper}{rest:List Oper}{o:Oper}{a:Act}{Q:Exit->Act->ah->Prop}(sN:o.guard=ai)(mo:cG)(t e:aA)(hop:o.op=Op.range t mo)(ht:P.underlying t=ae (.map k e))(b:Nat)(m:List (κ×ν))(hm:a.eval mo=.map (ae b))(h:dW ek ev good w b m)(hK: ∀w',dn ek ev good w' b w.heap.size m m->Below w.heap.size w w'->w'.heap.size=w.heap.size+1->wpList P ops Q rest (a.put o.dst (.pointer (ae ⟨w.heap.size,0,ai⟩))) w'):wpList P ops Q (o::rest) a w:=by
 refine wpList_plain sN λK' jX=> ?_
 obtain⟨w',cT,h1,h2,h3⟩:=h.range ht;unfold Oper.wp;simp[execOp,hop,hm,cT,dQ];exact jX _ _ (hK w' h1 h2 h3)
end
def aem {P:aS}{k:aA}(hk:P.underlying k=ae (.int .i64)):nQ P k (aF .i64) (λx=>(Lit.int .i64 x).wf=aw)where
 inj h:=by injection h
 check w em x hx:=(Maps.int_keyed hk).check w em (Maps.keyOf_int_mk hk hx)
 find w x hx es ui:=(Maps.int_keyed hk).find w (Maps.keyOf_int_mk hk hx) es λe he=>by obtain⟨y,hy,e1⟩:=ui e he;rw[e1];exact⟨_,Maps.keyOf_int_mk hk hy⟩
 stays w x:=by simp[Instr.keyThatStays,Instr.sameBits]
def aa9 {P:aS}{k:aA}{fs:Array Field}{n:Nat}(d:Nat)(hd:d<=9999)(hk:P.underlying k=ae (.struct fs))(hB:tu P d k=aw)(hc:P.cellsOf k=n)(hck: ∀(w:ah) (em:Bool) (xs:List Int),xs.length=n->(fV em 10000 k (.agg (ints xs))).run P w=.ok () w):nQ P k (λxs:List Int=>.agg (ints xs)) (λxs=>xs.length=n)where
 inj h:=by injection h with h;exact Nu h
 check:=hck
 find w x hx es ui:=by
  have ags: ∀(es:List MapEntry) (i:Nat),es≠ []->(∀e∈es,∃y:List Int,y.length=n/\e.key=.agg (ints y))->Instr.findNow (.struct fs) (.agg (ints x)) es i=ai:=by
   intro es i eb ui;cases es with
   |nil=>exact absurd rfl eb
   |cons e es=>obtain⟨y,_,e1⟩:=ui e (by simp);simp[Instr.findNow,e1,Instr.sameNow]
  have ahP: ∀(es:List MapEntry) (i:Nat),(∀e∈es,∃y:List Int,y.length=n/\e.key=.agg (ints y))->
   ((Instr.findAsking k (.agg (ints x)) es i).run P w=.ok ai w/\ ∀e∈es,e.key≠ .agg (ints x))\/ ∃j e,(Instr.findAsking k (.agg (ints x)) es i).run P w=.ok (ae (i+j,e.val)) w/\es[j]? =ae e/\e.key=.agg (ints x):=by
   intro es
   induction es with
   |nil=>intro i _;exact bm ⟨by simp[Instr.findAsking],by simp⟩
   |cons e es ih=>
    intro i ui;obtain⟨y,hy,e1⟩:=ui e (by simp);have heq:(Op.equal k (.agg (ints x)) e.key).run P w=.ok (decide (x=y)) w:=by
     rw[e1];have:=xl (P:=P) d (10000-d) k x y w hB (by rw[hc];exact hx) (by rw[hc];exact hy);rw[show 10000-d+d=10000 from by omega]at this;have hv: ∀zs:List Int,valOf P k zs=.agg (ints zs):=λzs=>by simp[valOf,hk]
     rw[hv,hv]at this;exact this
    by_cases rB:x=y
    ·right;refine⟨0,e,?_,rfl,by rw[e1,rB]⟩;rw[decide_eq_true rB]at heq;simp[Instr.findAsking,heq]
    ·rw[decide_eq_false rB]at heq;rcases ih (i+1) (λe he=>ui e (by simp[he]))with⟨h1,h2⟩|⟨j,e',h1,h2,h3⟩
     ·left;refine⟨by simp[Instr.findAsking,heq,h1],λe' LP=> ?_⟩;rcases cj.1 LP with rfl|LP
      ·rw[e1];intro h;injection h with h;exact rB (Nu h).symm
      ·exact h2 e' LP
     ·right;exact⟨j+1,e',by simp[Instr.findAsking,heq,h1];omega,by simpa using h2,h3⟩
  cases es with
  |nil=>left;simp[kG,run_underlying hk,Instr.findNow]
  |cons e0 es=>
   have h0:=ags (e0::es) 0 (by simp) ui;rcases ahP (e0::es) 0 ui with⟨h1,h2⟩|⟨j,e,h1,h2,h3⟩
   ·left;exact⟨by simp only[kG,eH,run_underlying hk,ij,h0];exact h1,h2⟩
   ·right;exact⟨j,e,by simp only[kG,eH,run_underlying hk,ij,h0];simpa using h1,h2,h3⟩
 stays w x:=by
  have:Instr.sameBits 10000 (.agg (ints x)) (.agg (ints x))=aw:=by
   show((ints x).size==(ints x).size&&((ints x).toList.zip (ints x).toList).all λ(a,b)=>Instr.sameBits 9999 a b)=aw;simp only[beq_self_eq_true,Bool.true_and,List.all_eq_true];rintro⟨a,b⟩ jM;rw[ja]at jM;have:a=b/\ ∃q,a=.int .i64 q:=by
    generalize x=l at jM
    induction l with
    |nil=>simp at jM
    |cons q l ih=>simp at jM;rcases jM with⟨rfl,rfl⟩|h;exact⟨rfl,q,rfl⟩;exact ih (by simpa using h)
   obtain⟨rfl,q,rfl⟩:=this;simp[Instr.sameBits]
  simp[Instr.keyThatStays,this]
end
section
open Go.RowKit
def uo {κ ν:Type}(ek:κ->ao)(ev:ν->ao)(good:κ->Prop)(b:Nat)(m:List (κ×ν)):bU where
 at_ w F:=dW ek ev good w b m/\F b
 frame h ho hd:=⟨h.1.only ho (hd _ h.2),h.2⟩
 cut h hd:=⟨h.1,hd _ h.1.lt h.2⟩
def gO {κ ν:Type}(ek:κ->ao)(ev:ν->ao)(good:κ->Prop)(b r:Nat)(m left:List (κ×ν)):bU where
 at_ w F:=dn ek ev good w b r m left/\F b/\F r
 frame h ho hd:=⟨h.1.only ho (hd _ h.2.1) (hd _ h.2.2),h.2⟩
 cut h hd:=⟨h.1,hd _ h.1.map.lt h.2.1,hd _ h.1.lt h.2.2⟩
section
variable {κ ν:Type} {ek:κ->ao} {ev:ν->ao} {good:κ->Prop} {b r:Nat} {m m' left I8:List (κ×ν)} {F:Nat->Prop} {w0 w w':ah} {l:List bU}
def In.fU (h:In F w0 (uo ek ev good b m::l) w):dW ek ev good w b m:=h.sep.head.1
def In.oJ (h:In F w0 (uo ek ev good b m::l) w)(h1:dW ek ev good w' b m')(h2:db (· =b) w w'):In F w0 (uo ek ev good b m'::l) w':=by obtain⟨F1,hA,hF,jQ⟩:=h.open_;exact jQ (A':=uo ek ev good b m') ⟨h1,bm hA.2⟩ (h2.mono λk _ e=>by rw[e];exact hA.2)
def In.EO (h:In F w0 l w)(ek:κ->ao)(ev:ν->ao)(good:κ->Prop):In F w0 (uo ek ev good w.heap.size []::l) (w.alloc (.map #[] 0)):=h.new (A:=uo ek ev good w.heap.size []) ((Below.refl _ _).alloc (ax _) _) ⟨dW.new _ _ _ _,ax _⟩
def In.rangeAt (h:In F w0 (gO ek ev good b r m left::l) w):dn ek ev good w b r m left:=h.sep.head.1
def In.Br (h:In F w0 (uo ek ev good b m::l) w)(hr:dn ek ev good w' b w.heap.size m left)(hb:Below w.heap.size w w')(hs:w'.heap.size=w.heap.size+1):In F w0 (gO ek ev good b w.heap.size m left::l) w':=by obtain⟨F1,hA,hF,jQ⟩:=h.open_;exact jQ (A':=gO ek ev good b w.heap.size m left) ⟨hr,bm hA.2,bO ⟨ax _,by omega⟩⟩ (db.gA hb)
def In.nf (h:In F w0 (gO ek ev good b r m left::l) w)(hr:dn ek ev good w' b r m I8)(ho:db (· =r) w w'):In F w0 (gO ek ev good b r m I8::l) w':=by obtain⟨F1,hA,hF,jQ⟩:=h.open_;exact jQ (A':=gO ek ev good b r m I8) ⟨hr,bm hA.2.1,bm hA.2.2⟩ (ho.mono λk _ e=>by rw[e];exact hA.2.2)
def In.Lc (h:In F w0 (gO ek ev good b r m left::l) w)(hr:dn ek ev good w' b r m' I8)(ho:db (· =b) w w'):In F w0 (gO ek ev good b r m' I8::l) w':=by obtain⟨F1,hA,hF,jQ⟩:=h.open_;exact jQ (A':=gO ek ev good b r m' I8) ⟨hr,bm hA.2.1,bm hA.2.2⟩ (ho.mono λk _ e=>by rw[e];exact hA.2.1)
def In.ud (h:In F w0 (gO ek ev good b r m left::l) w):In F w0 (uo ek ev good b m::l) w:=by obtain⟨F1,hA,hF,jQ⟩:=h.open_;exact jQ (A':=uo ek ev good b m) ⟨hA.1.map,bm hA.2.1⟩ db.refl
def dn.sub (h:dn ek ev good w b r m left): ∀p∈left,p∈m:=by obtain⟨es,clock,since,seen,c0,_,_,_,_,_,_,_,_,_,Sr⟩:=h;exact Sr
end
def In.add0 {A:bU}{F:Nat->Prop}{w0 w:ah}{l:List bU}(h:In F w0 l w)(ha:A.at_ w (λ_=>False)):In F w0 (A::l) w:=⟨⟨λ_=>False,_,ha,h.sep,λ_ h=>h.elim,λk h=>by rcases h with h|h;exact h.elim;exact h⟩,h.only⟩
abbrev fM (v:ao)(zs:List Int):bU:=eD 3 1 v zs.length (zs.map (aF .i64))
def In.oI {F:Nat->Prop}{w0 w:ah}{l:List bU}{v:ao}{zs:List Int}(h:In F w0 (fM v zs::l) w): ∃A c,v=.slice A zs.length c/\sE w w.heap.size A zs.length zs:=by have:ql w 0 v zs:=h.sep.head.1;exact this.form
def EU {w:ah}{B:Nat}{e:aA}{size n:Nat}{v:ao}{xs:List ao}(h:w.ownsRow B e size v n xs):w.ownsRow 0 e size v n xs:=⟨h.1,by rcases h.2 with h|⟨g,cap,cur,e,_,r⟩;exact bm h;exact bO ⟨g,cap,cur,e,cE _,r⟩⟩
def In.xw {F:Nat->Prop}{w0 w w':ah}{l:List bU}{v:ao}{zs:List Int}(h:In F w0 l w)(ho:ql w' w.heap.size v zs)(hb:Below w.heap.size w w'):In F w0 (fM v zs::l) w':=h.new hb ⟨EU ho,λk hk=>(gJ ho k hk).1⟩
def lk {x:Int}(h: -1000000000000<=x/\x<=1000000000000):(Lit.int .i64 x).wf=aw:=WalkArith.wf_i64 (by omega)
def wz:nQ aj 3 (aF .i64) (λx=>(Lit.int .i64 x).wf=aw):=aem Tryz.underlying3
abbrev ot (x:Int):Prop:=(Lit.int .i64 x).wf=aw
section
variable {κ ν:Type} [DecidableEq κ] {m:List (κ×ν)}
end
def TS (n:Nat)(em:Bool)(v:ao)(w:ah):(fV em (n+1) 3 v).run aj w=.ok () w:=by
 unfold fV;rw[eH,run_underlying Tryz.underlying3]
 rfl
def J9 (w:ah)(em:Bool)(xs:List Int)(h:xs.length=2):(fV em 10000 43 (.agg (ints xs))).run aj w=.ok () w:=by
 have p0:(part 3 (ints xs) 0).run aj w=.ok (.int .i64 (xs.getD 0 0)) w:=by have:=qH (P:=aj) w 1 3 xs 0 (by kernel_rfl) (by rw[show Tryz.prog.cellsOf 3=1 from by kernel_rfl];omega);rw[this,show Tryz.prog.cellsOf 3=1 from by kernel_rfl];simp[valOf,Tryz.underlying3,sd,bB]
 have p1:(part 3 (ints xs) 1).run aj w=.ok (.int .i64 (xs.getD 1 0)) w:=by have:=qH (P:=aj) w 1 3 xs 1 (by kernel_rfl) (by rw[show Tryz.prog.cellsOf 3=1 from by kernel_rfl];omega);rw[this,show Tryz.prog.cellsOf 3=1 from by kernel_rfl];simp[valOf,Tryz.underlying3,sd,bB]
 have c0:=λv=>TS 9998 em v w
 rw[show(10000:Nat)=(9998+1)+1 from rfl];unfold fV;rw[eH,run_underlying Tryz.underlying43];simp[p0,p1,c0]
def abx:nQ aj 43 (λxs:List Int=>.agg (ints xs)) (λxs=>xs.length=2):=aa9 3 (by omega) Tryz.underlying43 (by kernel_rfl) (by kernel_rfl) J9
def lf (h:Hd):ao:=.agg (ints (hL h))
@[go_sem] theorem kX (a b:Int):lf (a,b)=.agg #[.int .i64 a,.int .i64 b]:=rfl
def Yh {a b:Hd}(h:hL a=hL b):a=b:=by
 unfold hL at h;injection h with h1 h2
 injection h2 with h2 _
 exact Prod.ext h1 h2
def pf:nQ aj 43 lf (λ_=>True)where
 inj h:=Yh (abx.inj h)
 check w em x _:=abx.check w em (hL x) rfl
 find w x _ es he:=abx.find w (hL x) rfl es (λe h=>by obtain⟨y,_,hy⟩:=he e h;exact⟨hL y,rfl,hy⟩)
 stays w x:=abx.stays w (hL x)
def O8 (w:ah):(zeroValue 43).run aj w=.ok (lf (0,0)) w:=by kernel_rfl
abbrev Az (b:Nat)(m:kN):bU:=uo lf lf (λ_=>True) b m
abbrev iy (v:ao)(hs:List Hd):bU:=eD 43 2 v hs.length (hs.flatMap hC)
def o0 {w:ah}{v:ao}{hs:List Hd}(h:w.ownsRow 0 43 2 v hs.length (hs.flatMap hC)): ∃A c,v=.slice A hs.length c/\hs.length<=c/\c<=maxLen/\ ∀k,(hk:k<hs.length)-> ∃g,A=ae ⟨g,0,ai⟩/\row? w g (k *2) 2=ae (ints [hs[k].1,hs[k].2]):=by obtain⟨A,c,rfl,vA,uL,hA⟩:=cM h;refine⟨A,c,rfl,vA,uL,λk hk=> ?_⟩;obtain⟨g,rfl⟩:=hA (by omega);have hr:=mD h hk;rw[mv AV hs k hk]at hr;exact⟨g,rfl,hr⟩
section
variable {G:Nat->Prop} {w0 w w':ah} {l:List bU}
def In.xe {E:aA}{size n:Nat}{v v':ao}{xs news:List ao}{o:Obj}(h:In G w0 (eD E size v n xs::l) w)(jg:w'.ownsRow 0 E size v' (n+1) (xs++news))(hg:(w.alloc o).grownBy w' v.ownBlock)(wx:v'.ownBlock=v.ownBlock\/v'.ownBlock=ae (w.heap.size+1)):In G w0 (eD E size v' (n+1) (xs++news)::l) w':=by
 obtain⟨F1,⟨h1,h2⟩,_,jQ⟩:=h.open_;refine jQ (A':=eD E size v' (n+1) (xs++news)) ⟨jg,λk hk=> ?_⟩ ((db.refl.alloc o).trans' (db.grown (F:=F1) hg λk hk=>h2 k hk) λk _ hk=>hk);rcases wx with e|e
 ·exact bm (h2 k (by rw[<-e];exact hk))
 ·rw[hk]at e;injection e with e
  exact bO ⟨by omega,(gJ jg k hk).2⟩
def In.J2 {v v':ao}{cs:List Hd}{x:Hd}{o:Obj}(h:In G w0 (iy v cs::l) w)(jg:w'.ownsRow 0 43 2 v' (cs.length+1) (cs.flatMap hC++[.int .i64 x.1,.int .i64 x.2]))(hg:(w.alloc o).grownBy w' v.ownBlock)(wx:v'.ownBlock=v.ownBlock\/v'.ownBlock=ae (w.heap.size+1)):In G w0 (iy v' (cs++[x])::l) w':=by have:=h.xe jg hg wx;unfold iy;rw[aZ,dG];exact this
def In.rowAt {E:aA}{size n:Nat}{v:ao}{xs:List ao}(h:In G w0 (eD E size v n xs::l) w):w.ownsRow 0 E size v n xs:=h.sep.head.1
def In.mN (h:In G w0 l w)(E:aA)(size:Nat):In G w0 (eD E size (.slice ai 0 0) 0 []::l) w:=h.add0 ⟨oh _ _ _ _,λk hk=>by simp[fx]at hk⟩
end
def lu:(Tryz.prog.info? 43).map (λi=>(i.zero,i.size,i.bytes))=ae (ae (.agg #[.int .i64 0,.int .i64 0]),2,16):=by kernel_rfl
def j3 (p:Nat)(m:kN):bU where
 at_ w F:=kg m/\ ∃b,Sep [br p 175 #[.map (ae b)],Az b m] w F
 frame h ho hd:=by obtain⟨h1,b,hs⟩:=h;exact⟨h1,b,hs.frame ho hd⟩
 cut h hd:=by obtain⟨h1,b,hs⟩:=h;exact⟨h1,b,hs.cut hd⟩
section
variable {G:Nat->Prop} {w0 w:ah} {l:List bU} {p b:Nat} {m:kN}
def In.xx (h:In G w0 (j3 p m::l) w):kg m/\ ∃b,In G w0 (br p 175 #[.map (ae b)]::Az b m::l) w:=by obtain⟨⟨F1,F2,⟨hm,b,hs⟩,h2,h3,h4⟩,ho⟩:=h;exact⟨hm,b,(Sep.join hs h2 h3).cut λk _ hk=>h4 k hk,ho⟩
def In.qz (hm:kg m)(h:In G w0 (br p 175 #[.map (ae b)]::Az b m::l) w):In G w0 (j3 p m::l) w:=by obtain⟨hs,ho⟩:=h;obtain⟨F1,F2,h1,h2,h3,h4⟩:=Sep.part (l1:=[br p 175 #[.map (ae b)],Az b m]) (l2:=l) hs;exact⟨⟨F1,F2,⟨hm,b,h1⟩,h2,h3,h4⟩,ho⟩
def In.XV (h:In G w0 (j3 p m::l) w):kg m:=h.xx.1
end
def sg (ss:List Sys)(n i:Nat)(x:Int):List Int:=cA ss i++x::bW (n-i-1) 0
def P6 (ss:List Sys)(n i:Nat)(h:i<n):cA ss i++bW (n-i) 0=sg ss n i 0:=by unfold sg;rw[show n-i=(n-i-1)+1 from by omega,List.replicate_succ];simp
def X9 (ss:List Sys)(n i:Nat):sg ss n i (gU ss (cA ss i) (ss.getD i dB) i)=cA ss (i+1)++bW (n-(i+1)) 0:=by unfold sg;rw[cA,cx,show n-(i+1)=n-i-1 from by omega];rfl
def Ya (ss:List Sys)(n i:Nat)(x y:Int):(sg ss n i x).set i y=sg ss n i y:=by unfold sg;rw[oA _ _ (by rw[fc];omega),fc,Nat.sub_self];rfl
def abh (ss:List Sys)(n i:Nat)(x:Int):(ints (sg ss n i x))[i]? =ae (.int .i64 x):=by rw[lg];simp[sg,List.getElem?_append,fc]
def X' (ss:List Sys)(n i k:Nat)(x:Int)(hk:k<i):(ints (sg ss n i x))[k]? =ae (.int .i64 ((cA ss i).getD k 0)):=by
 rw[lg];have:k<(cA ss i).length:=by rw[fc];exact hk
 simp[sg,List.getElem?_append,fc,hk,bB,aq this]
def Fg {v:ao}{n m:Int}(h:n=m):Ending.returned (.tuple #[v,.int .i64 n])=.returned (.tuple #[v,.int .i64 m]):=by rw[h]
def NY (A:Option Addr)(c:Nat)(ss:List Sys)(w:ah)(h:vi w w.heap.size A ss)(hn:ss.length<=maxLen):Calls aj 36 #[.slice A ss.length c] w λe w'=> ∃v,e=.returned (.tuple #[v,.int .i64 (eF ss).2])/\ql w' w.heap.size v (eF ss).1/\Below w.heap.size w w':=by
 have H:=af h;have hnm:(ss.length:Int)<=9223372036854775807:=by unfold maxLen at hn;omega
 clear h
 go_enter Tryz.func36,Tryz.ntmps36
 by_cases h20:20<ss.length
 ·have hd:(decide (20<(ss.length:Int)))=aw:=by simp;omega
  have HR:Hid (eF ss=([],2)):=by unfold Hid eF;rw[if_pos h20]
  go_wp2_with fail
  go_ret2
  exact⟨_,Fg (by rw[HR.out]),by rw[HR.out];exact ql.nil _ _,Below.refl _ _⟩
 have hd:(decide (20<(ss.length:Int)))=ay:=by simp;omega
 go_wp2_with fail
 go_loopw [16] (λi w'=> ∃k:Nat,k<=ss.length/\i=.int .i64 k/\(∀j,j<k->fa (ss.getD j dB)=0)/\Below w.heap.size w w') (λi _=>ss.length-(intOf i).toNat)
 case atStart=>exact⟨0,by omega,rfl,λj hj=>by omega,Below.refl _ _⟩
 case round=>
  obtain⟨k,hk,rfl,Es,hb⟩:=hrel;have yo:=af Es;have xc:=af hb;clear Es hb;by_cases bJ:k<ss.length
  ·have vI:(k:Int)<ss.length:=by omega
   obtain⟨b,o,rfl,zJ,fg⟩:=(H.out.below xc.out).at_ bJ;generalize hS:ss.getD k dB=s at *;have HS:=af hS;clear hS
   go_upto_region 6 with(fail)
   refine bZ (λw'=>dt w' wr.heap.size 54 (ints s.list)/\Below wr.heap.size wr w') ⟨gD wr 54 [0,0,0,0,0,0,0] _ rfl,dV wr 54 [0,0,0,0,0,0,0] _⟩ ?_;rintro w1 ⟨C2,lJ⟩;have fs:row? w1 wr.heap.size 0 7=ae (ints s.list):=C2.bt rfl;have qk:=af (xc.out.trans (lJ.mono xc.out.size));clear C2 lJ
   go_wp2_with fail
   refine(TR s _).mono ?_;rintro e w2 ⟨rfl,gF⟩;have pW:=af (qk.out.trans (gF.mono qk.out.size));clear gF fs;by_cases he:fa s=0
   ·have HE:=af he;rw[he];clear he
    go_wp2_with fail
    go_roundw
    case rel=>
     refine⟨k+1,by omega,by go_num,λj hj=> ?_,pW.out⟩;by_cases yy:j=k
     ·rw[yy,HS.out];exact HE.out
     ·exact yo.out j (by omega)
    case measure=>simp[intOf];omega
   ·have HR:Hid (eF ss=([],fa s)):=by
     have h1:iM (ss.map fa)=fa s:=by rw[<-HS.out];exact MQ bJ yo.out (by rw[HS.out];exact he)
     unfold Hid eF;rw[if_neg h20,h1,if_neg he]
    have LP:(fa s !=0)=aw:=by simpa using he
    clear he;generalize fa s=E at *
    go_wp2_with fail
    go_ret2
    exact⟨_,Fg (by rw[HR.out]),by rw[HR.out];exact ql.nil _ _,pW.out⟩
  ·have Uo:k=ss.length:=by omega
   subst Uo;have HR:Hid (eF ss=(cA ss ss.length,0)):=by unfold Hid eF;rw[if_neg h20,if_pos (He yo.out)]
   have hmk: ∀W,(Instr.makeSlice 32 (.int .i64 (ss.length:Int)) (.int .i64 (ss.length:Int))).run aj W=.ok (.slice (ae ⟨W.heap.size,0,ai⟩) ss.length ss.length) (W.alloc (.cells (ints (bW ss.length 0)) 3)):=Hv ss.length (by omega)
   go_upto_region 11 with(fail)
   refine bZ (λw'=>dt w' wr.heap.size 3 (ints (cA ss 0++bW (ss.length-0) 0))/\Below w.heap.size w w') ⟨dt.new _ _ _,xc.out.alloc xc.out.size _⟩ ?_;rintro w1 ⟨ho1,lJ⟩;have LQ:w.heap.size<=wr.heap.size:=xc.out.size;have Pf:=af ho1;have qk:=af lJ;clear ho1 lJ xc yo;generalize wr.heap.size=g7 at *
   go_wp2_with fail
   go_loopw [31] (λi w'=> ∃k:Nat,k<=ss.length/\i=.int .i64 k/\dt w' g7 3 (ints (cA ss k++bW (ss.length-k) 0))/\Below w.heap.size w w') (λi _=>ss.length-(intOf i).toNat)
   case atStart=>exact⟨0,by omega,rfl,Pf.out,qk.out⟩
   case round=>
    clear Pf qk;obtain⟨i,hi,rfl,ho,hb⟩:=hrel;have xc:=af hb;by_cases bJ:i<ss.length
    ·rw[P6 ss _ i bJ]at ho;have HO:=af ho;clear ho hb;have vI:(i:Int)<ss.length:=by omega
     obtain⟨b,o,rfl,zJ,fg⟩:=(H.out.below xc.out).at_ bJ;generalize hS:ss.getD i dB=s at *;have HS:=af hS;clear hS
     go_upto_region 14 with(fail)
     refine bZ (λw'=>dt w' wr.heap.size 54 (ints s.list)/\dt w' g7 3 (ints (sg ss ss.length i 0))/\Below w.heap.size w w') ?_ ?_
     ·have hb:=dV wr 54 [0,0,0,0,0,0,0] s.list;exact⟨gD wr 54 [0,0,0,0,0,0,0] _ rfl,HO.out.after hb,xc.out.trans (hb.mono xc.out.size)⟩
     rintro w2 ⟨tF,ho2,gF⟩;have hg9:g7<wr.heap.size:=HO.out.lt;have RU:=af tF;have HO2:=af ho2;have pW:=af gF;clear tF ho2 gF HO xc fg;generalize wr.heap.size=g9 at *
     go_wp2_with fail
     go_loopw [37] (λj w'=> ∃k:Nat,k<=i/\j=.int .i64 k/\dt w' g9 54 (ints s.list)/\dt w' g7 3 (ints (sg ss ss.length i (gU ss (cA ss i) s k)))/\Below w.heap.size w w') (λj _=>i-(intOf j).toNat)
     case atStart=>exact⟨0,by omega,rfl,RU.out,HO2.out,pW.out⟩
     case round=>
      clear RU HO2 pW;obtain⟨k,hk,rfl,hs3,ho3,IV⟩:=hrel;have HS3:=af hs3;have HO3:=af ho3;have V3:=af IV;clear hs3 ho3 IV;by_cases vI:k<i
      ·have hkI:(k:Int)<i:=by omega
       have Uo:(k:Int)<ss.length:=by omega
       obtain⟨b',o',he,ahS,fg⟩:=(H.out.below V3.out).at_ (show k<ss.length by omega);cases he;have hP:Hid (gU ss (cA ss i) s (k+1)=if gQ s (ss.getD k dB)then max (gU ss (cA ss i) s k) ((cA ss i).getD k 0+1)else gU ss (cA ss i) s k):=rfl;generalize ss.getD k dB=s2 at *;have c1:=λn:After wr=>n.row (n:=7) HS3.out rfl
       have c2: ∀n:After wr,row? n.w b (o+k *7) 7=ae (ints s2.list):=λn=>(kB n.below (by have:=HO3.out.lt;omega) _ _).trans fg
       go_upto_region 17 with(fail)
       refine bF (by kernel_rfl) (by kernel_rfl) ?_
       repeat(go_big_quiet_step (first|(go_at_call 87;with_reducible exact ep (TT _ _ _))))
       refine wpQuiet_nil ?_;rintro _ ⟨n,rfl⟩;have hbn:Hid (Below w.heap.size w n.w):=V3.out.trans (n.below.mono V3.out.size);have HSn:=af (HS3.out.after n.below);have HOn:=af (HO3.out.after n.below);clear c1 c2 fg HS3 HO3 V3;have bnd:=Ds ss i k vI;cases hC:gQ s s2
       ·have hP':gU ss (cA ss i) s (k+1)=gU ss (cA ss i) s k:=by rw[hP.out,hC];rfl
        rw[<-hP']at HOn;clear hP hP' hC
        go_wp2_with fail
        go_roundw
        case rel=>exact⟨k+1,by omega,by go_num,HSn.out,HOn.out,hbn.out⟩
        case measure=>simp[intOf];omega
       ·have hP':gU ss (cA ss i) s (k+1)=max (gU ss (cA ss i) s k) ((cA ss i).getD k 0+1):=by rw[hP.out,hC];rfl
        have k1:n.w.cell? ⟨g7,i,ai⟩=ae (.int .i64 (gU ss (cA ss i) s k)):=by rw[HOn.out.cell];exact abh _ _ _ _
        have k2:n.w.cell? ⟨g7,k,ai⟩=ae (.int .i64 ((cA ss i).getD k 0)):=by rw[HOn.out.cell];exact X' _ _ _ _ _ vI
        have k3:n.w.frozen? ⟨g7,i,ai⟩=ay:=HOn.out.frozen i;have HOs:Hid (∀y,dt (n.w.setCell ⟨g7,i,ai⟩ (.int .i64 y)) g7 3 (ints (sg ss ss.length i y))):=λy=>by have:=HOn.out.set i (.int .i64 y);rwa[ints_set,Ya]at this
        have HP:=af hP';clear hP hP' hC HOn;generalize hpk:(cA ss i).getD k 0=pk at *;generalize hac:gU ss (cA ss i) s k=ac at *;have Nn:IntKind.i64.wrap (pk+1)=pk+1:=IntWalk.i64_in _ (by omega)
        go_upto_region 18 with(fail)
        go_still_tail 13,(by kernel_rfl)
        repeat still_step
        change wpList _ _ _ _ _ n.w.drew
        go_wp2_with fail
        go_roundw
        case rel=>exact⟨k+1,by omega,by go_num,(HSn.out.Hb (by omega) _ _),by rw[HP.out];exact HOs.out _,(hbn.out.setCell (p:=⟨g7,i,ai⟩) LQ _).drew⟩
        case measure=>simp[intOf];omega
      ·have:k=i:=by omega
       subst this
       go_wp2_with fail
       go_roundw
       case rel=>refine⟨k+1,by omega,by go_num,?_,V3.out⟩;have:=HO3.out;rwa[<-HS.out,X9]at this
       case measure=>simp[intOf];omega
    ·have:i=ss.length:=by omega
     subst this;rw[Nat.sub_self,List.replicate_zero,ew]at ho;have HO:=af ho;clear ho hb
     go_wp2_with fail
     go_ret2
     refine⟨_,Fg (by rw[HR.out]),?_,xc.out⟩;rw[HR.out];have:=ql.EP HO.out LQ (by rw[fc];exact hn);rwa[fc]at this
end
namespace Rel
open Go.Conc Go.ConcN
open Go.ConcR (KK WgAt rd wr Payload DC0 stA smA Bk)
section
variable {P:aS} {main:Bool} {b:bp} {a:Act} {k:List Item} {cs:List bp} {ops:Array Oper} {i:Nat} {rest:List Nat} {o:Oper} {f:bK} {fn:Func} {c:Code} {w:ah}
def p8 (f:bK)(caps args:Array ao):Deferred:={target:=.fn (.func f) caps,args:=args}
def Lh {u:cG}{args:Array cG}{uz:Array aA}{caps:Array ao}(hop:o.op=.call {callee:=.value u,args,argTypes:=uz})(hu:a.eval u=.func (.func f) #[] caps)(hf:P.funcs[f]? =ae fn)(iC:(fn.name== "runtime.NumGoroutine")=ay)(hb:fn.body.isNone=ay)(w:ah):(execOp a.eval o).run P w=.ok (.enter f (args.map a.eval++caps)) w:=by
 have h1: ¬fn.name= "runtime.NumGoroutine" :=by simpa using iC
 have h2: ¬fn.body=ai:=by cases hx:fn.body<;>simp_all
 unfold execOp;simp[hop,resolve,ic,invoke,callFunc,hf,h1,h2,hu]
def CV {u:cG}{args:Array cG}{uz:Array aA}{caps:Array ao}(hop:o.op=.call {callee:=.value u,args,argTypes:=uz})(hu:a.eval u=.func (.func f) #[] caps)(hf:P.funcs[f]? =ae fn)(iC:(fn.name== "runtime.NumGoroutine")=ay)(hb:fn.body.isNone=ay)(w:ah):(execOp a.eval o).events P w #[]= #[]:=by
 have h1: ¬fn.name= "runtime.NumGoroutine" :=by simpa using iC
 have h2: ¬fn.body=ai:=by cases hx:fn.body<;>simp_all
 unfold execOp;simp[hop,resolve,ic,invoke,callFunc,hf,h1,h2,hu]
def OL {u:cG}{args:Array cG}{uz:Array aA}{caps:Array ao}(ho:ops[i]? =ae o)(hw:bu o (yielded ops a.tmps)=aw)(hk:b.kind≠ .early)(hop:o.op=.call {callee:=.value u,args,argTypes:=uz})(hu:a.eval u=.func (.func f) #[] caps)(hf:P.funcs[f]? =ae fn)(iC:(fn.name== "runtime.NumGoroutine")=ay)(hb:fn.body=ae c):stepG P main (G (b.at a (.inRegion ops (i::rest)::k)) cs) w=.go (G ((base f).at {tmps:=(args.map a.eval++caps)++eG (fn.ntmps-(args.map a.eval++caps).size) undef,defers:=[]} [.code c]) (b.at a (.inRegion ops (i::rest)::k)::cs)) w #[]:=by
 have jP:fn.body.isNone=ay:=by rw[hb];rfl
 rw[stepG_enter ho hw hk (Lh hop hu hf iC jP w),enter_at _ hf hb];unfold listed;rw[CV hop hu hf iC jP w,seen_none]
def Lp {u:cG}{args:Array cG}{uz:Array aA}{caps:Array ao}(ho:ops[i]? =ae o)(hw:bu o (yielded ops a.tmps)=aw)(hk:b.kind≠ .early)(hop:o.op=.defer {callee:=.value u,args,argTypes:=uz})(hu:a.eval u=.func (.func f) #[] caps)(hr:b.roundOf=ai):stepG P main (G (b.at a (.inRegion ops (i::rest)::k)) cs) w=.go (G (b.at (Act.put ⟨a.tmps,p8 f caps (args.map a.eval)::a.defers⟩ o.dst undef) (.inRegion ops rest::k)) cs) w #[]:=by
 have cT:(execOp a.eval o).run P w=.ok (.defer (p8 f caps (args.map a.eval))) w:=by unfold execOp;simp[hop,resolve,ic,hu,p8]
 have he:(execOp a.eval o).events P w #[]= #[]:=by unfold execOp;simp[hop,resolve,ic,hu]
 have r9:(b.at ⟨a.tmps,p8 f caps (args.map a.eval)::a.defers⟩ (.inRegion ops (i::rest)::k)).finish undef=b.at (Act.put ⟨a.tmps,p8 f caps (args.map a.eval)::a.defers⟩ o.dst undef) (.inRegion ops rest::k):=by rw[nL,ho];rfl
 have Cg:(b.kind==CallKind.early)=ay:=by simpa using hk
 rw[stepG_oper ho hw,<-r9];simp[fe,cT,he,G,Frame.at,Cg,GStep.after,seen_none]
def H7 {todo:List Item}{ds:List Deferred}{caps args:Array ao}(hd:a.defers=p8 f caps args::ds)(hf:P.funcs[f]? =ae fn)(iC:(fn.name== "runtime.NumGoroutine")=ay)(hb:fn.body=ae c):stepG P main (G {b.at a todo with mode:=.returning} cs) w=.go (G ((baseD f).at {tmps:=(args++caps)++eG (fn.ntmps-(args++caps).size) undef,defers:=[]} [.code c]) ({b.at ⟨a.tmps,ds⟩ todo with mode:=.returning}::cs)) w #[]:=by
 have h1: ¬fn.name= "runtime.NumGoroutine" :=by simpa using iC
 rw[<-enter_atD (args++caps) hf hb];simp[G,stepG,unwind,callDeferred,Frame.at,hd,p8,invoke,callFunc,hf,h1,hb,GStep.after,seen_none]
def Mq (P:aS):bp:={(default:bp)with fn:=P.funcs.size,defers:=[],mode:=.panicking [goexitEntry]}
def Rl {caps args:Array ao}(hf:P.funcs[f]? =ae fn)(iC:(fn.name== "runtime.NumGoroutine")=ay)(hb:fn.body=ae c):stepG P main (born P (p8 f caps args)) w=.go (G ((baseD f).at {tmps:=(args++caps)++eG (fn.ntmps-(args++caps).size) undef,defers:=[]} [.code c]) [Mq P]) w #[]:=by
 have h1: ¬fn.name= "runtime.NumGoroutine" :=by simpa using iC
 rw[<-enter_atD (args++caps) hf hb];simp[G,born,stepG,unwind,callDeferred,p8,invoke,callFunc,hf,h1,hb,GStep.after,seen_none,Mq,goexitEntry]
def Db {uz:Array aA}{c0:bp}(ho:ops[i]? =ae o)(hw:bu o (yielded ops a.tmps)=aw)(hk:b.kind=.deferred)(hop:o.op=.call {callee:=.builtin .recover,args:= #[],argTypes:=uz})(hc:c0.mode=.returning)(hr:b.roundOf=ai):stepG P main (G (b.at a (.inRegion ops (i::rest)::k)) (c0::cs)) w=.go (G (b.at (a.put o.dst .nilIface) (.inRegion ops rest::k)) (c0::cs)) w #[]:=by
 have cT:(execOp a.eval o).run P w=.ok .recover w:=by unfold execOp;simp[hop,resolve,invoke,builtin]
 have he:(execOp a.eval o).events P w #[]= #[]:=by unfold execOp;simp[hop,resolve,invoke,builtin]
 have r9:(b.at a (.inRegion ops (i::rest)::k)).finish .nilIface=b.at (a.put o.dst .nilIface) (.inRegion ops rest::k):=by rw[nL,ho];rfl
 have Cg:(b.kind==CallKind.early)=ay:=by rw[hk];rfl
 rw[stepG_oper ho hw,<-r9];simp[fe,cT,he,G,Frame.at,hk,hr,GStep.after,seen_none,tryRecover,hc]
end
section
variable {P:aS} {b:bp} {a:Act} {todo:List Item} {F:Func}
def K2 (hk:b.kind=.deferred)(hd:a.defers=[])(hF:P.funcs[b.fn]? =ae F)(hr:F.results= #[]):QuitsD P 2 0 (G {b.at a todo with mode:=.returning} [Mq P]):=by
 refine QuitsD.ctl (g':=G (Mq P) []) rfl (λw=> ?_) ?_
 ·simp[G,stepG,unwind,doReturn,results,Frame.at,hk,hd,Mq,hF,hr,seen,GStep.after,goexitEntry]
 refine QuitsD.ctl (g':={G (Mq P) []with status:=.finished}) rfl (λw=> ?_) ⟨rfl,rfl⟩;simp[G,stepG,unwind,Mq,goexitEntry,Frame.catches]
 rfl
end
section
variable [Payload] {φ:Ph} {γ:Gh} {w:ah} {b:bp} {a:Act} {k:List Item} {cs:List bp} {ops:Array Oper} {i:Nat} {rest:List Nat} {o:Oper} {x y:Code} {c:cG} {id:Nat}
def mP (O:φ.Ok)(h:φ.WT γ (G (b.at a (.code x::.code y::k)) cs) w):φ.WT γ (G (b.at a (.code (.seq x y)::k)) cs) w:=.ctl O rfl (λ_=>stepG_seq) h
def LA (O:φ.Ok)(h:φ.WT γ (G (b.at a k) cs) w):φ.WT γ (G (b.at a (.code .skip::k)) cs) w:=.ctl O rfl (λ_=>stepG_skip) h
theorem Ao (O:φ.Ok)(h:φ.WT γ (G (b.at a (.code x::.inBlock id::k)) cs) w):φ.WT γ (G (b.at a (.code (.block id x)::k)) cs) w:=.ctl O rfl (λ_=>stepG_block) h
theorem FL (O:φ.Ok)(h:φ.WT γ (G (b.at a k) cs) w):φ.WT γ (G (b.at a (.inBlock id::k)) cs) w:=.ctl O rfl (λ_=>stepG_inBlock) h
def Tw (O:φ.Ok)(h:φ.WT γ (G (b.at a (.code x::.inLoop x::k)) cs) w):φ.WT γ (G (b.at a (.code (.loop x)::k)) cs) w:=.ctl O rfl (λ_=>stepG_loop) h
def JM (O:φ.Ok)(h:φ.WT γ (G (b.at a (.code x::.inLoop x::k)) cs) w):φ.WT γ (G (b.at a (.inLoop x::k)) cs) w:=.ctl O rfl (λ_=>stepG_inLoop) h
theorem iG (O:φ.Ok)(h:φ.WT γ (G (b.at a (.inRegion ops (bP ops.size)::k)) cs) w):φ.WT γ (G (b.at a (.code (.region id ops ay)::k)) cs) w:=.ctl O rfl (λ_=>stepG_region) h
def nB (O:φ.Ok)(h:φ.WT γ (G (b.at a k) cs) w):φ.WT γ (G (b.at a (.inRegion ops []::k)) cs) w:=.ctl O rfl (λ_=>stepG_region_end) h
def O3 (O:φ.Ok)(hc:a.eval c=.bool aw)(h:φ.WT γ (G (b.at a (.code x::k)) cs) w):φ.WT γ (G (b.at a (.code (.cond c x y)::k)) cs) w:=.ctl O rfl (λ_=>stepG_cond hc) h
def FK (O:φ.Ok)(hc:a.eval c=.bool ay)(h:φ.WT γ (G (b.at a (.code y::k)) cs) w):φ.WT γ (G (b.at a (.code (.cond c x y)::k)) cs) w:=.ctl O rfl (λ_=>stepG_cond hc) h
theorem Tv (O:φ.Ok){k':List Item}(he:exitTo id k=ae k')(h:φ.WT γ (G (b.at a k') cs) w):φ.WT γ (G (b.at a (.code (.exit id)::k)) cs) w:=.ctl O rfl (λ_=>stepG_exit he) h
def Ly (O:φ.Ok)(h:φ.WT γ (G {b.at a []with mode:=.returning} cs) w):φ.WT γ (G (b.at a []) cs) w:=.ctl O rfl (λ_=>stepG_end) h
def l7 (O:φ.Ok)(v:ao)(ho:ops[i]? =ae o)(hw:bu o (yielded ops a.tmps)=aw)(hb:b.kind≠ .early)(cT: ∀az,φ.e9 γ w az->(execOp a.eval o).run φ.P az=.ok (.value v) az)(jJ: ∀az,φ.e9 γ w az->(execOp a.eval o).events φ.P az #[]= #[])(h:φ.WT γ (G (b.at (a.put o.dst v) (.inRegion ops rest::k)) cs) w):φ.WT γ (G (b.at a (.inRegion ops (i::rest)::k)) cs) w:=.pure O v ho hw hb cT (λaz dp e he=>by rw[jJ az dp]at he;simp at he) h
theorem sB (O:φ.Ok)(v:ao){ad:Addr}(ho:ops[i]? =ae o)(hw:bu o (yielded ops a.tmps)=aw)(hb:b.kind≠ .early)(hl:γ.own ad.block\/φ.oS ad.block)(cT: ∀az,φ.e9 γ w az->(execOp a.eval o).run φ.P az=.ok (.value v) az)(jJ: ∀az,φ.e9 γ w az-> ∀e∈(execOp a.eval o).events φ.P az #[],e=⟨.cell ad,ay,ay⟩)(h:φ.WT γ (G (b.at (a.put o.dst v) (.inRegion ops rest::k)) cs) w):φ.WT γ (G (b.at a (.inRegion ops (i::rest)::k)) cs) w:=.pure O v ho hw hb cT (λaz dp e he=>by rw[jJ az dp e he];exact .inr ⟨rfl,ad.block,rfl,hl.imp id λx=>.inr ⟨rfl,x⟩⟩) h
variable {f:bK} {fn:Func} {z:Code}
def FJ (O:φ.Ok){u:cG}{args:Array cG}{uz:Array aA}{caps:Array ao}(ho:ops[i]? =ae o)(hw:bu o (yielded ops a.tmps)=aw)(hk:b.kind≠ .early)(hop:o.op=.call {callee:=.value u,args,argTypes:=uz})(hu:a.eval u=.func (.func f) #[] caps)(hf:φ.P.funcs[f]? =ae fn)(iC:(fn.name== "runtime.NumGoroutine")=ay)(hb:fn.body=ae z)(h:φ.WT γ (G ((base f).at {tmps:=(args.map a.eval++caps)++eG (fn.ntmps-(args.map a.eval++caps).size) undef,defers:=[]} [.code z]) (b.at a (.inRegion ops (i::rest)::k)::cs)) w):φ.WT γ (G (b.at a (.inRegion ops (i::rest)::k)) cs) w:=.ctl O rfl (λ_=>OL ho hw hk hop hu hf iC hb) h
def VD (O:φ.Ok){u:cG}{args:Array cG}{uz:Array aA}{caps:Array ao}(ho:ops[i]? =ae o)(hw:bu o (yielded ops a.tmps)=aw)(hk:b.kind≠ .early)(hop:o.op=.defer {callee:=.value u,args,argTypes:=uz})(hu:a.eval u=.func (.func f) #[] caps)(hr:b.roundOf=ai)(h:φ.WT γ (G (b.at (Act.put ⟨a.tmps,p8 f caps (args.map a.eval)::a.defers⟩ o.dst undef) (.inRegion ops rest::k)) cs) w):φ.WT γ (G (b.at a (.inRegion ops (i::rest)::k)) cs) w:=.ctl O rfl (λ_=>Lp ho hw hk hop hu hr) h
def RE (O:φ.Ok){todo:List Item}{ds:List Deferred}{caps args:Array ao}(hd:a.defers=p8 f caps args::ds)(hf:φ.P.funcs[f]? =ae fn)(iC:(fn.name== "runtime.NumGoroutine")=ay)(hb:fn.body=ae z)(h:φ.WT γ (G ((baseD f).at {tmps:=(args++caps)++eG (fn.ntmps-(args++caps).size) undef,defers:=[]} [.code z]) ({b.at ⟨a.tmps,ds⟩ todo with mode:=.returning}::cs)) w):φ.WT γ (G {b.at a todo with mode:=.returning} cs) w:=.ctl O rfl (λ_=>H7 hd hf iC hb) h
def acI (O:φ.Ok){caps args:Array ao}(hf:φ.P.funcs[f]? =ae fn)(iC:(fn.name== "runtime.NumGoroutine")=ay)(hb:fn.body=ae z)(h:φ.WT γ (G ((baseD f).at {tmps:=(args++caps)++eG (fn.ntmps-(args++caps).size) undef,defers:=[]} [.code z]) [Mq φ.P]) w):φ.WT γ (born φ.P (p8 f caps args)) w:=.ctl O rfl (λ_=>Rl hf iC hb) h
def Lz (O:φ.Ok){uz:Array aA}{c0:bp}(ho:ops[i]? =ae o)(hw:bu o (yielded ops a.tmps)=aw)(hk:b.kind=.deferred)(hop:o.op=.call {callee:=.builtin .recover,args:= #[],argTypes:=uz})(hc:c0.mode=.returning)(hr:b.roundOf=ai)(h:φ.WT γ (G (b.at (a.put o.dst .nilIface) (.inRegion ops rest::k)) (c0::cs)) w):φ.WT γ (G (b.at a (.inRegion ops (i::rest)::k)) (c0::cs)) w:=.ctl O rfl (λ_=>Db ho hw hk hop hc hr) h
def acK {t:aA}{u:cG}(ho:ops[i]? =ae o)(hw:bu o (yielded ops a.tmps)=aw)(hb:b.kind≠ .early)(hop:o.op=.recv t u aw)(hu:a.eval u=.chan (ae φ.Ch))(hz: ∀w,(execOp a.eval o).run φ.P w=.ok (.comm #[rcase φ.Ch φ.z] aw (.recv aw)) w)(he: ∀w,(execOp a.eval o).events φ.P w #[]= #[])(M': ∀az p,φ.e9 γ w az->p<φ.nj-> ¬γ.held p->φ.J0 p az->φ.WT (γ.hold p) (G (b.at (a.put o.dst (.tuple #[φ.jv p,.bool aw])) (.inRegion ops rest::k)) cs) az)(abm: ∀az,φ.e9 γ w az->φ.WT γ.close (G (b.at (a.put o.dst (.tuple #[φ.z,.bool ay])) (.inRegion ops rest::k)) cs) az):φ.WT γ (G (b.at a (.inRegion ops (i::rest)::k)) cs) w:=by
 have r9: ∀v,Go.Conc.served (G (b.at a (.inRegion ops (i::rest)::k)) cs) v=G (b.at (a.put o.dst v) (.inRegion ops rest::k)) cs:=λv=>by unfold Go.Conc.served;show({frame:=(b.at a (.inRegion ops (i::rest)::k)).finish v,callers:=cs,status:=.running,dying:=ai}:au)=_;rw[nL,ho];rfl
 refine .recv rfl (λaz _=> ?_) (λaz p h1 h2 h3 h4=> ?_) λaz h1=> ?_
 ·rw[stepG_comm ho hw hb (hz az)];unfold listed;rw[he az,seen_none]
 ·unfold Ph.got;rw[r9];exact M' az p h1 h2 h3 h4
 ·unfold Ph.got;rw[r9];exact abm az h1
end
end Rel
namespace Rel
open Go.Conc Go.ConcN Go.RowKit Go.Conc.Lib Go.ConcR.Gen Go.ConcN.Gen
open Go.ConcR (KK WgAt rd wr mk Payload DC0 stA smA wgBlock Aside2)
section
variable [Payload] {φ:Ph} {L:WgLink} {γ:Gh} {w:ah}
def afO {P:aS}(H:WgLib P L){Own Rd:Nat->Loc->Prop}{Wg C n Low k:Nat}{val:ao}{b₀:bp}{a₀:Act}{ops₀:Array Oper}{i₀:Nat}{rest₀:List Nat}{k₀:List Item}{cs:List bp}{qt:Nat}(hT:QuitsD P qt 0 (G (b₀.at (a₀.put ((ops₀[i₀]?).bind (·.dst)) (.tuple #[])) (.inRegion ops₀ rest₀::k₀)) cs))(w:ah)(hK:WgLive L.tWg Wg w/\Has C (k-1) val w):Goes P ay (RW L.tWg Wg C n Low (k-1)) (DWs Wg Own Rd C n k) (AtR0 P L.tWg Wg C n Low k val) 23 (G ((base L.done).at ⟨#[.pointer (ae ⟨Wg,0,ai⟩),undef,undef,undef],[]⟩ [.code (body_done L)]) (b₀.at a₀ (.inRegion ops₀ (i₀::rest₀)::k₀)::cs)) w:=by
 lib_facts
 have hA:= @addNegN _ L P H Own Rd Wg C n Low k val;simp only[body_done,body_add,doneFn,addFn,bT]at hA|-
 u_reg kn_rely hK
 u_op kn_rely hK
 u_in kn_rely hK
 refine goes_call rfl rfl (by k_ne) rfl H.f_add (nm_add L) rfl ⟨by u_nil,?_⟩
 walk_nrmf addFn
 refine hA (qt:=qt+3) ?_ _ hK;refine QuitsD.ctl rfl (λ_=>stepG_region_end) ?_;refine QuitsD.ctl rfl (λ_=>stepG_end) ?_;exact QuitsD.leave0 rfl rfl H.f_done rfl hT
def acJ (H:WgLib φ.P L)(Hk:φ.ty=L.tWg){C:Nat}{v:ao}{b₀:bp}{a₀:Act}{ops₀:Array Oper}{i₀:Nat}{rest₀:List Nat}{k₀:List Item}{cs:List bp}{qt:Nat}(YJ:γ.over)(hC:γ.own C)(hP:PayAt C 1 w)(hv:Has C 0 v w)(hl:WgLive φ.ty φ.Wg w)(hJ: ∀i,γ.held i->φ.JP (λb=>γ.own b/\b≠C) i w)(hT:QuitsD φ.P qt 0 (G (b₀.at (a₀.put ((ops₀[i₀]?).bind (·.dst)) (.tuple #[])) (.inRegion ops₀ rest₀::k₀)) cs)):φ.WT γ (G ((base L.done).at ⟨#[.pointer (ae ⟨φ.Wg,0,ai⟩),undef,undef,undef],[]⟩ [.code (body_done L)]) (b₀.at a₀ (.inRegion ops₀ (i₀::rest₀)::k₀)::cs)) w:=by refine .tail ⟨C,v,23,YJ,hC,hJ,hP,?_⟩;rw[Hk]at hl|-;exact afO (k:=1) H hT w ⟨hl,hv⟩
end
end Rel
namespace Rel
open Go.Conc Go.ConcN
open Go.ConcR (KK WgAt rd wr Payload DC0 stA smA Bk)
section
variable {P:aS}
def NS (V:Nat->Prop):Sub (only V):=λ_ _ h=>h.1
def Dr {V:Nat->Prop}:Ren.Ok P (only V):=⟨λ_ _ _ h k=>h.1.symm.trans k.1,λ_ _ _ h k=>h.1.trans k.1.symm,λ_ _ h=>by rw[h.1]⟩
def cz.tQ {S:jK}{V:Nat->Prop}{w w':ah}(h:cz P S (only V) w w)(hs:w.heap.size<=w'.heap.size)(hk: ∀b,V b->w'.heap[b]? =w.heap[b]?)(ho: ∀a x,S.mem a=ae x->w'.heap[a.block]? =w.heap[a.block]?):cz P S (only V) w' w':=h.keeps (NS V) hs (λb hb=>hk b hb.2) ho
def sub_eq {π:Ren}(s:Sub π):π=only (λr=>π r r):=by funext l r;exact propext ⟨λh=>⟨s _ _ h,(s _ _ h)▸h⟩,λh=>h.1▸h.2⟩
def zT {c:gj}(hc:c.Fits P){V:Nat->Prop}{w:ah}(hH:cz P c.sig (only V) w w){a:Act}{o:Oper}(Un: ∀t,c.kc t=.any)(rY:qy c o.op=aw)(jJ:nP c (only V) a.eval a.eval){x:Next}{w':ah}(hr:(execOp a.eval o).run P w=.ok x w'): ∃V':Nat->Prop,(∀r,V r->V' r)/\(∀r,V' r->V r\/(w.heap.size<=r/\r<w'.heap.size))/\cz P c.sig (only V') w' w'/\NQ c (only V') x x/\(∀r,r<w.heap.size-> ¬V r->w'.heap[r]? =w.heap[r]?)/\w.heap.size<=w'.heap.size/\w'.tape=w.tape/\w'.os=w.os/\w'.output=w.output/\ ∀e∈(execOp a.eval o).events P w #[],DN c.sig (only V') e:=by
 have cT:=(E6 hc Dr jJ ⟨λ_=>⟨rfl,rfl⟩,λt _=>.inr ⟨rfl,by rw[Un t];trivial⟩⟩ o rY).run hH #[] #[];have LU:(execOp a.eval o).runT P w #[]=(.ok x w',(execOp a.eval o).events P w #[]):=by rw[Sem.runT_eq,hr]
 rw[LU]at cT;obtain⟨_,_,h3⟩:=cT;obtain⟨bQ,x',R',ev,e,hR,vm,jY,hd,_,Uk⟩:=h3 λ_ _ _=>rfl
 rw[LU,kU]at hR;simp only[Prod.mk.injEq,Result.ok.injEq]at hR;obtain⟨⟨h1,h2⟩,h3⟩:=hR;subst h1;subst h2;have s':=(NS V).did hd rfl;rw[sub_eq s']at vm jY Uk;refine⟨λr=>bQ r r,λr hr=>hd.le _ _ ⟨rfl,hr⟩,λr hr=> ?_,jY,vm,λr hr hn=>hd.rest r hr λl hl=>hn (hl.1▸hl.2),hd.size,hd.tape,hd.os,hd.output,λe he=>Uk e (by rw[<-h3];exact he)⟩;rcases hd.new r r hr with h|⟨h,_⟩
 ·exact .inl h.2
 ·exact .inr ⟨h,(jY.lt (l:=r) (r:=r) ⟨rfl,hr⟩).1⟩
end
section
variable [Payload] {φ:Ph} {γ:Gh} {w:ah} {b:bp} {a:Act} {k:List Item} {cs:List bp} {ops:Array Oper} {i:Nat} {rest:List Nat} {o:Oper}
def M0 {c:gj}(jB: ∀a x,c.mem a=ae x->φ.oS a.block){V V':Nat->Prop}{w w':ah}{es:Array Event}(hV: ∀r,V r->γ.own r)(uh: ∀r,γ.own r-> ¬φ.CB r)(sM: ∀r,φ.CB r->r<w.heap.size)(hV': ∀r,V' r->V r\/(w.heap.size<=r/\r<w'.heap.size))(nH: ∀r,r<w.heap.size-> ¬V r->w'.heap[r]? =w.heap[r]?)(kJ:w.heap.size<=w'.heap.size)(h1:w'.tape=w.tape)(h2:w'.os=w.os)(h3:w'.output=w.output)(jJ: ∀e∈es,DN c.sig (only V') e):φ.CN γ w w' es:=by
 have af5: ∀r,φ.CB r->w'.heap[r]? =w.heap[r]?:=λr hr=>nH r (sM r hr) λhv=>uh r (hV r hv) hr
 refine⟨λr hr hn _=>nH r hr λhv=>hn (hV r hv),λad uh _=> ?_,λr hr=> ?_,kJ,h1,h2,h3,λe he=> ?_⟩
 ·unfold c8;rw[af5 _ uh]
 ·unfold fL;rw[af5 _ hr]
 ·have ho: ∀r,V' r->(γ.grow w w').own r:=λr hr=>(hV' r hr).elim (λh=>.inl (hV r h)) .inr
  cases jJ e he with
  |cell wr hb=>exact .inr ⟨rfl,_,rfl,.inl (ho _ (hb.1▸hb.2))⟩
  |obj wr hb=>exact .inr ⟨rfl,_,rfl,.inl (ho _ (hb.1▸hb.2))⟩
  |room=>exact .inl ⟨_,rfl,.inl rfl⟩
  |ext _=>exact .inl ⟨_,rfl,.inr ⟨_,rfl⟩⟩
  |old hm=>exact .inr ⟨rfl,_,rfl,.inr (.inr ⟨rfl,jB _ _ hm⟩)⟩
def RF {c:gj}(hc:c.Fits φ.P){V:Nat->Prop}(hV: ∀r,V r->γ.own r)(uh: ∀r,γ.own r-> ¬φ.CB r)(sM: ∀r,φ.CB r->r<w.heap.size)(hH:cz φ.P c.sig (only V) w w)(ho:ops[i]? =ae o)(hw:bu o (yielded ops a.tmps)=aw)(hb:b.kind≠ .early)(rY:qy c o.op=aw)(jJ:nP c (only V) a.eval a.eval)(Q:ah->ao->ah->Prop)(cT: ∀az,φ.e9 γ w az-> ∃v w',(execOp a.eval o).run φ.P az=.ok (.value v) w'/\Q az v w')(K: ∀az v w' (V':Nat->Prop),φ.e9 γ w az->Q az v w'->(∀r,V r->V' r)->(∀r,V' r->V r\/(az.heap.size<=r/\r<w'.heap.size))->cz φ.P c.sig (only V') w' w'->bx c.sig (only V') v v->(∀r,r<az.heap.size-> ¬V r->w'.heap[r]? =az.heap[r]?)->az.heap.size<=w'.heap.size->φ.WT (γ.grow az w') (G (b.at (a.put o.dst v) (.inRegion ops rest::k)) cs) w')(Un: ∀t,c.kc t=.any:=by intro t;rfl)(jB: ∀a x,c.mem a=ae x->φ.oS a.block:=by intro a x h;cases(show(ai:Option Int)=ae x from h)):φ.WT γ (G (b.at a (.inRegion ops (i::rest)::k)) cs) w:=by
 classical
 let vf:ah->ao:=λaz=>if r:φ.e9 γ w az then(cT az r).choose else undef
 let uf:ah->ah:=λaz=>if r:φ.e9 γ w az then(cT az r).choose_spec.choose else az
 have spec: ∀az,φ.e9 γ w az->(execOp a.eval o).run φ.P az=.ok (.value (vf az)) (uf az)/\Q az (vf az) (uf az):=λaz r=>by have:=(cT az r).choose_spec.choose_spec;simp only[vf,uf,dif_pos r];exact this
 have heap: ∀az,φ.e9 γ w az->cz φ.P c.sig (only V) az az:=λaz r=>hH.tQ r.size (λx hx=>r.own x (hV x hx)) λa x hx=>r.rd _ (jB a x hx)
 refine .op vf uf ho hw hb (λaz r=>(spec az r).1) (λaz r=> ?_) λaz r=> ?_
 ·obtain⟨V',_,h2,_,_,h5,h6,h7,h8,h9,Sr⟩:=zT hc (heap az r) Un rY jJ (spec az r).1;exact M0 jB hV uh (λx hx=>cc (sM x hx) r.size) h2 h5 h6 h7 h8 h9 Sr
 ·obtain⟨V',h1,h2,h3,h4,h5,h6,_⟩:=zT hc (heap az r) Un rY jJ (spec az r).1;cases h4 with
  |value h4=>exact K az _ _ V' r (spec az r).2 h1 h2 h3 h4 h5 h6
def acL {c:gj}(hc:c.Fits φ.P){V:Nat->Prop}(hV: ∀r,V r->γ.own r)(uh: ∀r,γ.own r-> ¬φ.CB r)(sM: ∀r,φ.CB r->r<w.heap.size)(hH:cz φ.P c.sig (only V) w w)(ho:ops[i]? =ae o)(hw:bu o (yielded ops a.tmps)=aw)(hb:b.kind≠ .early)(rY:qy c o.op=aw)(jJ:nP c (only V) a.eval a.eval)(u:ah->ah)(cT: ∀az,φ.e9 γ w az->(execOp a.eval o).run φ.P az=.ok .skip (u az))(K: ∀az (V':Nat->Prop),φ.e9 γ w az->(∀r,V r->V' r)->(∀r,V' r->V r\/(az.heap.size<=r/\r<(u az).heap.size))->cz φ.P c.sig (only V') (u az) (u az)->(∀r,r<az.heap.size-> ¬V r->(u az).heap[r]? =az.heap[r]?)->az.heap.size<=(u az).heap.size->φ.WT (γ.grow az (u az)) (G (b.at (a.put o.dst undef) (.inRegion ops rest::k)) cs) (u az))(Un: ∀t,c.kc t=.any:=by intro t;rfl)(jB: ∀a x,c.mem a=ae x->φ.oS a.block:=by intro a x h;cases(show(ai:Option Int)=ae x from h)):φ.WT γ (G (b.at a (.inRegion ops (i::rest)::k)) cs) w:=by
 have heap: ∀az,φ.e9 γ w az->cz φ.P c.sig (only V) az az:=λaz r=>hH.tQ r.size (λx hx=>r.own x (hV x hx)) λa x hx=>r.rd _ (jB a x hx)
 refine .opN u ho hw hb cT (λaz r=> ?_) λaz r=> ?_
 ·obtain⟨V',_,h2,_,_,h5,h6,h7,h8,h9,Sr⟩:=zT hc (heap az r) Un rY jJ (cT az r);exact M0 jB hV uh (λx hx=>cc (sM x hx) r.size) h2 h5 h6 h7 h8 h9 Sr
 ·obtain⟨V',h1,h2,h3,_,h5,h6,_⟩:=zT hc (heap az r) Un rY jJ (cT az r);exact K az V' r h1 h2 h3 h5 h6
def Y8 (U:List Tmp):List Tmp:=(bP 128).filter λt=> !U.contains t
def Ki {c:gj}{π:Ren}{U:List Tmp}{a:Act}(hc:c.bad=Y8 U)(kJ:a.tmps.size<=128)(h: ∀t∈U,bx c.sig π (a.tmps.getD t undef) (a.tmps.getD t undef)):nP c π a.eval a.eval:=by
 intro o ho;cases o with
 |tmp t=>
  have ht:t∉c.bad:=by simpa[eC]using ho
  rw[hc]at ht;show bx c.sig π (a.tmps.getD t undef) (a.tmps.getD t undef);by_cases hl:t<128
  ·by_cases hu:t∈U
   ·exact h t hu
   ·exact absurd (cm.2 ⟨ng.2 hl,by simpa using hu⟩) ht
  ·have SC:128<=t:=Nat.le_of_not_lt hl;have:a.tmps.getD t undef=undef:=by rw[bH,iH (bM kJ SC)];rfl
   rw[this];exact .tuple rfl (by simp)
 |const v=>exact xm 4 v ho π
 |global g=>cases ho
 |func f=>exact .func (.func ho) rfl (by simp) rfl (by simp)
end
end Rel
namespace Rel
open Go.Conc
variable {P:aS}
def tn (a:Addr): ∀(n i:Nat) (acc:Array ao) (w:ah) (es:Array Event),(∀j,j<n->(w.cell? (a.add (i+j))).isSome)-> ∀ev∈(loadCellsFrom a i n acc).events P w es,ev∈es\/ ∃ad:Addr,ev=⟨.cell ad,ay,ay⟩/\ad.block=a.block
 |0,_,_,_,_,_=>λev h=>.inl (by simpa[loadCellsFrom]using h)
 |n+1,i,acc,w,es,hc=>λev h=>by
  simp only[loadCellsFrom,Sem.events_bind]at h;obtain⟨u,hu⟩:=Option.isSome_iff_exists.1 (hc 0 (by omega));simp only[lC]at hu;have hr:(load (a.add i)).run P w=.ok u w:=by simp[hu]
  rw[hr]at h;rcases tn a n (i+1) (acc.push u) w _ (λj hj=>by have:=hc (j+1) (by omega);rwa[show i+(j+1)=i+1+j by omega]at this) ev h with h|h
  ·rw[events_load,hu]at h;rcases Array.mem_push.1 h with h|rfl
   ·exact .inl h
   ·exact .inr ⟨a.add i,rfl,by unfold Addr.add;split<;>rfl⟩
  ·exact .inr h
def T7 {t:aA}{g o n:Nat}{w:ah}(hag: ∀w,(isAgg t).run P w=.ok aw w)(hae: ∀w es,(isAgg t).events P w es=es)(kJ: ∀w,(sizeOf t).run P w=.ok n w)(hse: ∀w es,(sizeOf t).events P w es=es)(hc: ∀j,j<n->(w.cell? ⟨g,o+j,ai⟩).isSome): ∀e∈(eh t (.pointer (ae ⟨g,o,ai⟩))).events P w #[],∃ad:Addr,e=⟨.cell ad,ay,ay⟩/\ad.block=g:=by
 intro e he;have h:(eh t (.pointer (ae ⟨g,o,ai⟩))).events P w #[]=(loadCells ⟨g,o,ai⟩ n).events P w #[]:=by simp[eh,Instr.sureAddr,loadVar,hag,hae,kJ,hse]
 rw[h]at he;rcases tn ⟨g,o,ai⟩ n 0 #[] w #[] (λj hj=>by have:=hc j hj;rw[bS,show(⟨g,o,ai⟩:Addr).add j=⟨g,o+j,ai⟩from by unfold Addr.add;split<;>simp_all];exact this) e he with h|h
 ·simp at h
 ·exact h
def rh {t:aA}{g o n:Nat}{w:ah}{fs:Array Field}(hu:P.underlying t=ae (.struct fs))(hi:(P.info? t).map (·.size)=ae n)(hc: ∀j,j<n->(w.cell? ⟨g,o+j,ai⟩).isSome): ∀e∈(eh t (.pointer (ae ⟨g,o,ai⟩))).events P w #[],∃ad:Addr,e=⟨.cell ad,ay,ay⟩/\ad.block=g:=by
 obtain⟨i,h1,h2⟩:=aJ.1 hi;refine T7 (n:=n) (λw=> ?_) (λw es=> ?_) (λw=> ?_) (λw es=> ?_) hc
 ·simp[isAgg,Go.underlying,hu]
 ·simp[isAgg,Go.underlying,hu]
 ·simp[sizeOf,typeInfo,h1,h2]
 ·simp[sizeOf,typeInfo,h1]
end Rel
namespace Rel
open Go.Conc Go.ConcN
open Go.ConcR (KK WgAt rd wr Payload DC0 stA smA Bk)
def Ro {α:Type}:Sem α->Prop
 | .pure _=>True
 | .load _ _ k=> ∀v,Ro (k v)
 | .program k=> ∀p,Ro (k p)
 | .halt _=>True
 |_=>False
def Ro.bind {α β:Type}{s:Sem α}(h:Ro s){f:α->Sem β}(hf: ∀a,Ro (f a)):Ro (s.bind f):=by
 induction s with
 |pure a=>exact hf a
 |load m a k ih=>exact λv=>ih v (h v)
 |program k ih=>exact λp=>ih p (h p)
 |halt=>exact trivial
 |_=>exact h.elim
def Ro.bind' {α β:Type}{s:Sem α}(h:Ro s){f:α->Sem β}(hf: ∀a,Ro (f a)):Ro (s >>= f):=h.bind hf
def Ro.run {P:aS}{α:Type}{s:Sem α}(h:Ro s){w w':ah}{v:α}(hr:s.run P w=.ok v w'):w'=w:=by
 induction s with
 |pure a=>cases hr;rfl
 |load m a k ih=>
  simp only[Sem.run]at hr
  split at hr
  ·exact ih _ (h _) hr
  ·split at hr
   ·exact ih _ (h _) hr
   ·cases hr
 |program k ih=>exact ih _ (h _) hr
 |halt=>cases hr
 |_=>exact h.elim
def Dv {α:Type}(a:α):Ro (pure a:Sem α):=trivial
def Oo (t:aA):Ro (typeInfo t):=by
 unfold typeInfo;intro p;show Ro ((match p.info? t with|some i=>Sem.pure i|none=>stuck "no such type" :Sem TypeInfo))
 split<;>exact trivial
def Hu (t:aA):Ro (underlying t):=by
 unfold underlying;intro p;show Ro ((match p.underlying t with|some d=>Sem.pure d|none=>stuck "no such type" :Sem TypeDesc))
 split<;>exact trivial
def ZN (a:Addr): ∀(n i:Nat) (acc:Array ao),Ro (loadCellsFrom a i n acc):=by
 intro n
 induction n with
 |zero=>intro i acc;exact trivial
 |succ n ih=>intro i acc v;exact ih _ _
def Q7 (t:aA)(a:Addr):Ro (loadVar t a):=by
 unfold loadVar isAgg;refine Ro.bind' (Ro.bind' (Hu t) λd=> ?_) λb=> ?_
 ·split<;>exact trivial
 ·split
  ·exact Ro.bind' (Ro.bind' (Oo t) λ_=>Dv _) λn=>Ro.bind' (ZN a _ _ _) λ_=>Dv _
  ·exact λv=>trivial
def Ve (v:ao):Ro (asAddr v):=by
 unfold asAddr
 split
 ·exact trivial
 ·exact λp=>trivial
 ·exact trivial
def Q8 (F:Func)(t:Array ao):Ro (results F t):=by
 unfold results;refine Ro.bind' ?_ λvs=> ?_
 ·rw[Array.mapM_eq_mapM_toList];generalize F.results.toList=l;refine Ro.bind' ?_ λ_=>Dv _
  induction l with
  |nil=>exact trivial
  |cons a l ih=>
   rw[List.mapM_cons];refine Ro.bind' ?_ λb=>Ro.bind' ih λc=>Dv _
   cases a with
   |tmp t=>exact trivial
   |cell a t=>exact Ro.bind' (Ve _) λ_=>Q7 _ _
 ·split<;>exact trivial
theorem Oj {P:aS}{c:gj}{π:Ren}{L R:ah}(hw:cz P c.sig π L R){F:Func}{tL tR:Array ao}(hb:c.bad=[])(ht:s9 c π tL tR){v:ao}{t':Tape}{d':Nat}(hr:(results F tL).run P (dH L t' d')=.ok v (dH L t' d')): ∃bQ v' ev,(results F tR).runT P R #[]=(.ok v' R,ev)/\bx c.sig bQ v v'/\ ∀e∈ev,DN c.sig π e:=by
 have jY:cz P c.sig π (dH L t' d') R:=⟨hw.ok,hw.obj,hw.oE,hw.uB,hw.old⟩;have cT:=(yJ hw.ok F (Bi hb F) ht).run jY #[] #[];have LU:(results F tL).runT P (dH L t' d') #[]=(.ok v (dH L t' d'),(results F tL).events P (dH L t' d') #[]):=by rw[Sem.runT_eq,hr]
 rw[LU]at cT;obtain⟨_,_,h3⟩:=cT;obtain⟨bQ,v',R',ev,e,hR,hv,Qj,hd,Yn,jJ⟩:=h3 λi q hi=>by omega
 rw[kU]at hR;have hR1:(results F tR).run P R=.ok v' R':=by have:=hR;rw[Sem.runT_eq]at this;exact(Prod.mk.inj this).1
 obtain rfl:=(Q8 F tR).run hR1;have SA: ∀l r,bQ l r->π l r:=λl r h=>(hd.new l r h).elim id λx=>by have:=(Qj.lt h).2;omega
 refine⟨bQ,v',ev,hR,hv,λx hx=> ?_⟩;cases jJ x hx with
 |cell wr hb=>exact .cell wr (SA _ _ hb)
 |obj wr hb=>exact .obj wr (SA _ _ hb)
 |room=>exact .room
 |ext h=>exact .ext h
 |old h=>exact .old h
section
variable [Payload] {φ:Ph} {γ:Gh} {w:ah} {b:bp} {a:Act} {k:List Item} {cs:List bp} {ops:Array Oper} {i:Nat} {rest:List Nat} {o:Oper}
theorem Ph.WT.agL (O:φ.Ok){c:gj}(hc:c.Fits φ.P){f:bK}{args:Array cG}{uz:Array aA}{R:Ending->ah->Prop}{St:Nat->Prop}{F:Func}{x:Code}(ho:ops[i]? =ae o)(hw:bu o (yielded ops a.tmps)=aw)(hb:b.kind≠ .early)(hop:o.op=.call {callee:=.value (.func f),args,argTypes:=uz})(hf:c.fn f=aw)(hbd:c.bd f=[])(hF:φ.P.funcs[f]? =ae F)(iC:(F.name== "runtime.NumGoroutine")=ay)(hx:F.body=ae x)(pZ: ∀v∈args.map a.eval,BS c.sig v)(hg:φ.P.globals.size<=w.heap.size)(wm: ∀tp d,Calls φ.P f (args.map a.eval) (dH w tp d) R)(hR: ∀e L,R e L-> ∃v,e=.returned v/\Plain c.sig v)(uh: ∀r,γ.own r-> ¬φ.CB r)(tC: ∀r,φ.CB r->r<w.heap.size)(Qf: ∀r,φ.oS r->r<w.heap.size/\ ¬γ.own r)(gI: ∀r,St r->γ.own r/\r<w.heap.size)(hWg:φ.Wg<w.heap.size/\ ¬γ.own φ.Wg)(K: ∀v L (γ':Gh) w',R (.returned v) L->(∀r,γ.own r->γ'.own r)->γ'.held=γ.held->γ'.over=γ.over->(∀r,γ'.own r->γ.own r\/(w.heap.size<=r/\r<w'.heap.size))->Kept φ γ St w w'->φ.WT γ' (G (b.at (a.put o.dst v) (.inRegion ops rest::k)) cs) w')(jB: ∀a x,c.mem a=ae x->φ.oS a.block/\w.cell? a=ae (.int .i64 x):=by intro a x h;cases(show(ai:Option Int)=ae x from h)):φ.WT γ (G (b.at a (.inRegion ops (i::rest)::k)) cs) w:=by
 have jP:F.body.isNone=ay:=by rw[hx];rfl
 refine .enter O ho hw hb (λ_=>run_call_body hop hF iC jP) (λw=>events_call_body hop hF iC jP _) ?_;have ha: ∀π,cR c.sig π (args.map a.eval) (args.map a.eval):=λπ=>⟨rfl,λj u v hu hv=>by rw[hu]at hv;obtain rfl:=be hv;exact pZ u (ug hu) π⟩
 have h0:cz φ.P c.sig (λ_ _=>False) w w:=⟨⟨λ_ _ _ h=>h.elim,λ_ _ _ h=>h.elim,λ_ _ h=>h.elim⟩,λ_ _ h=>h.elim,hg,hg,λa x hx=>⟨λ_ h=>h,λ_ h=>h,(jB a x hx).2,(jB a x hx).2⟩⟩;have hT:=yi hc hf (R:=R) (λ_ _ h=>h.elim) h0 (.of (ha _)) (λe L h=>let⟨v,e,_⟩:=hR e L h;⟨v,e⟩) wm;refine Ph.WT.tree O (hc.at f) (St:=St) (w0:=w) (γ:=γ) (bot:=b.at a (.inRegion ops (i::rest)::k)::cs) hWg (λa x hx=>(jB a x hx).1) ?_ hT _ w γ _ ⟨rfl,rfl,.one (sV.enter hc hf (.of (ha (λ_ _=>False)))) rfl⟩ h0 (λ_ _ h=>h.elim) (λ_ h=>h) rfl rfl uh tC Qf (λr hr=>⟨(gI r hr).1,(gI r hr).2,λ_ h=>h⟩) (λ_ h=>.inl h) (.refl _ _ _ _);intro gL L g w' γ' π hH lN jY h1 h2 h3 h4 h6 h5;obtain⟨ahU,Wk,v,t',d',hr,hm,hd,hk,F',zG,cT⟩:=hH;obtain⟨e1,e2,agz⟩:=lN;rw[ahU]at agz;obtain⟨hFr,wo,AZ⟩:=Fz agz;obtain⟨f1,f2,f3,f4,f5,f6,f7,f8,f9,_,_⟩:=hFr;rw[Wk,hF]at zG;obtain rfl:=be zG;obtain⟨v2,ev2,IZ⟩:=hR _ _ hr;obtain rfl:v=v2:=by injection ev2
 have tE: ∀fu,φ.e9 γ' w' fu-> ∃ev,(results F g.frame.tmps).runT φ.P fu #[]=(.ok v fu,ev)/\ ∀e∈ev,DN c.sig π e:=λfu r=>by
  have Qj:cz φ.P c.sig π L fu:=⟨jY.ok,λl x hx=>by obtain⟨o,o',e1,e2,e3⟩:=jY.obj l x hx;exact⟨o,o',e1,(r.own x (h1 l x hx)).trans e2,e3⟩,jY.oE,bM jY.uB r.size,λa x hx=>by obtain⟨g1,g2,g3,g4⟩:=jY.old a x hx;exact⟨g1,g2,g3,(nU (r.rd _ (jB a x hx).1)).trans g4⟩⟩
  obtain⟨bQ,v',ev,M1,hv,jJ⟩:=Oj (c:=c.at f) Qj hbd f2 cT;obtain rfl:=IZ.2 bQ _ hv;exact⟨ev,M1,jJ⟩
 have dL:g.frame.mode=.returning:=f5.trans hm;have ad5:g.frame.defers=[]:=by rw[hd]at f4;generalize g.frame.defers=y at f4;cases f4;rfl
 have r9:(b.at a (.inRegion ops (i::rest)::k)).finish v=b.at (a.put o.dst v) (.inRegion ops rest::k):=by rw[nL,ho];rfl
 have hgf:g.frame.fn=f:=f1.trans Wk;refine .step (λ_=>G (b.at (a.put o.dst v) (.inRegion ops rest::k)) cs) id (λfu=>seen φ.P g.frame.fn ((results F g.frame.tmps).runT φ.P fu #[]).2++ #[]) (by rw[e2]) (λfu r=> ?_) λfu r=> ?_
 ·obtain⟨ev,M1,jJ⟩:=tE fu r;refine⟨?_,IP λe he=> ?_⟩
  ·rw[e2,wo,iY ay g.frame _ _ (by rw[dL];simp),oO ay g.frame _ _ ad5 dL,hgf,hF];simp only[phase,M1];have:doReturn φ.P ay g.frame (b.at a (.inRegion ops (i::rest)::k)::cs) ai v fu=.go (jW ((b.at a (.inRegion ops (i::rest)::k)).finish v) cs) fu #[]:=by unfold doReturn;simp only[f8]
   rw[this,r9]
   rfl
  ·rw[M1,Array.append_empty]at he;cases jJ e (kD _ _ e he)with
   |cell wr hb=>exact .inr ⟨rfl,_,rfl,.inl (h1 _ _ hb)⟩
   |obj wr hb=>exact .inr ⟨rfl,_,rfl,.inl (h1 _ _ hb)⟩
   |room=>exact .inl ⟨_,rfl,.inl rfl⟩
   |ext _=>exact .inl ⟨_,rfl,.inr ⟨_,rfl⟩⟩
   |old hm=>exact .inr ⟨rfl,_,rfl,.inr (.inr ⟨rfl,(jB _ _ hm).1⟩)⟩
 ·show φ.WT (γ'.grow fu fu) _ fu;rw[Gh.xp];exact(K v _ γ' w' hr h2 h3 h4 h6 h5).rely O r
end
end Rel
section
open Go.RowKit Go.ChangeShapes Go.WideShapes Go.ChangeAt Go.Deep
def Sys.Fit (s:Sys):Prop:= ∀x∈s.list,Fits x
end
section
open Go.RowKit
def eI (ls:List (Int×Bool))(a b:Int):Bool:=decide (0<=a)&&decide (a<ls.length)&&(decide ((ls.getD a.toNat (0,ay)).1=b)&&(ls.getD a.toNat (0,ay)).2)
def tM (p:Nat)(ls:List (Int×Bool))(F:Nat->Prop)(a b:Int)(w:ah)(h:eM w p ls F):Calls aj 72 #[.pointer (ae ⟨p,0,ai⟩),.agg #[.int .i64 a,.int .i64 b]] w λe w'=>e=.returned (.bool (eI ls a b))/\Below w.heap.size w w':=by
 obtain⟨A,c,f1,f2,f3,f4,f5,f6,f7⟩:=h.facts;have hp:=h.lt;have hd:Hid (eI ls a b=(decide (0<=a)&&decide (a<ls.length)&&(decide ((ls.getD a.toNat (0,ay)).1=b)&&(ls.getD a.toNat (0,ay)).2))):=rfl;have F1:=af f1;have F7:=af f7;clear f1 f2 f5 f6 f7 h
 go_enter Tryz.func72,Tryz.ntmps72
 go_upto_region 1 with(fail)
 have hB0:dt (w.alloc (.cells #[.int .i64 a,.int .i64 b] 43)) w.heap.size 43 #[.int .i64 a,.int .i64 b]:=dt.new _ _ _;refine bZ (λw'=>dt w' w.heap.size 43 #[.int .i64 a,.int .i64 b]/\Below w.heap.size w w') ⟨hB0,(Below.refl _ _).alloc (ax _) _⟩ ?_;rintro w1 ⟨Eo,lJ⟩;have qk:=af lJ;have c1: ∀n:After w1,n.w.cell? ⟨w.heap.size,0,ai⟩=ae (.int .i64 a):=λn=>n.cell (Eo.cell 0)
 have c2: ∀n:After w1,n.w.cell? ⟨w.heap.size,1,ai⟩=ae (.int .i64 b):=λn=>n.cell (Eo.cell 1)
 have c3: ∀n:After w1,n.w.cell? ⟨p,0,ai⟩=ae (.slice A ls.length c):=λn=>n.cell ((lJ.cell (p:=⟨p,0,ai⟩) hp).trans F1.out)
 clear hB0 Eo lJ;by_cases ha0:0<=a
 rotate_left
 ·have h1:decide (0<=a)=ay:=by simpa using ha0
  have HD:Hid (eI ls a b=ay):=by unfold Hid;rw[hd.out,h1];rfl
  refine bF (by kernel_rfl) (by kernel_rfl) ?_
  repeat(go_big_quiet_step (fail))
  refine wpQuiet_nil ?_;rintro _ ⟨n,rfl⟩
  go_wp2_with fail
  go_ret;exact⟨eu HD.out.symm,qk.out.trans (n.below.mono qk.out.size)⟩
 by_cases Sv:a<ls.length
 rotate_left
 ·have h1:decide (0<=a)=aw:=by simpa using ha0
  have h2:decide (a<ls.length)=ay:=by simpa using Sv
  have HD:Hid (eI ls a b=ay):=by unfold Hid;rw[hd.out,h1,h2];rfl
  refine bF (by kernel_rfl) (by kernel_rfl) ?_
  repeat(go_big_quiet_step (fail))
  refine wpQuiet_nil ?_;rintro _ ⟨n,rfl⟩
  go_wp2_with fail
  go_ret;exact⟨eu HD.out.symm,qk.out.trans (n.below.mono qk.out.size)⟩
 obtain⟨k,rfl⟩: ∃k:Nat,a=k:=⟨a.toNat,by omega⟩;obtain⟨g,rfl,hg1,M7,IX,Yp,hg5,Wl,LQ,Yq,hg9⟩:=F7.out k (by omega);have c4: ∀n:After w1,row? n.w g (k *2) 2=ae #[.int .i64 (ls.getD k (0,ay)).1,.bool (ls.getD k (0,ay)).2]:=λn=>(kB n.below (by have:=qk.out.size;omega) _ _).trans ((kB qk.out IX _ _).trans LQ)
 rw[fw]at hd;clear Yp hg5 Wl LQ Yq hg9;have h2:decide ((k:Int)<ls.length)=aw:=by simpa using Sv
 have heq: ∀W x y,(binOp .eql 172 (.agg #[.int .i64 x,.bool y]) (.agg #[.int .i64 b,.bool aw])).run aj W=.ok (.bool (decide (x=b)&&y)) W:=λW x y=>by rw[XM];simp
 have HD:Hid (eI ls k b=(decide ((ls.getD k (0,ay)).1=b)&&(ls.getD k (0,ay)).2)):=by unfold Hid;rw[hd.out,h2,decide_eq_true ha0];rfl
 generalize ls.getD k (0,ay)=x at *;obtain⟨x,y⟩:=x;simp only at HD c4;refine bF (by kernel_rfl) (by kernel_rfl) ?_
 repeat(go_big_quiet_step (fail))
 refine wpQuiet_nil ?_;rintro _ ⟨n,rfl⟩
 go_wp2_with fail
 go_ret;exact⟨eu HD.out.symm,qk.out.trans (n.below.mono qk.out.size)⟩
def pY (ls:List (Int×Bool))(a b:Int):List (Int×Bool)×Int:=if eI ls a b then(ls.set a.toNat (b+1,ay),0)else(ls,7)
def Pr (ls:List (Int×Bool)):Prop:= ∀x∈ls,0<=x.1/\x.1<=1000000
def tN {ls:List (Int×Bool)}{a b:Int}(h:eI ls a b=aw): ∃k:Nat,a=k/\k<ls.length/\ls.getD k (0,ay)=(b,aw):=by simp only[eI,aG,decide_eq_true_eq]at h;obtain⟨⟨h1,h2⟩,h3,h4⟩:=h;refine⟨a.toNat,by omega,by omega,Prod.ext h3 h4⟩
def X2 (p:Nat)(ls:List (Int×Bool))(F:Nat->Prop)(a b:Int)(w:ah)(h:eM w p ls F)(hg:Pr ls):Calls aj 177 #[.pointer (ae ⟨p,0,ai⟩),.agg #[.int .i64 a,.int .i64 b]] w λe w'=>e=.returned (.int .i64 (pY ls a b).2)/\eM w' p (pY ls a b).1 F/\db F w w':=by
 have H:=af h;have hd:Hid (pY ls a b=if eI ls a b then(ls.set a.toNat (b+1,ay),0)else(ls,7)):=rfl;clear h
 go_enter Tryz.func177,Tryz.ntmps177
 go_upto_region 1 with(fail)
 have hB0:dt (w.alloc (.cells #[.int .i64 a,.int .i64 b] 43)) w.heap.size 43 (ints [a,b]):=dt.new _ _ _;refine bZ (λw'=>dt w' w.heap.size 43 (ints [a,b])/\Below w.heap.size w w') ⟨hB0,(Below.refl _ _).alloc (ax _) _⟩ ?_;rintro w1 ⟨Eo,lJ⟩;have V6:Hid (eM w1 p ls (λk=>F k/\k<w.heap.size)):=(H.out.mono (G:=λk=>F k/\k<w.heap.size) λk hk hf=>⟨hf,hk⟩).only (G:=λk=>w.heap.size<=k) (db.gA lJ) (λk hk=>by omega);have qk:=af Eo;have Pf:Hid (Below w.heap.size w w1):=lJ;have afQ:row? w1 w.heap.size 0 2=ae (ints [a,b]):=Eo.bt rfl;clear hB0 Eo lJ
 go_wp2_with fail
 refine(tM p ls _ a b _ V6.out).mono ?_;rintro e w2 ⟨rfl,gF⟩;have RU:Hid (eM w2 p ls (λk=>F k/\k<w.heap.size)):=V6.out.only (G:=λk=>w1.heap.size<=k) (db.gA gF) (λk hk=>by have:=Pf.out.size;omega);have pW:=af (qk.out.after gF);have HO2:Hid (Below w.heap.size w w2):=Pf.out.trans (gF.mono Pf.out.size);clear gF V6 qk Pf afQ;cases hL:eI ls a b
 ·have HR:Hid (pY ls a b=(ls,7)):=by unfold Hid;rw[hd.out,hL];rfl
  clear hL
  go_wp2_with fail
  go_ret;rw[HR.out];exact⟨rfl,RU.out.mono λk _ h=>h.1,(db.gA HO2.out)⟩
 ·obtain⟨k,rfl,hk,hkb⟩:=tN hL;have HR:Hid (pY ls k b=(ls.set k (b+1,ay),0)):=by unfold Hid;rw[hd.out,hL];rfl
  have hbb:=hg (b,aw) (by rw[<-hkb];simp[bB,aq hk]);simp only at hbb;have Nn:IntKind.i64.wrap (b+1)=b+1:=IntWalk.i64_in _ (by omega);have vI:(k:Int)<ls.length:=by omega
  obtain⟨A,c,f1,f2,f3,f4,f5,f6,f7⟩:=RU.out.facts;obtain⟨g,rfl,hg1,M7,IX,Yp,hg5,Wl,LQ,Yq,hg9⟩:=f7 k hk;have c1:w2.cell? ⟨w.heap.size,0,ai⟩=ae (.int .i64 k):=pW.out.cell 0;have c2:w2.cell? ⟨w.heap.size,1,ai⟩=ae (.int .i64 b):=pW.out.cell 1;have HP:=af (RU.out.put hk f1 (b+1) ay);clear hL f2 f3 f4 f5 f6 f7 Yp hg5 LQ Yq hg9 hkb hd
  go_upto_region 3 with(fail)
  go_still_tail 11,(by kernel_rfl)
  repeat still_step
  change wpList _ _ _ _ _ w2.drew
  go_wp2_with fail
  go_ret;rw[HR.out];refine⟨rfl,?_,?_⟩
  ·exact(HP.out.1.mono λk _ h=>h.1)
  ·exact((db.gA HO2.out).trans (HP.out.2.mono λk _ h=>h.1)).drew
def rG (ls:List (Int×Bool)):Nat->List (Int×Int)
 |0=>[]
 |k+1=>rG ls k++if(ls.getD k (0,ay)).2 then [((k:Int),(ls.getD k (0,ay)).1)]else []
def rF (ls:List (Int×Bool)):List (Int×Int):=rG ls ls.length
def I' (ls:List (Int×Bool)): ∀k,(rG ls k).length<=k
 |0=>by simp[rG]
 |k+1=>by
  have:=I' ls k;unfold rG;rw[aZ]
  split<;>simp<;>omega
def wi (ls:List (Int×Bool)):Nat->List Int
 |0=>[]
 |k+1=>wi ls k++[(ls.getD k (0,ay)).1]
def Ej (ls:List (Int×Bool)): ∀k,k<=ls.length->wi ls k=(ls.take k).map (·.1)
 |0,_=>by simp[wi]
 |k+1,h=>by rw[wi,Ej ls k (by omega),List.take_add_one,aq (by omega),ey];simp only[bB,aq (show k<ls.length by omega),Option.toList,eN,List.map_nil,bT]
def iP (ls:List (Int×Bool)):List Int:=wi ls ls.length
def AS (ls:List (Int×Bool)):iP ls=ls.map (·.1):=by rw[iP,Ej ls _ (ax _),dm]
def IJ (ls:List (Int×Bool)): ∀k,(wi ls k).length=k
 |0=>rfl
 |k+1=>by simp[wi,IJ ls k]
def X4 (p:Nat)(ls:List (Int×Bool))(F:Nat->Prop)(w:ah)(h:eM w p ls F)(hl:ls.length<=60):Calls aj 43 #[.pointer (ae ⟨p,0,ai⟩)] w (Xe w (iP ls)):=by
 obtain⟨A,c,f1,f2,f3,f4,f5,f6,f7⟩:=h.facts;have F5:=af f5;clear f2 f5 f6 f7 h
 go_enter Tryz.func43,Tryz.ntmps43
 go_wp2_with fail
 go_loopw [11,3] (λi out w'=> ∃k:Nat,k<=ls.length/\i=.int .i64 k/\ql w' w.heap.size out (wi ls k)/\Below w.heap.size w w') (λi _ _=>ls.length-(intOf i).toNat)
 case atStart=>exact⟨0,by omega,rfl,ql.nil _ _,Below.refl _ _⟩
 case round=>
  clear f1;obtain⟨k,hk,rfl,jg,hb⟩:=hrel;have HO:=af jg;have HB:=af hb;clear jg hb;by_cases bJ:k<ls.length
  ·have vI:(k:Int)<ls.length:=by omega
   obtain⟨g,rfl,fg⟩:=JB (tS F5.out HB.out) bJ;have hN:Hid (wi ls (k+1)=wi ls k++[(ls.getD k (0,ay)).1]):=rfl;have hlen:=IJ ls k;generalize ls.getD k (0,ay)=x at *;obtain⟨x,b⟩:=x;simp only at fg
   go_upto_region 5 with(fail)
   refine bZ (λw'=>dt w' wr.heap.size 172 #[.int .i64 x,.bool b]/\Below wr.heap.size wr w') ?_ ?_
   ·rw[N2];have h0:dt (wr.alloc (.cells #[.int .i64 0,.bool ay] 172)) wr.heap.size 172 #[.int .i64 0,.bool ay]:=dt.new _ _ _;have h1:=(h0.set 0 (.int .i64 x)).set 1 (.bool b);exact⟨h1,(((Below.refl _ _).alloc (ax _) _).setCell (p:=⟨wr.heap.size,0,ai⟩) (ax _) _).setCell (p:=⟨wr.heap.size,0+1,ai⟩) (ax _) _⟩
   rintro w2 ⟨tF,gF⟩;have c1:w2.cell? ⟨wr.heap.size,0,ai⟩=ae (.int .i64 x):=tF.cell 0;have Nc:ql w2 w.heap.size _ _:=HO.out.kept gF;have pW:=af (HB.out.trans (gF.mono HB.out.size));clear tF gF HO fg
   go_wp2_with (at_builtin;refine vu rfl _ _ rfl w.heap.size _ (wi ls k) rfl Nc x rfl ?_ ?_ ?_)
   case refine_1=>omega
   case refine_2=>exact pW.out.size
   intro v' w3 rz _ IV
   go_wp2_with fail
   go_roundw
   case rel=>exact⟨k+1,by omega,by go_num,hN.out.symm▸rz,pW.out.trans IV⟩
   case measure=>simp[intOf];omega
  ·have:k=ls.length:=by omega
   subst this
   go_wp2_with fail
   go_ret;exact⟨_,rfl,HO.out,HB.out⟩
def jS (ls:List (Int×Bool)):List (Int×Bool)×(Int×Int)×Int:=
 if ls.findIdx lT<ls.length then(ls.set (ls.findIdx lT) ((ls.getD (ls.findIdx lT) (0,ay)).1,aw),((ls.findIdx lT:Nat),(ls.getD (ls.findIdx lT) (0,ay)).1),0)
 else if ls.length=60 then(ls,(0,0),2)else(ls++[(0,aw)],((ls.length:Nat),0),0)
def Rj:(Tryz.prog.info? 172).map (λi=>(i.zero,i.size,i.bytes))=ae (ae (.agg #[.int .i64 0,.bool ay]),2,16):=by kernel_rfl
def Fh {a b n:Int}{x:List (Int×Bool)×(Int×Int)×Int}{ls:List (Int×Bool)}(h:x=(ls,(a,b),n)):Ending.returned (.tuple #[.agg (ints [a,b]),.int .i64 n])=.returned (.tuple #[.agg (ints [x.2.1.1,x.2.1.2]),.int .i64 x.2.2]):=by rw[h]
def uu (w:ah)(p:Nat)(ls:List (Int×Bool))(F:Nat->Prop)(hc:List Int)(w':ah):Prop:=dt w' w.heap.size 43 (ints hc)/\eM w' p ls (λk=>F k/\k<w.heap.size)/\db F w w'
def s8 (w:ah)(p:Nat)(ls:List (Int×Bool))(F:Nat->Prop)(hc:List Int)(w':ah):Prop:=dt w' w.heap.size 43 (ints hc)/\eM w' p ls (λk=>(F k/\k<w.heap.size)\/w.heap.size<k)/\db F w w'
def uu.two {w w':ah}{p:Nat}{ls:List (Int×Bool)}{F:Nat->Prop}{hc:List Int}(h:uu w p ls F hc w'):s8 w p ls F hc w':=⟨h.1,h.2.1.mono λ_ _ h=>bm h,h.2.2⟩
def uu.after {w w' w'':ah}{p:Nat}{ls:List (Int×Bool)}{F:Nat->Prop}{hc:List Int}(h:uu w p ls F hc w')(hb:Below w'.heap.size w' w''):uu w p ls F hc w'':=⟨h.1.after hb,h.2.1.only (G:=λk=>w.heap.size<=k) ((db.gA hb)) (λk hk=>by omega),h.2.2.trans (db.gA hb)⟩
def aaf (p:Nat)(ls:List (Int×Bool))(F:Nat->Prop)(w:ah)(h:eM w p ls F)(hl:ls.length<=60):Calls aj 127 #[.pointer (ae ⟨p,0,ai⟩)] w λe w'=>e=.returned (.tuple #[.agg (ints [(jS ls).2.1.1,(jS ls).2.1.2]),.int .i64 (jS ls).2.2])/\eM w' p (jS ls).1 (GL F w w')/\db F w w':=by
 have hp:=h.lt;have H:=af h;clear h
 go_enter Tryz.func127,Tryz.ntmps127
 go_upto_region 1 with(fail)
 refine bZ (uu w p ls F [0,0]) ⟨dt.new _ _ _,(H.out.mono λk hk hf=>⟨hf,hk⟩).only (G:=λk=>k=w.heap.size) (db.gA ((Below.refl _ _).alloc (ax _) _)) (λk hk=>by omega),db.gA ((Below.refl _ _).alloc (ax _) _)⟩ ?_;intro w1 hM;have HM:=af hM;clear hM;obtain⟨A,c,f1,f2,f3,f4,f5,f6,f7⟩:=HM.out.2.1.facts;have Wo:=f5;clear f2 f5 f6 f7
 go_wp2_with fail
 refine(Hn A c ls w1 Wo (by omega)).mono ?_;rintro e w2 ⟨rfl,gF⟩;have CO:=af (HM.out.after gF);clear gF HM f1 f3 f4 Wo;obtain⟨A,c,f1,f2,f3,f4,f5,f6,f7⟩:=CO.out.2.1.facts;by_cases Wo:ls.findIdx lT<ls.length
 ·have hI:uI ls=(ls.findIdx lT:Nat):=by unfold uI;rw[if_pos Wo]
  have HT:Hid (jS ls=(ls.set (ls.findIdx lT) ((ls.getD (ls.findIdx lT) (0,ay)).1,aw),(((ls.findIdx lT:Nat):Int),(ls.getD (ls.findIdx lT) (0,ay)).1),0)):=by unfold Hid jS;rw[if_pos Wo]
  rw[hI];clear hI;generalize ls.findIdx lT=k at *;have vI:(k:Int)<ls.length:=by omega
  obtain⟨g,rfl,hg1,M7,IX,Yp,hg5,Wl,LQ,Yq,hg9⟩:=f7 k Wo;have pd:=CO.out.2.1.live Wo f1 aw;have h5:Hid (uu w p (ls.set k ((ls.getD k (0,ay)).1,aw)) F [0,0] (w2.setCell ⟨g,k *2+1,ai⟩ (.bool aw))):=⟨CO.out.1.Hb (by omega) _ _,pd.1,CO.out.2.2.trans' pd.2 λq hq h=>h.1⟩
  generalize ls.getD k (0,ay)=x at *;obtain⟨x,b⟩:=x;simp only at h5 HT Yq;clear f2 f3 f4 f5 f6 f7 Yp Wl LQ pd;have f1':w2.cell? ⟨p,0,ai⟩=ae (.slice (ae ⟨g,0,ai⟩) ls.length c):=f1
  go_upto_region 8 with(fail)
  refine bZ (s8 w p (ls.set k (x,aw)) F [0,0]) h5.out.two ?_;intro w3 hM3;have RS:=af hM3;clear hM3;obtain⟨A3,c3,f1,f2,f3,f4,f5,f6,f7⟩:=RS.out.2.1.facts;obtain⟨g3,rfl,hg1,M7,IX,Yp,hg5,Wl,LQ,Yq,hg9⟩:=f7 k (by simpa using Wo);have fg:((ls.set k (x,aw)).getD k (0,ay)).1=x:=by simp[bB,fh,Wo]
  rw[fg]at Yq;have ah7:((k:Nat):Int)<((ls.set k (x,aw)).length:Nat):=by rw[de];omega
  have ff:fits w3 w.heap.size 0 2=aw:=RS.out.1.fits 0 2 (by decide);clear f2 f3 f4 f5 f6 f7 Yp hg5 Wl LQ hg9 fg
  go_wp2_with fail
  refine cN rfl w.heap.size 43 (ints [((k:Nat):Int),x]) (.int .i64 0) _ rfl rfl (RS.out.1.eU _ rfl) Tryz.underlying43 rfl (by rw[bD];exact eB) rfl ?_;have hO:db F w (putRow w3 w.heap.size 0 [((k:Nat):Int),x]):=RS.out.2.2.trans' (G:=λq=>q=w.heap.size) ⟨rfl,rfl,rfl,by rw[jb];exact ax _,λq _ hq=>fz w3 _ 0 _ q hq⟩ (λq hq he=>absurd hq (by omega));refine⟨Fh HT.out,?_,hO⟩;rw[HT.out];have hs:=RS.out.2.1.only (w':=putRow w3 w.heap.size 0 [((k:Nat):Int),x]) (G:=λq=>q=w.heap.size) ⟨rfl,rfl,rfl,by rw[jb];exact ax _,λq _ hq=>fz w3 _ 0 _ q hq⟩ (λq hq he=>by rcases hq with⟨_,hq⟩|hq<;>omega);refine hs.mono λq hq hf=> ?_
  rcases hf with⟨hf,_⟩|hf
  ·exact bm hf
  ·exact bO ⟨by omega,hq⟩
 ·have hI:uI ls= -1:=by unfold uI;rw[if_neg Wo]
  rw[hI];clear hI;by_cases h60:ls.length=60
  ·have HT:Hid (jS ls=(ls,(0,0),2)):=by unfold Hid jS;rw[if_neg Wo,if_pos h60]
   have ff:fits w2 w.heap.size 0 2=aw:=CO.out.1.fits 0 2 (by decide);rw[h60]at f1;clear f2 f3 f4 f5 f6 f7
   go_wp2_with fail
   refine cN rfl w.heap.size 43 (ints [0,0]) (.int .i64 2) _ rfl rfl (CO.out.1.eU _ rfl) Tryz.underlying43 rfl (by rw[bD];exact eB) rfl ?_;have hO:db F w (putRow w2 w.heap.size 0 [0,0]):=CO.out.2.2.trans' (G:=λq=>q=w.heap.size) ⟨rfl,rfl,rfl,by rw[jb];exact ax _,λq _ hq=>fz w2 _ 0 _ q hq⟩ (λq hq he=>absurd hq (by omega));refine⟨Fh HT.out,?_,hO⟩;rw[HT.out];have hs:=CO.out.2.1.only (w':=putRow w2 w.heap.size 0 [0,0]) (G:=λq=>q=w.heap.size) ⟨rfl,rfl,rfl,by rw[jb];exact ax _,λq _ hq=>fz w2 _ 0 _ q hq⟩ (λq hq he=>by omega);exact hs.mono λq hq hf=>bm hf.1
  ·have HT:Hid (jS ls=(ls++[(0,aw)],(((ls.length:Nat):Int),0),0)):=by unfold Hid jS;rw[if_neg Wo,if_neg h60]
   have aiI:((ls.length:Int)==60)=ay:=by simp;omega
   obtain⟨v,hB,jg,eb,hF,hFk⟩:=CO.out.2.1;have hv:v=.slice A ls.length c:=by have:=hB.cell 0;rw[f1]at this;simpa using this.symm
   subst hv;have HB:=af hB;have HN:=af eb;have hpF:Hid (F p):=hF.1;have HFk:=af hFk;have h1:Hid (dt w2 w.heap.size 43 (ints [0,0])):=CO.out.1;have h2:Hid (db F w w2):=CO.out.2.2;have Ci:Hid (w2.ownsRow 0 172 2 (.slice A ls.length c) ls.length (ls.flatMap yh)):=jg;obtain⟨i0,qE,uM,sX,tH⟩:=info_parts Rj;clear f2 f3 f4 f5 f6 f7 hB jg eb hF hFk CO
   go_wp2_with (at_builtin;refine eX rfl _ _ _ rfl 0 172 i0 _ 2 16 Tryz.underlying168 qE uM sX tH rfl (by decide) (.slice A ls.length c) ls.length (ls.flatMap yh) rfl Ci.out [.int .i64 0,.bool ay] rfl rfl (by simp[kT]) (by unfold maxLen;omega) (by omega) (cE _) ?_)
   intro v' w3 rz IX vl;obtain⟨A',c',rfl,_,_,_⟩:=cM rz;have hO3:db (λk=>(eA A ls.length c).ownBlock=ae k) w2 w3:=(db.refl.alloc _).trans (db.grown IX λk hk=>hk);have IQ:=hO3.blk HB.out (λe=>HN.out e);have hH3:=hO3.blk h1.out (λe=>by have:=(HFk.out _ e).2;omega);have hN3:(eA A' (ls.length+1) c').ownBlock≠ae p:=by
    rcases vl with e|e
    ·rw[e];exact HN.out
    ·rw[e];intro h;injection h with h;have:=h1.out.lt;omega
   have c1:w3.cell? ⟨p,0,ai⟩=ae (.slice A ls.length c):=IQ.cell 0;have c2:w3.frozen? ⟨p,0,ai⟩=ay:=IQ.frozen 0;have hM4:Hid (s8 w p (ls++[(0,ay)]) F [0,0] (w3.setCell ⟨p,0,ai⟩ (.slice A' (ls.length+1) c'))):=by
    refine⟨hH3.Hb (by omega) _ _,⟨_,IQ.set 0 _,?_,hN3,bm ⟨hpF.out,hp⟩,λk hk=> ?_⟩,?_⟩
    ·rw[aZ,dG];exact ownsRow_setCell_other rz hN3 _
    ·rcases vl with e|e
     ·rw[e]at hk;exact bm (HFk.out k hk)
     ·rw[e]at hk;injection hk with hk;have:=h1.out.lt;exact bO (by omega)
    ·exact(h2.out.trans' hO3 λk hk e=>(HFk.out k e).1).setCell (bm hpF.out) _ _
   clear rz IX vl hO3 IQ hH3 hN3 h1 h2 HFk Ci
   go_upto_region 7 with(fail)
   refine bZ (s8 w p (ls++[(0,ay)]) F [0,0]) hM4.out ?_;clear hM4 c1 c2;intro w5 Yi;obtain⟨A5,c5,f1,f2,f3,f4,f5,f6,f7⟩:=Yi.2.1.facts;obtain⟨g5,rfl,hg1,M7,IX,Yp,hg5,Wl,LQ,Yq,hg9⟩:=f7 ls.length (by simp);have pd:=Yi.2.1.live (k:=ls.length) (by simp) f1 aw;have vI:((ls.length:Nat):Int)<((ls++[((0:Int),ay)]).length:Nat):=by rw[aZ];simp;omega
   have h5:Hid (s8 w p (ls++[(0,aw)]) F [0,0] (w5.setCell ⟨g5,ls.length *2+1,ai⟩ (.bool aw))):=by
    have e:(ls++[((0:Int),ay)]).set ls.length (((ls++[((0:Int),ay)]).getD ls.length (0,ay)).1,aw)=ls++[(0,aw)]:=by simp[bB,oA]
    have h:=pd.1;rw[e]at h;refine⟨Yi.1.Hb (by rcases M7 with M7|M7<;>omega) _ _,h,Yi.2.2.trans' pd.2 λq hq h=> ?_⟩;rcases h with h|h
    ·exact h.1
    ·exact absurd hq (by omega)
   clear f2 f3 f4 f5 f6 f7 Yp Wl LQ Yq pd Yi
   go_upto_region 8 with(fail)
   refine bZ (s8 w p (ls++[(0,aw)]) F [0,0]) h5.out ?_;intro w6 hM6;have HM6:=af hM6;clear hM6;obtain⟨A3,c3,f1,f2,f3,f4,f5,f6,f7⟩:=HM6.out.2.1.facts;obtain⟨g3,rfl,hg1,M7,IX,Yp,hg5,Wl,LQ,Yq,hg9⟩:=f7 ls.length (by simp);have fg:((ls++[(0,aw)]).getD ls.length (0,ay)).1=0:=by simp[bB]
   rw[fg]at Yq;have ah7:((ls.length:Nat):Int)<((ls++[(0,aw)]).length:Nat):=by rw[aZ];simp;omega
   have ff:fits w6 w.heap.size 0 2=aw:=HM6.out.1.fits 0 2 (by decide);clear f2 f3 f4 f5 f6 f7 Yp hg5 Wl LQ hg9 fg
   go_wp2_with fail
   refine cN rfl w.heap.size 43 (ints [((ls.length:Nat):Int),0]) (.int .i64 0) _ rfl rfl (HM6.out.1.eU _ rfl) Tryz.underlying43 rfl (by rw[bD];exact eB) rfl ?_;have hO:db F w (putRow w6 w.heap.size 0 [((ls.length:Nat):Int),0]):=HM6.out.2.2.trans' (G:=λq=>q=w.heap.size) ⟨rfl,rfl,rfl,by rw[jb];exact ax _,λq _ hq=>fz w6 _ 0 _ q hq⟩ (λq hq he=>absurd hq (by omega));refine⟨Fh HT.out,?_,hO⟩;rw[HT.out];have hs:=HM6.out.2.1.only (w':=putRow w6 w.heap.size 0 [((ls.length:Nat):Int),0]) (G:=λq=>q=w.heap.size) ⟨rfl,rfl,rfl,by rw[jb];exact ax _,λq _ hq=>fz w6 _ 0 _ q hq⟩ (λq hq he=>by rcases hq with⟨_,hq⟩|hq<;>omega);refine hs.mono λq hq hf=> ?_
   rcases hf with⟨hf,_⟩|hf
   ·exact bm hf
   ·exact bO ⟨by omega,hq⟩
end
def SOk (ls:List (Int×Bool)):Prop:=ls.length<=60/\ ∀x∈ls,0<=x.1/\x.1<=1000000/\(x.2=aw->x.1<1000000)
def SOk.ahG {ls:List (Int×Bool)}(h:SOk ls):Pr ls:=λx hx=>⟨(h.2 x hx).1,(h.2 x hx).2.1⟩
def SOk.nil:SOk []:=⟨by simp,by simp⟩
def Dj {ls:List (Int×Bool)}{k:Nat}(h:k<ls.length):ls.getD k (0,ay)=ls[k]:=by simp[bB,aq h]
def acz {ls:List (Int×Bool)}(h:SOk ls):SOk (jS ls).1:=by
 unfold jS
 split
 ·rename_i bJ
  refine⟨by simpa using h.1,λx hx=> ?_⟩;rcases List.mem_or_eq_of_mem_set hx with hx|rfl
  ·exact h.2 x hx
  ·have hf:=List.findIdx_getElem (w:=bJ);rw[Dj bJ];have:=h.2 _ (bg bJ);simp only[lT,aG,decide_eq_true_eq]at hf;exact⟨this.1,this.2.1,λ_=>hf.2⟩
 ·split
  ·exact h
  ·rename_i hn
   have h1:=h.1;refine⟨by simp;omega,λx hx=> ?_⟩;rcases jh.1 hx with hx|hx
   ·exact h.2 x hx
   ·rw[eO.1 hx];exact⟨by decide,by decide,λ_=>by decide⟩
def abb {ls:List (Int×Bool)}(h:SOk ls)(a b:Int):SOk (pY ls a b).1:=by
 unfold pY
 split
 ·rename_i hl
  obtain⟨k,rfl,hk,hkb⟩:=tN hl;refine⟨by simpa using h.1,λx hx=> ?_⟩;rcases List.mem_or_eq_of_mem_set hx with hx|rfl
  ·exact h.2 x hx
  ·rw[Dj hk]at hkb;have:=h.2 _ (bg hk);rw[hkb]at this;have h3:=this.2.2 rfl;exact⟨by have:=this.1;simp only at this|-;omega,by simp only at h3|-;omega,λh=>by cases h⟩
 ·exact h
def pick (hs:List (Int×Int))(n:Int):Int×Int:=hs.getD (n % hs.length).toNat (0,0)
section
open Go.RowKit Go.ChangeShapes Go.WideShapes Go.ChangeAt Go.Deep
def Hp {H:Type}{enc:aA×ao->H}{W:ah}{r:Reach}{b0:Nat}{v:ao}{d:DataW H}{p:List MemPlace}(hv:Value.okWide aj W r b0 23 v)(h:DataW.Trod enc aj W 0 (λ_=>aw) aw 23 v d p)(bJ: ∀x∈p,x.block<W.heap.size): ∃A c ss,v=.slice A (List.length ss) c/\ss.length<=maxLen/\vi W W.heap.size A ss/\ ∀s∈ss,s.Fit:=by
 obtain⟨A,n,c,rfl,hc,hn,_,xs,hr,hf⟩:=ES 4 Tryz.underlying23 (by kernel_rfl) (by rw[JH];omega) hv h bJ;rw[JH]at hr;have hl:xs.length=n *7:=by have:=hr.1;simpa using this
 have h7:=qq hl;have e:((lI 7 xs n).map aai).map Sys.list=lI 7 xs n:=by
  rw[List.map_map]
  conv=>rhs;rw[<-List.map_id (lI 7 xs n)]
  exact dx λr hr=>FB (h7 r hr)
 refine⟨A,c,(lI 7 xs n).map aai,by rw[aL,lS],by rw[aL,lS];omega,?_,?_⟩
 ·unfold vi;rw[e];exact Reads.chunks hr (by omega)
 ·intro s hs;obtain⟨r,hr,rfl⟩:=aH.1 hs;intro x hx;rw[FB (h7 r hr)]at hx;exact hf x (Cd r hr x hx)
end
section
open Go.RowKit Go.Shelf Go.Sort
section
variable {α:Type} [Inhabited α] {enc:α->List ao} {k:Nat} {ρ:Ren} {G:Nat->Prop} {w0 w:ah} {l:List bU} {v:ao} {xs:List α}
def OJ (enc:α->List ao)(k:Nat)(w:ah)(g m:Nat)(d:Array α):putRowK enc k (Sort.ahead w m) g 0 d=sortWorldK enc k w g 0 m d #[]:=by unfold sortWorldK;exact(grow_empty _).symm
def Q6 (L:SlLaysE0.n35 aj ρ)(aE: ∀w,(isAgg (ρ.t 23)).run aj w=.ok aw w)(zE: ∀w,(Go.sizeOf (ρ.t 23)).run aj w=.ok k w)(hk: ∀x,(enc x).length=k)(h1: ∀x,∀u∈enc x,u.oneCell'=aw)(E:aA)(h:In G w0 (eD E k v xs.length (xs.flatMap enc)::l) w)(hl:xs.length<=1099511627776):Calls aj (ρ.f 35) #[v] w λe w'=>e=.returned (.tuple #[])/\In G w0 (eD E k v xs.reverse.length (xs.reverse.flatMap enc)::l) w':=by
 obtain⟨F1,⟨hA,hF⟩,_,jQ⟩:=h.open_;obtain⟨A,c,rfl,vA,uL,hg⟩:=cM hA;by_cases h0:xs.length=0
 ·have hx:xs=[]:=ft h0;subst hx;exact(AnyQ.slices_Reverse_empty L A c w).mono λe w' ⟨he,hw⟩=>⟨he,by rw[hw];exact h⟩
 ·obtain⟨b,rfl⟩:=hg (by omega);have CZ:=AnyQ.slices_Reverse L k aE zE enc hk h1 b 0 c xs.toArray w (zK hk hA) (by simp;omega);refine CZ.mono ?_;rintro e w' ⟨he,n,rfl⟩;have hd:xs.toArray.reverse.size=xs.length:=by simp
  have hv:xs.toArray.reverse.toList=xs.reverse:=by simp
  refine⟨he,?_⟩;rw[OJ];refine jQ (A':=eD E k (.slice (ae ⟨b,0,ai⟩) xs.length c) xs.reverse.length (xs.reverse.flatMap enc)) ⟨?_,λq hq=>bm (hF q hq)⟩ ((Cv w b n _ #[]).mono λq _ e=>by subst e;exact hF _ rfl);have:=EZ hk hA n xs.toArray.reverse hd #[];rw[hv]at this;have e2:xs.reverse.length=xs.length:=List.length_reverse;rw[e2]at this|-;exact this
end
def ZM:Ren:=⟨λ|35=>130|n=>n,λ|0=>0|3=>3|4=>4|22=>122|23=>43|n=>n,λn=>n⟩
def ZL:SlLaysE0.n35 aj ZM:={mixed:=by kernel_rfl,
                                f35:=⟨Tryz.f130.name,by decide,Tryz.func130.trans (congrArg ae (by kernel_rfl))⟩,
                                t0:=Tryz.underlying0,
                                a0:=Tryz.isAgg0,
                                z0:=Tryz.sizeOf0,
                                v0:=Tryz.zeroValue0,
                                t3:=Tryz.underlying3,
                                a3:=Tryz.isAgg3,
                                z3:=Tryz.sizeOf3,
                                v3:=Tryz.zeroValue3,
                                t4:=Tryz.underlying4,
                                a4:=Tryz.isAgg4,
                                z4:=Tryz.sizeOf4,
                                v4:=Tryz.zeroValue4,
                                t22:=Tryz.underlying122,
                                a22:=Tryz.isAgg122,
                                z22:=Tryz.sizeOf122,
                                v22:=Tryz.zeroValue122}
def Om {G:Nat->Prop}{w0 w:ah}{l:List bU}{v:ao}{hs:List Hd}(h:In G w0 (iy v hs::l) w)(hl:hs.length<=1099511627776):Calls aj 130 #[v] w λe w'=>e=.returned (.tuple #[])/\In G w0 (iy v hs.reverse::l) w':=Q6 ZL Tryz.isAgg43 Tryz.sizeOf43 AV (λx u hu=>by simp[hC]at hu;rcases hu with rfl|rfl<;>rfl) 43 h hl
end
abbrev sl (ls:List (Int×Bool))(k:Nat):Int×Bool:=ls.getD k (0,ay)
def Ja (ls:List (Int×Bool))(h:Int×Int): ∀k,h∈rG ls k↔ ∃j,j<k/\h=((j:Int),(sl ls j).1)/\(sl ls j).2=aw
 |0=>by simp[rG]
 |k+1=>by
  rw[rG,jh,Ja ls h k];constructor
  ·rintro(⟨j,h1,h2⟩|hx)
   ·exact⟨j,by omega,h2⟩
   ·split at hx
    ·rename_i hl
     exact⟨k,by omega,eO.1 hx,hl⟩
    ·cases hx
  ·rintro⟨j,h1,h2,h3⟩;by_cases hj:j=k
   ·right;subst hj;rw[if_pos h3,h2];simp
   ·exact bm ⟨j,by omega,h2,h3⟩
def Y6 {ls:List (Int×Bool)}{h:Int×Int}:h∈rF ls↔ ∃j,j<ls.length/\h=((j:Int),(sl ls j).1)/\(sl ls j).2=aw:=Ja ls h _
def Cn (ls:List (Int×Bool)): ∀k,k<=ls.length->(rG ls k).length=(ls.take k).countP (·.2)
 |0,_=>by simp[rG]
 |k+1,h=>by rw[rG,aZ,Cn ls k (by omega),bh (by omega),List.countP_append,Dj (by omega)];cases hc:ls[k].2<;>simp[hc]
def QA (ls:List (Int×Bool)):(rF ls).length=ls.countP (·.2):=by unfold rF;rw[Cn ls _ (ax _),dm]
def I9 {ls:List (Int×Bool)}{k:Nat}(hk:k<ls.length)(b:Int):eI ls k b=(decide ((sl ls k).1=b)&&(sl ls k).2):=by
 unfold eI;rw[fw];have h1:decide ((0:Int)<=(k:Int))=aw:=by simp
 have h2:decide ((k:Int)<(ls.length:Nat))=aw:=by simpa using hk
 rw[h1,h2];rfl
section
open Go.RowKit
def SZ {w:ah}{B:Nat}{e:aA}{size n c m:Nat}{A:Option Addr}{xs:List ao}(h:w.ownsRow B e size (.slice A n c) n xs)(hm:m<=n):w.ownsRow B e size (.slice A m c) m (xs.take (m *size)):=by
 obtain⟨h1,h2⟩:=h;have hle:m *size<=n *size:=fC _ hm;refine⟨by rw[cK];omega,?_⟩;rcases h2 with⟨e1,h0⟩|⟨g,cap,cur,e1,hb,hg,h3,h4,h5,h6⟩
 ·injection e1 with e1 e2 e3
  have:m=0:=by omega
  subst this;exact bm ⟨by rw[e1,e3],rfl⟩
 ·injection e1 with e1 e2 e3
  subst e3;refine bO ⟨g,c,cur,by rw[e1],hb,hg,by omega,h4,h5,?_⟩;rw[<-h6,List.take_take,Nat.min_eq_left hle]
def xn {α:Type}{size:Nat}{f:α->List ao}(hf: ∀x,(f x).length=size): ∀(l:List α) (k:Nat),(l.flatMap f).take (k *size)=(l.take k).flatMap f
 | [],k=>by simp
 |a::l,0=>by simp
 |a::l,k+1=>by rw[bN,List.take_succ_cons,bN,List.take_append,hf,gY,jE,ck (by rw[hf];omega),Nat.add_sub_cancel,xn hf l k]
def ID {α:Type}{size:Nat}{f:α->List ao}(hf: ∀x,(f x).length=size): ∀(l:List α) (k:Nat),(l.flatMap f).drop (k *size)=(l.drop k).flatMap f
 | [],k=>by simp
 |a::l,0=>by simp
 |a::l,k+1=>by rw[bN,mZ,qd,hf,gY,jE,iU (by rw[hf];omega),Nat.add_sub_cancel,ID hf l k,cy]
def S0 {α:Type}{enc:α->List Int}{w:ah}{B:Nat}{e:aA}{size c g k:Nat}{rows:List α}(hs: ∀x,(enc x).length=size)(h:w.ownsRow B e size (.slice (ae ⟨g,0,ai⟩) rows.length c) rows.length (rows.flatMap λx=>(enc x).map (aF .i64)))(hk:k<rows.length)(x:α):(putRow w g (k *size) (enc x)).ownsRow B e size (.slice (ae ⟨g,0,ai⟩) rows.length c) rows.length ((rows.set k x).flatMap λx=>(enc x).map (aF .i64)):=by
 have kJ: ∀x:α,((enc x).map (aF .i64)).length=size:=λx=>by rw[aL,hs]
 obtain⟨h1,h2⟩:=h;refine⟨by rw[tv kJ,de],?_⟩;rcases h2 with⟨e1,h0⟩|⟨g',cap,cur,e1,hb,hg,h3,h4,h5,h6⟩
 ·omega
 ·injection e1 with e1 e2 e3
  injection e1 with e1
  injection e1 with e1
  subst e1;subst e3;have hle:(k+1) *size<=rows.length *size:=fC _ (by omega);have YB:rows.length *size<=c *size:=fC _ h3;rw[gY,jE]at hle;refine bO ⟨g,c,(cur.toList.take (k *size)++(enc x).map (aF .i64)++cur.toList.drop (k *size+(enc x).length)).toArray,rfl,hb,?_,h3,h4,?_,?_⟩
  ·simp[putRow,bq,hg]
  ·simp[hs];omega
  ·rw[List.toList_toArray];have hx:=kJ x;have o8:(cur.toList.take (k *size)).length=k *size:=by rw[cK];simp;omega
   have e2:rows=rows.take k++rows[k]::rows.drop (k+1):=by rw[<-List.drop_eq_getElem_cons,List.take_append_drop]
   have e3:rows.set k x=rows.take k++x::rows.drop (k+1):=by
    conv=>lhs;rw[e2]
    rw[oA _ _ (by rw[cK];omega),cK,Nat.min_eq_left (by omega),Nat.sub_self];rfl
   have e4:(rows.take k).flatMap (λx=>(enc x).map (aF .i64))=cur.toList.take (k *size):=by
    have:cur.toList.take (k *size)=(cur.toList.take (rows.length *size)).take (k *size):=by rw[List.take_take,Nat.min_eq_left (by omega)]
    rw[this,h6,xn kJ]
   have e5:(rows.drop (k+1)).flatMap (λx=>(enc x).map (aF .i64))=(cur.toList.drop (k *size+size)).take ((rows.length-(k+1)) *size):=by
    have:(cur.toList.drop (k *size+size)).take ((rows.length-(k+1)) *size)=(cur.toList.take (rows.length *size)).drop ((k+1) *size):=by rw[List.drop_take,gY,jE];congr 1;rw[Nat.sub_mul,gY,jE]
    rw[this,h6,ID kJ]
   rw[e3,dG,bN,e4,e5,<-cx];generalize cur.toList.take (k *size)=P at o8|-;generalize (enc x).map (aF .i64)=X at hx|-;have hPX:(P++X).length=k *size+size:=by rw[aZ,o8,hx]
   rw[List.take_append,ck (by rw[hPX];omega),hPX,hs];congr 1;congr 1;rw[Nat.sub_mul,gY,jE]
def EX {w:ah}{B:Nat}{e:aA}{size n c g k:Nat}{xs:List ao}(h:w.ownsRow B e size (.slice (ae ⟨g,0,ai⟩) n c) n xs)(hk:k<n):fits w g (k *size) size=aw:=by
 obtain⟨h1,h2|⟨g',cap,cur,e1,_,hg,h3,_,h5,h6⟩⟩:=h
 ·cases h2.1
 ·injection e1 with e1 e2 e3
  injection e1 with e1
  injection e1 with e1
  subst e1;unfold fits;rw[hg];have hle:(k+1) *size<=cap *size:=fC _ (by omega);rw[gY,jE]at hle;simp;omega
def oB (w w':ah)(p:Nat)(T:aA)(cs:Array ao)(o:Nat)(v:ao)(E:aA)(size n:Nat)(xs:List ao):Prop:= ∃v',dt w' p T (cs.setIfInBounds o v')/\w'.ownsRow 0 E size v' n xs/\v'.ownBlock≠ae p/\(∀k,v'.ownBlock=ae k->v.ownBlock=ae k\/w.heap.size<=k)/\db (λk=>k=p\/v.ownBlock=ae k) w w'
def RY {w w3:ah}{p o n size:Nat}{T E:aA}{cs:Array ao}{v v':ao}{O:Obj}{xs:List ao}(hB:dt w p T cs)(eb:v.ownBlock≠ae p)(rz:w3.ownsRow 0 E size v' n xs)(IX:(w.alloc O).grownBy w3 v.ownBlock)(vl:v'.ownBlock=v.ownBlock\/v'.ownBlock=ae (w.heap.size+1)):dt w3 p T cs/\oB w (w3.setCell ⟨p,o,ai⟩ v') p T cs o v E size n xs:=by
 have hO3:db (λk=>v.ownBlock=ae k) w w3:=(db.refl.alloc _).trans (db.grown IX λk hk=>hk);have IQ:=hO3.blk hB eb;have hN3:v'.ownBlock≠ae p:=by
  rcases vl with e|e
  ·rw[e];exact eb
  ·rw[e];intro h;injection h with h;have:=hB.lt;omega
 refine⟨IQ,v',IQ.set o v',ownsRow_setCell_other rz hN3 _,hN3,λk hk=> ?_,(hO3.mono (G:=λk=>k=p\/v.ownBlock=ae k) λk _ hk=>bO hk).setCell (bm (bm rfl)) _ _⟩;rcases vl with e|e
 ·rw[e]at hk;exact bm hk
 ·rw[e]at hk;injection hk with hk;exact bO (by omega)
def Uv:(Tryz.prog.info? 3).map (λi=>(i.zero,i.size,i.bytes))=ae (ae (.int .i64 0),1,8):=by kernel_rfl
def Hg:(Tryz.prog.info? 43).map (λi=>(i.zero,i.size,i.bytes))=ae (ae (.agg #[.int .i64 0,.int .i64 0]),2,16):=by kernel_rfl
def Xl (p o:Nat)(T:aA)(cs:Array ao)(v:ao)(n:Nat)(xs:List ao)(x:Int)(w:ah)(hB:dt w p T cs)(hv:cs[o]? =ae v)(ho:w.ownsRow 0 3 1 v n xs)(eb:v.ownBlock≠ae p)(hl:n<=100000):Calls aj 216 #[.pointer (ae ⟨p,o,ai⟩),.int .i64 x] w λe w'=>e=.returned (.tuple #[])/\oB w w' p T cs o v 3 1 (n+1) (xs++[.int .i64 x]):=by
 obtain⟨A,c,rfl,vA,uL,_⟩:=cM ho;have HO:=af ho;have HB:=af hB;have HN:=af eb;have c1:w.cell? ⟨p,o,ai⟩=ae (.slice A n c):=(hB.cell o).trans hv;obtain⟨i0,qE,uM,sX,tH⟩:=info_parts Uv;clear ho hB eb hv
 go_enter Tryz.func216,Tryz.ntmps216
 go_wp2_with (at_builtin;refine eX rfl _ _ _ rfl 0 3 i0 _ 1 8 Tryz.underlying32 qE uM sX tH rfl (by decide) (.slice A n c) n xs rfl HO.out [.int .i64 x] rfl rfl (by simp[kT]) (by unfold maxLen;omega) (by omega) (cE _) ?_)
 intro v' w3 rz IX vl;obtain⟨A4,c4,rfl,_,_,_⟩:=cM rz;obtain⟨IQ,hE⟩:=RY (o:=o) HB.out HN.out rz IX vl;have HE:=af hE;have c2:w3.frozen? ⟨p,o,ai⟩=ay:=IQ.frozen o;have c3:w3.cell? ⟨p,o,ai⟩=ae (.slice A n c):=(IQ.cell o).trans ((HB.out.cell o).symm.trans c1);clear hE IQ rz IX vl
 go_wp2_with fail
 go_end0
 exact⟨rfl,HE.out⟩
def Xk (p o:Nat)(T:aA)(cs:Array ao)(v:ao)(n:Nat)(xs:List ao)(a b:Int)(w:ah)(hB:dt w p T cs)(hv:cs[o]? =ae v)(ho:w.ownsRow 0 43 2 v n xs)(eb:v.ownBlock≠ae p)(hl:n<=100000):Calls aj 215 #[.pointer (ae ⟨p,o,ai⟩),.agg #[.int .i64 a,.int .i64 b]] w λe w'=>e=.returned (.tuple #[])/\oB w w' p T cs o v 43 2 (n+1) (xs++[.int .i64 a,.int .i64 b]):=by
 obtain⟨A,c,rfl,vA,uL,_⟩:=cM ho;have HO:=af ho;have HB:=af hB;have HN:=af eb;have c1:w.cell? ⟨p,o,ai⟩=ae (.slice A n c):=(hB.cell o).trans hv;obtain⟨i0,qE,uM,sX,tH⟩:=info_parts Hg;clear ho hB eb hv
 go_enter Tryz.func215,Tryz.ntmps215
 go_upto_region 1 with(fail)
 have IZ:=HB.out.lt;refine bZ (λw'=>dt w' w.heap.size 43 (ints [a,b])/\Below w.heap.size w w') ⟨dt.new _ _ _,(Below.refl _ _).alloc (ax _) _⟩ ?_;rintro w1 ⟨lJ,gF⟩;have r1:row? w1 w.heap.size 0 2=ae #[.int .i64 a,.int .i64 b]:=lJ.bt rfl;have Pf:Hid (w1.ownsRow 0 43 2 (.slice A n c) n xs):=tS HO.out gF;have qk:Hid (dt w1 p T cs):=HB.out.after gF;have c1:w1.cell? ⟨p,o,ai⟩=ae (.slice A n c):=(qk.out.cell o).trans ((HB.out.cell o).symm.trans c1);have c1a:(w1.alloc (.cells #[.int .i64 a,.int .i64 b] 43)).cell? ⟨p,o,ai⟩=ae (.slice A n c):=(((Below.refl _ w1).alloc (ax _) _).cell (p:=⟨p,o,ai⟩) qk.out.lt).trans c1;have W8:=af gF;clear lJ gF
 go_region_law (refine Ak (w:=w1.drew) rfl (.tmp 8) (.tmp 10) 122 rfl 0 43 i0 _ 2 16 Tryz.underlying122 qE uM sX tH rfl (by decide) (.slice A n c) n xs (by simp[bX,Act.put]) Pf.out [.int .i64 a,.int .i64 b] (by simp[bX,Act.put]) rfl (by simp[kT]) (by unfold maxLen;omega) (by omega) (cE _) ?_;intro v' w3 rz IX vl;obtain⟨A4,c4,rfl,_,_,_⟩:=cM rz;obtain⟨IQ,hE⟩:=RY (w:=w1.drew) (o:=o) qk.out.drew HN.out rz IX vl;have HE:=af hE;have c2:w3.frozen? ⟨p,o,ai⟩=ay:=IQ.frozen o;have c3:w3.cell? ⟨p,o,ai⟩=ae (.slice A n c):=(IQ.cell o).trans ((qk.out.cell o).symm.trans c1);clear hE IQ rz IX vl)
 all_goals
  go_wp2_with fail
  go_end0
  refine⟨rfl,?_⟩;obtain⟨v',h1,h2,h3,h4,h5⟩:=HE.out;exact⟨v',h1,h2,h3,λk hk=>by rcases h4 k hk with h|h;exact bm h;exact bO (bM W8.out.size h),(db.gA W8.out).trans (db.refl.drew.trans h5)⟩
def Og (p o:Nat)(T:aA)(cs:Array ao)(v:ao)(xs:List (Int×Int))(k:Nat)(w:ah)(hB:dt w p T cs)(hv:cs[o]? =ae v)(ho:w.ownsRow 0 43 2 v xs.length (xs.flatMap hC))(eb:v.ownBlock≠ae p)(hl:xs.length<=100000)(hk:k<xs.length):Calls aj 217 #[.pointer (ae ⟨p,o,ai⟩),.int .i64 k] w λe w'=>e=.returned (.agg (ints (hL (xs.getD k (0,0)))))/\oB w w' p T cs o v 43 2 (xs.length-1) (((xs.set k (xs.getD (xs.length-1) (0,0))).take (xs.length-1)).flatMap hC):=by
 obtain⟨A,c,rfl,vA,uL,hA⟩:=cM ho;obtain⟨g,rfl⟩:=hA (by omega);obtain⟨m,hm⟩: ∃m,xs.length=m+1:=⟨xs.length-1,by omega⟩;have hgp:g≠p:=λe=>eb (by rw[e];rfl)
 have Yy:(k:Int)<(m:Int)+1:=by omega
 have hmc:(m:Int)+1<=c:=by omega
 have hcc:(c:Int)<=9223372036854775807:=by unfold maxLen at uL;omega
 have hgl:=(gJ ho g rfl).2;have r1:row? w g (k *2) 2=ae (ints (hL (xs.getD k (0,0)))):=by rw[mD ho hk,mv AV xs k hk];simp[bB,aq hk];rfl
 have r2:row? w g (m *2) 2=ae (ints (hL (xs.getD m (0,0)))):=by rw[mD ho (show m<xs.length by omega),mv AV xs m (by omega)];simp[bB,aq (show m<xs.length by omega)];rfl
 have HB:=af hB;have HO:=af ho;have HN:=af eb;have hp:=hB.lt;have c0:w.cell? ⟨p,o,ai⟩=ae (.slice (ae ⟨g,0,ai⟩) (m+1) c):=by rw[<-hm];exact(hB.cell o).trans hv
 have HM:=af hm;have HK:=af hk;rw[hm,Nat.add_sub_cancel];clear ho hB eb hv hm hl vA;generalize hx1:xs.getD k (0,0)=x1 at *;generalize Hl:xs.getD m (0,0)=x2 at *;have HX2:=af Hl;obtain⟨BO,BP⟩:=x1;obtain⟨O4,O5⟩:=x2;change row? w g (k *2) 2=ae (ints [BO,BP])at r1;change row? w g (m *2) 2=ae (ints [O4,O5])at r2;clear hx1 Hl
 go_enter Tryz.func217,Tryz.ntmps217
 go_upto_region 1 with(fail)
 refine bZ (λw'=>dt w' w.heap.size 43 (ints [0,0])/\Below w.heap.size w w') ⟨dt.new _ _ _,(Below.refl _ _).alloc (ax _) _⟩ ?_;rintro w1 ⟨lJ,gF⟩;have f1:fits w1 w.heap.size 0 2=aw:=lJ.fits 0 2 (by decide);have q1:row? w1 g (k *2) 2=ae (ints [BO,BP]):=(kB gF hgl _ _).trans r1;have q2:row? w1 g (m *2) 2=ae (ints [O4,O5]):=(kB gF hgl _ _).trans r2;have c1:w1.cell? ⟨p,o,ai⟩=ae (.slice (ae ⟨g,0,ai⟩) (m+1) c):=(gF.cell (p:=⟨p,o,ai⟩) hp).trans c0;have hkx:k<xs.length:=HK.out;have Nb:w1.ownsRow 0 43 2 (.slice (ae ⟨g,0,ai⟩) xs.length c) xs.length (xs.flatMap hC):=tS HO.out gF;have hgq:g≠w.heap.size:=by omega
 have YK:p≠w.heap.size:=by omega
 have hO1:db (· =w.heap.size) w1 (putRow w1 w.heap.size 0 [BO,BP]):=db.putRow _ _ _ _;have Nc:(putRow w1 w.heap.size 0 [BO,BP]).ownsRow 0 43 2 (.slice (ae ⟨g,0,ai⟩) xs.length c) xs.length (xs.flatMap hC):=hO1.own Nb λq hq=>by simp[fx]at hq;omega
 have f2:fits w1 g (k *2) 2=aw:=EX Nb hkx;have hmm:(m:Int)<(m:Int)+1:=by omega
 have hB2:dt (putRow w1 w.heap.size 0 [BO,BP]) p T cs:=hO1.blk (HB.out.after gF) YK;have c1':(putRow w1 w.heap.size 0 [BO,BP]).cell? ⟨p,o,ai⟩=ae (.slice (ae ⟨g,0,ai⟩) (m+1) c):=(hB2.cell o).trans ((HB.out.cell o).symm.trans c0);have q2':row? (putRow w1 w.heap.size 0 [BO,BP]) g (m *2) 2=ae (ints [O4,O5]):=by unfold row? at q2|-;rw[hO1.block g (by have:=gF.size;omega) hgq];exact q2
 have f3:fits (putRow w1 w.heap.size 0 [BO,BP]) g (k *2) 2=aw:=EX Nc hkx;have HR:Hid (dt (putRow (putRow w1 w.heap.size 0 [BO,BP]) g (k *2) [O4,O5]) w.heap.size 43 (ints [BO,BP])/\
  (putRow (putRow w1 w.heap.size 0 [BO,BP]) g (k *2) [O4,O5]).ownsRow 0 43 2 (.slice (ae ⟨g,0,ai⟩) xs.length c) xs.length ((xs.set k (O4,O5)).flatMap hC)/\
  dt (putRow (putRow w1 w.heap.size 0 [BO,BP]) g (k *2) [O4,O5]) p T cs/\db (λq=>q=p\/q=g) w (putRow (putRow w1 w.heap.size 0 [BO,BP]) g (k *2) [O4,O5])):=by
  refine⟨(lJ.eU [BO,BP] rfl).zW _ _ (Ne.symm hgq),?_,hB2.zW _ _ (Ne.symm hgp),?_⟩
  ·have:=S0 (enc:=hL) (λ_=>rfl) Nc hkx (O4,O5);exact this
  ·refine((db.gA gF).trans' hO1 λq hq e=>absurd e (by omega)).trans' (db.putRow _ g _ _) λq hq e=>bO e
 clear Nb Nc hO1 hB2
 go_wp2_with fail
 go_region
 clear c1 c1' q1 q2 q2' f1 f2 f3 lJ gF;obtain⟨h1,h2,h3,h4⟩:dt (putRow (putRow w1 w.heap.size 0 [BO,BP]) g (k *2) [O4,O5]).drew w.heap.size 43 (ints [BO,BP])/\
  (putRow (putRow w1 w.heap.size 0 [BO,BP]) g (k *2) [O4,O5]).drew.ownsRow 0 43 2 (.slice (ae ⟨g,0,ai⟩) xs.length c) xs.length ((xs.set k (O4,O5)).flatMap hC)/\
  dt (putRow (putRow w1 w.heap.size 0 [BO,BP]) g (k *2) [O4,O5]).drew p T cs/\db (λq=>q=p\/q=g) w (putRow (putRow w1 w.heap.size 0 [BO,BP]) g (k *2) [O4,O5]).drew:=
  ⟨HR.out.1,HR.out.2.1,HR.out.2.2.1,HR.out.2.2.2.drew⟩
 clear HR;generalize (putRow (putRow w1 w.heap.size 0 [BO,BP]) g (k *2) [O4,O5]).drew=w4 at *;have c4:w4.cell? ⟨p,o,ai⟩=ae (.slice (ae ⟨g,0,ai⟩) (m+1) c):=(h3.cell o).trans ((HB.out.cell o).symm.trans c0);have c5:w4.frozen? ⟨p,o,ai⟩=ay:=h3.frozen o;have hl:=h1.Hb (g':=p) (Ne.symm YK) o (.slice (ae ⟨g,0,ai⟩) m c);have c6:row? (w4.setCell ⟨p,o,ai⟩ (.slice (ae ⟨g,0,ai⟩) m c)) w.heap.size 0 2=ae (ints [BO,BP]):=hl.bt rfl;have c7:fits (w4.setCell ⟨p,o,ai⟩ (.slice (ae ⟨g,0,ai⟩) m c)) w.heap.size 0 2=aw:=hl.fits 0 2 (by rw[bD];exact ax 2);have hN:(eA (ae ⟨g,0,ai⟩) (m+1) c).ownBlock≠ae p:=HN.out;have h2b:w4.ownsRow 0 43 2 (.slice (ae ⟨g,0,ai⟩) m c) m (((xs.set k (O4,O5)).take m).flatMap hC):=by have:=SZ h2 (m:=m) (by have:=HM.out;omega);rwa[xn AV]at this
 have h2c:=ownsRow_setCell_other (a:=⟨p,o,ai⟩) h2b hN (.slice (ae ⟨g,0,ai⟩) m c);have Yk:db (· =w.heap.size) (w4.setCell ⟨p,o,ai⟩ (.slice (ae ⟨g,0,ai⟩) m c)) (putRow (w4.setCell ⟨p,o,ai⟩ (.slice (ae ⟨g,0,ai⟩) m c)) w.heap.size 0 [BO,BP]):=db.putRow _ _ _ _;have HE:Hid (oB w (putRow (w4.setCell ⟨p,o,ai⟩ (.slice (ae ⟨g,0,ai⟩) m c)) w.heap.size 0 [BO,BP]) p T cs o (.slice (ae ⟨g,0,ai⟩) (m+1) c) 43 2 m (((xs.set k (O4,O5)).take m).flatMap hC)):=by refine⟨.slice (ae ⟨g,0,ai⟩) m c,(h3.set o _).zW _ _ YK,Yk.own h2c (λq hq=>by simp[fx]at hq;omega),hN,λq hq=>bm hq,?_⟩;refine((h4.mono (G:=λq=>q=p\/(eA (ae ⟨g,0,ai⟩) (m+1) c).ownBlock=ae q) λq _ hq=>by rcases hq with h|h;exact bm h;exact bO (by rw[h];rfl)).setCell (g:=p) (bm (bm rfl)) o _).trans' Yk λq hq e=>absurd e (by omega)
 have HBx:Hid (dt (putRow (w4.setCell ⟨p,o,ai⟩ (.slice (ae ⟨g,0,ai⟩) m c)) w.heap.size 0 [BO,BP]) w.heap.size 43 (ints [BO,BP])):=hl.eU [BO,BP] rfl;clear h1 h2 h3 h4 hl h2b h2c Yk
 go_wp2_with fail
 refine mj rfl w.heap.size 43 (ints [BO,BP]) _ rfl HBx.out Tryz.underlying43 rfl (by rw[bD];exact eB) rfl ⟨rfl,?_⟩;exact HE.out
def Oh (p o:Nat)(T:aA)(cs:Array ao)(v:ao)(xs:List Int)(k:Nat)(w:ah)(hB:dt w p T cs)(hv:cs[o]? =ae v)(ho:w.ownsRow 0 3 1 v xs.length (xs.flatMap λx=>[aF .i64 x]))(eb:v.ownBlock≠ae p)(hl:xs.length<=100000)(hk:k<xs.length):Calls aj 218 #[.pointer (ae ⟨p,o,ai⟩),.int .i64 k] w λe w'=>e=.returned (.int .i64 (xs.getD k 0))/\oB w w' p T cs o v 3 1 (xs.length-1) (((xs.set k (xs.getD (xs.length-1) 0)).take (xs.length-1)).flatMap λx=>[aF .i64 x]):=by
 obtain⟨A,c,rfl,vA,uL,hA⟩:=cM ho;obtain⟨g,rfl⟩:=hA (by omega);obtain⟨m,hm⟩: ∃m,xs.length=m+1:=⟨xs.length-1,by omega⟩;have GI: ∀x:Int,([aF .i64 x]:List ao).length=1:=λ_=>rfl
 have c1:w.cell? ⟨p,o,ai⟩=ae (.slice (ae ⟨g,0,ai⟩) (m+1) c):=by rw[<-hm];exact(hB.cell o).trans hv
 have c2:w.frozen? ⟨p,o,ai⟩=ay:=hB.frozen o;have d1:w.cell? ⟨g,k,ai⟩=ae (.int .i64 (xs.getD k 0)):=by rw[World.ownsRow.cellAt ho k (by omega),<-Nat.mul_one k,<-lC (k *1),rm GI xs k 0 hk (by omega)];simp[bB,aq hk]
 have d2:w.cell? ⟨g,m,ai⟩=ae (.int .i64 (xs.getD m 0)):=by rw[World.ownsRow.cellAt ho m (by omega),<-Nat.mul_one m,<-lC (m *1),rm GI xs m 0 (by omega) (by omega)];simp[bB,aq (show m<xs.length by omega)]
 have d3:w.frozen? ⟨g,k,ai⟩=ay:=World.ownsRow.frozenAt ho k;have hgp:g≠p:=λe=>eb (by rw[e];rfl)
 have ah4:p≠g:=λe=>hgp e.symm
 have Yy:(k:Int)<(m:Int)+1:=by omega
 have hmc:(m:Int)+1<=c:=by omega
 have hcc:(c:Int)<=9223372036854775807:=by unfold maxLen at uL;omega
 have HE:Hid (oB w ((w.setCell ⟨g,k,ai⟩ (.int .i64 (xs.getD m 0))).setCell ⟨p,o,ai⟩ (.slice (ae ⟨g,0,ai⟩) m c)).drew p T cs o (.slice (ae ⟨g,0,ai⟩) (m+1) c) 3 1 m (((xs.set k (xs.getD m 0)).take m).flatMap λx=>[aF .i64 x])):=by
  have s1:=(World.ownsRow.stored ho (k *1) (aF .i64 (xs.getD m 0))).1;rw[<-lC (k *1),tw GI xs k 0 (xs.getD m 0) _ hk (by omega) rfl,lC,Nat.mul_one]at s1;rw[hm]at s1;have s2:=SZ s1 (m:=m) (by omega);rw[xn GI]at s2;have hO1:db (λq=>q=p\/(eA (ae ⟨g,0,ai⟩) (m+1) c).ownBlock=ae q) w ((w.setCell ⟨g,k,ai⟩ (.int .i64 (xs.getD m 0))).setCell ⟨p,o,ai⟩ (.slice (ae ⟨g,0,ai⟩) m c)):=((db.refl (F:=λq=>q=p\/(eA (ae ⟨g,0,ai⟩) (m+1) c).ownBlock=ae q)).setCell (g:=g) (bm (bO rfl)) k _).setCell (g:=p) (bm (bm rfl)) o _
  exact⟨_,((hB.Hb ah4 _ _).set o _).drew,ownsRow_setCell_other (a:=⟨p,o,ai⟩) s2 (by rw[hm]at eb;exact eb) _,by rw[hm]at eb;exact eb,λq hq=>bm hq,hO1.drew⟩
 have HM:=af hm;rw[hm,Nat.add_sub_cancel];rw[hm]at hv ho eb hl vA hk;clear ho hB eb hv GI hm;generalize xs.getD k 0=x1 at *;generalize xs.getD m 0=x2 at *
 go_enter Tryz.func218,Tryz.ntmps218
 go_wp2_with fail
 go_region
 go_wp2_with fail
 go_ret;exact⟨rfl,HE.out⟩
def cI (p:Nat)(ls:List (Int×Bool)):bU:=Col 170 172 2 yh p ls
end
section
open Rel
def xV:List bK:=[11,12,14,15,16,17,18,19,21,24,25,26,27,28,29,30,32,33,31,76,34,35,36,37,38,39,40,42,43,44,45,46,49,50,51,52,53,54,55,56,57,58,59,60,61,62,63,64,65,66,67,68,69,70,71,72,73,74,75,77,78,79,80,81,82,83,84,85,86,87,88,89,90,91,92,93,94,95,96,97,98,99,100,101,102,103,107,108,109,110,111,112,113,114,115,116,117,118,119,120,121,122,123,124,125,126,127,128,129,130,131,132,133,134,135,136,137,138,140,141,142,143,144,145,146,147,148,149,150,151,152,167,168,169,170,171,172,173,174,175,176,177,178,179,180,181,182,183,184,185,186,187,188,189,190,191,192,193,194,195,196,197,198,199,200,201,202,213,214,215,216,217,218,219,220,221,222,223,224,225,226,227,228,229,230,231,232,233,234,238,239,240,241,242,243,244,245,246,247,248,249]
def YT:List aA:=[2,3,5,12,21,27,184,187,230,256,289]
def XO (f:bK):Bool:=f==139
def cfg (_:bK->List Tmp)(old:Nat):gj:={fn:=λf=>xV.contains f,int:=λt=>YT.contains t,old:=old,ext:=XO}
def afG:List (bK×List (Tmp×Kd)):=[(36,[(0,.sl 54),(11,.sl 54),(14,.sl 54),(18,.pt 54),(26,.sl 54),(29,.sl 54),(34,.pt 54),(41,.sl 54),(43,.pt 54)]),(12,[(1,.sl 54),(12,.sl 54),(19,.sl 54),(23,.pt 54)]),(11,[(0,.sl 74),(9,.sl 74),(13,.pt 74)]),(24,[(0,.sl 74),(9,.sl 74),(13,.pt 74)]),(13,[(2,.sl 54),(23,.sl 54),(35,.sl 54),(40,.pt 54)]),(3,[(0,.sl 74),(1,.sl 54),(13,.sl 74),(15,.sl 74),(24,.sl 54),(30,.sl 54),(44,.sl 54)]),(5,[(0,.sl 74),(1,.sl 54),(17,.sl 74),(24,.sl 54),(66,.sl 54),(70,.pt 54)]),(4,[(0,.sl 74),(1,.sl 54),(13,.sl 74),(15,.sl 74),(24,.sl 54),(33,.sl 54),(38,.sl 54),(40,.sl 54),(45,.sl 54),(47,.sl 54)]),(9,[(0,.sl 74),(1,.sl 74),(2,.sl 54),(22,.sl 74),(29,.sl 74),(33,.pt 74),(43,.sl 54)]),(41,[(21,.any)])]
def bdM (f:bK):List Tmp:=((afG.lookup f).getD []).map (·.1)
def kdM (f:bK)(t:Tmp):Kd:=(((afG.lookup f).getD []).lookup t).getD .any
def XL (t:aA):Option aA:=if t=22 then ae 74 else if t=23 then ae 54 else ai
def MU (t:aA):Option Nat:=if t=74 then ae 16 else if t=54 then ae 7 else ai
structure vO where
 n:Nat
 mem:Addr->Option Int
 lt: ∀a x,mem a=ae x->a.block<n
def vO.none:vO:=⟨0,λ_=>Option.none,by intro a x h;cases h⟩
def mV (O:vO):gj:={fn:=λf=>xV.contains f,int:=λt=>YT.contains t,bd:=bdM,kd:=kdM,old:=O.n,mem:=O.mem,KL:=O.lt,elem:=XL,flat:=MU,ext:=XO}
def adL:gj:={fn:=λf=>xV.contains f,int:=λt=>YT.contains t,ext:=XO}
noncomputable def acX (f:bK):Bool:=match Tryz.prog.funcs[f]? with
 |some F=>match F.body with
  |some b=>dq adL b&&dq ((mV vO.none).at f) b&&(F.name != "runtime.NumGoroutine")&&F.results.toList.all (sn (bdM f))
  |none=>ay
 |none=>ay
noncomputable def adn (t:aA):Bool:=match (Tryz.prog.types[t]?).bind (·.zero)with|some v=>oq v|none=>aw
def X8:xV.all acX=aw:=by decide+kernel
def abv:(YT.all λt=>match Tryz.prog.underlying t with|some (.int _)=>aw|_=>ay)=aw:=by decide+kernel
def acM:((bP Tryz.prog.types.size).all adn)=aw:=by decide+kernel
def XP (f:bK)(h:XO f=aw): ∃F,Tryz.prog.funcs[f]? =ae F/\F.name≠ "runtime.NumGoroutine" /\F.body=ai/\Extern.findNext F=ai/\Extern.find F=ae qJ:=by
 obtain rfl:f=139:=by simpa[XO]using h
 exact⟨_,Tryz.func139,by decide,rfl,by kernel_rfl,by kernel_rfl⟩
def Sq {f:bK}(h:xV.contains f=aw): ∃F b,Tryz.prog.funcs[f]? =ae F/\F.body=ae b/\dq adL b=aw/\dq ((mV vO.none).at f) b=aw/\F.name≠ "runtime.NumGoroutine" /\F.results.toList.all (sn (bdM f))=aw:=by
 have:=List.all_eq_true.1 X8 f (by simpa using h);unfold acX at this;cases hF:Tryz.prog.funcs[f]? with
 |none=>rw[hF]at this;cases this
 |some F=>
  rw[hF]at this;cases hb:F.body with
  |none=>simp only[hb]at this;cases this
  |some b=>simp only[hb,aG,bne_iff_ne,ne_eq]at this;exact⟨F,b,rfl,hb,this.1.1.1,this.1.1.2,this.1.2,this.2⟩
def SH {t:aA}(ht:YT.contains t=aw): ∃k,Tryz.prog.underlying t=ae (.int k):=by
 have:=List.all_eq_true.1 abv t (by simpa using ht);cases hu:Tryz.prog.underlying t with
 |none=>rw[hu]at this;cases this
 |some d=>rw[hu]at this;cases d<;>first|exact⟨_,rfl⟩|cases this
def Pa (t:aA)(i:TypeInfo)(v:ao)(h:Tryz.prog.info? t=ae i)(hz:i.zero=ae v):Rel.gE 6 v=aw:=by refine VY (λt i v h hz=> ?_) t i v h hz;have bJ:=(aI.1 h).1;have:=List.all_eq_true.1 acM t (ng.2 bJ);unfold adn at this;rw[h]at this;simp only[Option.bind_some,hz]at this;exact this
def Mt (bd:bK->List Tmp)(old:Nat):(cfg bd old).Fits aj:=by refine⟨λf hf=> ?_,λt ht=>SH ht,Pa,λt e h=>(by cases h),λt n h=>(by cases h),XP⟩;obtain⟨F,b,h1,h2,h3,_,h5,_⟩:=Sq hf;exact⟨F,b,h1,h2,(Cu (c:=(cfg bd old).at f) (d:=adL) rfl rfl rfl rfl rfl b).trans h3,h5,Bi (c:=cfg bd old) rfl F⟩
def oF (O:vO):(mV O).Fits aj:=by
 refine⟨λf hf=> ?_,λt ht=>SH ht,Pa,λt e h=> ?_,λt n h=> ?_,XP⟩
 ·obtain⟨F,b,h1,h2,_,h3,h5,h6⟩:=Sq hf;exact⟨F,b,h1,h2,(KQ (c:=(mV O).at f) (d:=(mV vO.none).at f) rfl rfl rfl rfl rfl rfl rfl rfl b).trans h3,h5,h6⟩
 ·have h:XL t=ae e:=h;unfold XL at h
  split at h
  ·rename_i ht
   cases h;exact⟨by rw[ht];exact Tryz.underlying22,16,rfl⟩
  ·split at h
   ·rename_i ht
    cases h;exact⟨by rw[ht];exact Tryz.underlying23,7,rfl⟩
   ·cases h
 ·have h:MU t=ae n:=h;unfold MU at h
  split at h
  ·rename_i ht
   cases h;exact⟨by rw[ht];exact⟨_,rfl,rfl⟩,by rw[ht];exact⟨_,Tryz.underlying74⟩⟩
  ·split at h
   ·rename_i ht
    cases h;exact⟨by rw[ht];exact⟨_,rfl,rfl⟩,by rw[ht];exact⟨_,Tryz.underlying54⟩⟩
   ·cases h
def aez {bd:bK->List Tmp}{old:Nat}{O:vO}{π:Ren}{o o':Obj}(h:kV (cfg bd old).sig π o o'):kV (mV O).sig π o o':=kV.sig (S:=(cfg bd old).sig) (S':=(mV O).sig) (λ_ h=>h) (λx hx=>(Cu (c:=(mV O).cl) (d:=(cfg bd old).cl) rfl rfl rfl rfl rfl x).trans hx) h
end
section
open Go.RowKit
structure uk (w:ah) (p b:Nat) (m:kN):Prop where
 ok:kg m
 blk:dt w p 175 #[.map (ae b)]
 map:dW lf lf (λ_=>True) w b m
def uk.after {w w':ah}{p b:Nat}{m:kN}(h:uk w p b m)(hb:Below w.heap.size w w'):uk w' p b m:=⟨h.ok,h.blk.after hb,h.map.after hb⟩
def n4 (m:kN)(c:Hd):Hd×Bool:=((dY m c).getD (0,0),(dY m c).isSome)
def wF {w:ah}{b:Nat}{m:kN}(h:dW lf lf (λ_=>True) w b m)(c:Hd){w':ah}(hb:Below w.heap.size w w'):(j9 173 (.map (ae b)) (lf c) aw).run aj w'=.ok (.tuple #[lf (n4 m c).1,.bool (n4 m c).2]) w':=by have:=(h.after hb).look pf Tryz.underlying173 (O8 w') (x:=c) trivial aw;rw[this];unfold n4;cases dY m c<;>rfl
section
variable {G:Nat->Prop} {w0 w:ah} {l:List bU} {p:Nat} {m:kN}
def Sg (h:In G w0 l w):Calls aj 86 #[] w λe w'=> ∃p,e=.returned (.pointer (ae ⟨p,0,ai⟩))/\In G w0 (j3 p []::l) w':=by
 have H:=af h;clear h;have hmm:= @run_makeMap aj
 go_enter Tryz.func86,Tryz.ntmps86
 go_wp2_with fail
 go_ret;have h2:=(H.out.EO lf lf (λ_=>True)).alloc 175 #[.map (ae w.heap.size)];rw[dw]at h2;exact⟨_,rfl,In.qz kg.nil h2⟩
end
def En (h:Hd)(x:Hd×Hd):Bool:=decide (x.1=h)||decide (x.2=h)
def ad2 (a b:Hd):decide (hL a=hL b)=decide (a=b):=by rw[l8,decide_eq_true_eq,decide_eq_true_eq];exact⟨Yh,λe=>by rw[e]⟩
def Ud (x v h:Hd)(hb:Nat)(w:ah)(hB:dt w hb 43 (ints (hL h))):Calls aj 179 #[lf x,lf v,.pointer (ae ⟨hb,0,ai⟩)] w λe w'=>e=.returned (.bool (En h (x,v)))/\Below w.heap.size w w':=by
 have HB:=af hB;clear hB;have heq: ∀(a b:Hd) (W:ah),(binOp .eql 43 (.agg (ints (hL a))) (.agg (ints (hL b)))).run aj W=.ok (.bool (decide (a=b))) W:=λa b W=>by rw[yv _ _ rfl rfl W,ad2]
 have h1:=heq x h;have h2:=heq v h;have HR:Hid (En h (x,v)=(decide (x=h)||decide (v=h))):=rfl;clear heq
 go_enter Tryz.func179,Tryz.ntmps179
 go_upto_region 1 with(fail)
 refine bZ (λw'=>dt w' (w.heap.size+1) 43 (ints (hL v))/\dt w' w.heap.size 43 (ints (hL x))/\Below w.heap.size w w') ⟨by have:=dt.new (w.alloc (.cells (ints (hL x)) 43)) 43 (ints (hL v));rwa[dw]at this,(dt.new w _ _).alloc _,((Below.refl _ _).alloc (ax _) _).alloc (by simp) _⟩ ?_
 rintro w1 ⟨hV,hX,lJ⟩;have qk:=af lJ;have q1:row? w1 (w.heap.size+1) 0 2=ae (ints (hL v)):=hV.bt rfl;have q2:row? w1 w.heap.size 0 2=ae (ints (hL x)):=hX.bt rfl;have q3:row? w1 hb 0 2=ae (ints (hL h)):=(HB.out.after lJ).bt rfl;clear hV hX lJ HB;generalize hL x=xs at *;generalize hL v=vs at *;generalize hL h=hs at *;generalize w.heap.size+1=vb at *;cases Pg:decide (x=h)
 ·rw[Pg]at h1 HR;clear Pg;generalize decide (v=h)=d2 at *
  go_wp2_with fail
  go_ret;exact⟨eu (by rw[HR.out];rfl),qk.out⟩
 ·rw[Pg]at h1 HR;clear Pg h2;generalize decide (v=h)=d2 at *
  go_wp2_with fail
  go_ret;exact⟨eu (by rw[HR.out];rfl),qk.out⟩
def Lx {κ ν:Type}[DecidableEq κ]{P:aS}{k:aA}{ek:κ->ao}{ev:ν->ao}{good:κ->Prop}{w:ah}(K:nQ P k ek good){ops:Array Oper}{rest:List Oper}{o:Oper}{a:Act}{Q:Exit->Act->ah->Prop}(sN:o.guard=ai)(mo xo:cG)(t e:aA)(hop:o.op=Op.call {callee:=Callee.builtin Builtin.delete,args:= #[mo,xo],argTypes:= #[t,k]})(ht:P.underlying t=ae (.map k e))(b r:Nat)(m left:List (κ×ν))(hm:a.eval mo=.map (ae b))(h:dn ek ev good w b r m left)(x:κ)(hx:a.eval xo=ek x)(Wm:good x)(SE:x∉aW left)(hK: ∀w',dn ek ev good w' b r (dZ m x) left->db (· =b) w w'->w'.heap.size=w.heap.size->wpList P ops Q rest (a.put o.dst (.tuple #[])) w'):wpList P ops Q (o::rest) a w:=by
 refine wpList_plain sN λK' jX=> ?_
 obtain⟨w',cT,h1,h2,h3⟩:=h.drop K ht Wm SE o.type;unfold Oper.wp;simp[execOp,hop,resolve,invoke,builtin,hm,hx,cT,dQ];exact jX _ _ (hK w' h1 h2 h3)
def mA (m:kN)(h:Hd)(left:kN):kN:=m.filter λx=>decide (x.1∈aW left)|| !En h x
def Hf (m:kN)(h:Hd):mA m h m=m:=by unfold mA;rw[List.filter_eq_self];intro x hx;rw[decide_eq_true (show x.1∈aW m from aH.2 ⟨x,hx,rfl⟩)];rfl
def MY (m:kN)(h:Hd):mA m h []=o5 m h:=by unfold mA o5 En;apply List.filter_congr;intro x _;simp[aW]
def oX {left:kN}{x y:Hd}:y∈aW (dZ left x)↔y∈aW left/\y≠x:=by
 unfold aW;simp only[aH];constructor
 ·rintro⟨p,hp,rfl⟩;have:=fP.1 hp;exact⟨⟨p,this.1,rfl⟩,this.2⟩
 ·rintro⟨⟨p,hp,rfl⟩,eb⟩;exact⟨p,fP.2 ⟨hp,eb⟩,rfl⟩
def Kp {m left:kN}{h x v:Hd}(hn:(aW m).Nodup)(hx:(x,v)∈m)(hg:En h (x,v)=ay):mA m h (dZ left x)=mA m h left:=by
 unfold mA;apply List.filter_congr;intro y hy;by_cases e:y.1=x
 ·have:y=(x,v):=qV hn y hy (x,v) hx e;rw[this,hg];simp
 ·congr 1;rw[l8,decide_eq_true_eq,decide_eq_true_eq,oX];exact⟨λh=>h.1,λh=>⟨h,e⟩⟩
def Ko {m left:kN}{h x v:Hd}(hn:(aW m).Nodup)(hx:(x,v)∈m)(hg:En h (x,v)=aw):dZ (mA m h left) x=mA m h (dZ left x):=by
 unfold mA dZ;rw[List.filter_filter];apply List.filter_congr;intro y hy;by_cases e:y.1=x
 ·have:y=(x,v):=qV hn y hy (x,v) hx e;have h2:decide (y.1∈aW (dZ left x))=ay:=by rw[decide_eq_false_iff_not,oX];exact λh=>h.2 e
  rw[show(List.filter (λp:Hd×Hd=> !decide (p.1=x)) left)=dZ left x from rfl,h2,this,hg];simp
 ·have h2:decide (y.1∈aW (dZ left x))=decide (y.1∈aW left):=by rw[l8,decide_eq_true_eq,decide_eq_true_eq,oX];exact⟨λh=>h.1,λh=>⟨h,e⟩⟩
  rw[show(List.filter (λp:Hd×Hd=> !decide (p.1=x)) left)=dZ left x from rfl,h2];simp[e]
def Ha {G:Nat->Prop}{w0 w:ah}{l:List bU}{b hb:Nat}{m:kN}(hn:(aW m).Nodup)(h:Hd)(hI:In G w0 (Az b m::br hb 43 (ints (hL h))::l) w):Calls aj 178 #[.map (ae b),.func (.func 179) #[] #[.pointer (ae ⟨hb,0,ai⟩)]] w λe w'=>e=.returned (.tuple #[])/\In G w0 (Az b (o5 m h)::br hb 43 (ints (hL h))::l) w':=by
 have kZ:=af hI;have HN:=af hn;clear hI hn
 go_enter Tryz.func178,Tryz.ntmps178
 go_wp2_with (at_range;go_loud (refine gX rfl _ 173 43 rfl Tryz.underlying173 b _ rfl (In.fU kZ.out) ?_))
 intro w6 hr6 Ku hs6;have kh:=af (In.Br kZ.out hr6 Ku hs6);generalize w.heap.size=ri at *;clear hr6 Ku hs6 kZ
 go_wp2_with fail
 go_loopw [9] (λ_ w'=> ∃left,(∀q∈left,q∈m)/\In G w0 (gO lf lf (λ_=>True) b ri (mA m h left) left::br hb 43 (ints (hL h))::l) w') (λ_ w'=>w'.rangeLeft b ri)
 case atStart=>exact⟨m,λ_ h=>h,by rw[Hf];exact kh.out⟩
 case round=>
  clear kh;obtain⟨left,mW,hI⟩:=hrel;have HI:=af hI;have HS:=af mW;clear hI mW
  go_wp2_with (at_next;go_loud (refine j1 pf rfl _ rfl b ri _ left rfl (In.rangeAt HI.out) ?_ ?_))
  ·intro Na;subst Na;rw[MY]at HI
   go_wp2_with fail
   go_end0
   exact⟨rfl,In.ud HI.out⟩
  ·intro x1 x2 v1 v2 w7 hx AY Au Ni o9 Uj;have kh:=af (In.nf HI.out AY Au);have HX:=af (HS.out _ hx);have um:=af o9;have HXL:=af hx;clear AY Au Ni o9 hx;obtain⟨f1,f2⟩:=An w7 43 43 [0,0] [0,0] [x1,x2]
   go_upto_region 3 with(fail)
   refine bZ (In G w0 (br (w7.heap.size+1) 43 (ints [v1,v2])::br w7.heap.size 43 (ints [x1,x2])::gO lf lf (λ_=>True) b ri (mA m h left) (dZ left (x1,x2))::br hb 43 (ints (hL h))::l)) (kh.out.Dz 43 43 [0,0] [0,0] [x1,x2] [v1,v2] rfl rfl) ?_;clear f1 f2 Uj kh;generalize w7.heap.size+1=vb;generalize w7.heap.size=xb;intro w8 mR;have q1:row? w8 xb 0 2=ae (ints [x1,x2]):=mR.swap.blk.bt rfl;have q2:row? w8 vb 0 2=ae (ints [v1,v2]):=mR.blk.bt rfl;have hBH:=mR.fourth.blk;have oQ:=af mR.third;clear mR
   go_wp2_with fail
   refine(Ud (x1,x2) (v1,v2) h hb w8 hBH).mono ?_;rintro e w9 ⟨rfl,Kw⟩;have pw:=af (oQ.out.below Kw);have q1:row? w9 xb 0 2=ae (ints [x1,x2]):=pw.out.third.blk.bt rfl;have vw:Hid (In G w0 (gO lf lf (λ_=>True) b ri (mA m h left) (dZ left (x1,x2))::br hb 43 (ints (hL h))::l) w9):=by have:=pw.out.swap.drop.swap.drop;exact this
   clear Kw oQ q2 pw;cases hg:En h ((x1,x2),(v1,v2))
   ·have HK:=af (Kp (left:=left) HN.out HX.out hg);clear hg
    go_wp2_with fail
    go_roundw
    case rel=>exact⟨dZ left (x1,x2),λq hq=>HS.out q (fP.1 hq).1,by rw[HK.out];exact vw.out⟩
    case measure=>rw[(In.rangeAt vw.out).count,(In.rangeAt HI.out).count];exact um.out
   ·have HK:=af (Ko (left:=left) HN.out HX.out hg);have hnl:(x1,x2)∉aW (dZ left (x1,x2)):=λh=>(oX.1 h).2 rfl
    clear hg
    go_wp2_with (at_delete;go_loud (refine Lx pf rfl _ _ 173 43 rfl Tryz.underlying173 b ri _ _ rfl (In.rangeAt vw.out) (x1,x2) rfl trivial hnl ?_))
    intro Ax h1 h2 h3;have vz:=af (In.Lc vw.out h1 h2);rw[HK.out]at vz;clear h1 h2 h3 vw hnl
    go_wp2_with fail
    go_roundw
    case rel=>exact⟨dZ left (x1,x2),λq hq=>HS.out q (fP.1 hq).1,vz.out⟩
    case measure=>rw[(In.rangeAt vz.out).count,(In.rangeAt HI.out).count];exact um.out
def XW {G:Nat->Prop}{w0 w:ah}{l:List bU}{p:Nat}{m:kN}(h:In G w0 (j3 p m::l) w)(c:Hd):Calls aj 132 #[.pointer (ae ⟨p,0,ai⟩),lf c] w λe w'=>e=.returned (.tuple #[])/\In G w0 (j3 p (o5 m c)::l) w':=by
 obtain⟨hm,b,hI⟩:=h.xx;have HM:=af hm;have kZ:=af hI;clear h hm hI;obtain⟨c1,c2⟩:=c;rw[kX]
 go_enter Tryz.func132,Tryz.ntmps132
 go_upto_region 1 with(fail)
 refine bZ (In G w0 (br w.heap.size 43 (ints [c1,c2])::br p 175 #[.map (ae b)]::Az b m::l)) (kZ.out.alloc 43 (ints [c1,c2])) ?_;generalize w.heap.size=cb;intro w1 hI;have k0:w1.cell? ⟨p,0,ai⟩=ae (.map (ae b)):=hI.swap.blk.cell 0;have HI:Hid (In G w0 (Az b m::br cb 43 (ints (hL (c1,c2)))::br p 175 #[.map (ae b)]::l) w1):=hI.third;clear hI kZ
 go_wp2_with fail
 refine(Ha HM.out.nodup (c1,c2) HI.out).mono ?_;rintro e w2 ⟨rfl,gm⟩;have gu:=af gm;clear gm HI k0
 go_wp2_with fail
 go_end0
 exact⟨rfl,In.qz (HM.out.gone _) (gu.out.third.swap.third.drop.swap)⟩
def P3 {G:Nat->Prop}{w0 w:ah}{l:List bU}{p:Nat}{m:kN}(h:In G w0 (j3 p m::l) w)(c:Hd):Calls aj 70 #[.pointer (ae ⟨p,0,ai⟩),lf c] w λe w'=>e=.returned (.int .i64 (fT m c).2)/\In G w0 (j3 p (fT m c).1::l) w':=by
 obtain⟨hm,b,hI⟩:=h.xx;have HM:=af hm;have kZ:=af hI;clear h hm hI;obtain⟨c1,c2⟩:=c;rw[kX]
 go_enter Tryz.func70,Tryz.ntmps70
 go_upto_region 1 with(fail)
 refine bZ (In G w0 (br w.heap.size 43 (ints [c1,c2])::br p 175 #[.map (ae b)]::Az b m::l)) (kZ.out.alloc 43 (ints [c1,c2])) ?_;generalize w.heap.size=cb;intro w1 hI;have Wi:=(Below.refl w1.heap.size w1).alloc (ax _) (.cells #[.int .i64 0,.int .i64 0] 43);have pe:=hI.third.fU;have k0:w1.cell? ⟨p,0,ai⟩=ae (.map (ae b)):=hI.swap.blk.cell 0;have k1:row? w1 cb 0 2=ae #[.int .i64 c1,.int .i64 c2]:=hI.blk.bt (xs:=[c1,c2]) rfl;have k2:row? (w1.alloc (.cells #[.int .i64 0,.int .i64 0] 43)) cb 0 2=ae #[.int .i64 c1,.int .i64 c2]:=(hI.blk.after Wi).bt (xs:=[c1,c2]) rfl;have k3:(w1.alloc (.cells #[.int .i64 0,.int .i64 0] 43)).cell? ⟨p,0,ai⟩=ae (.map (ae b)):=(hI.swap.blk.after Wi).cell 0;have o8:=wF pe (c1,c2) (Below.refl _ _).drew;have Dm:=wF pe (c1,c2) (((Below.refl _ w1).alloc (ax _) (.cells #[.int .i64 0,.int .i64 0] 43)).drew);have HI:=af hI;rw[kX]at o8 Dm;have V5:Hid ((n4 m (c1,c2)).2=(dY m (c1,c2)).isSome):=rfl;generalize n4 m (c1,c2)=r at *;obtain⟨⟨r1,r2⟩,is⟩:=r;simp only[kX]at o8 Dm V5;clear hI pe Wi kZ;have BU:Hid (∀w2,w2=(putRow (w1.alloc (.cells (ints [0,0]) 43)) w1.heap.size 0 [r1,r2]).drew->In G w0 (br p 175 #[.map (ae b)]::Az b m::br cb 43 (ints [c1,c2])::l) w2):=λw2 e=>by rw[e];exact((HI.out.below (dV w1 43 [0,0] [r1,r2]).drew).perm ((cJ _ _ _).trans ((cJ _ _ _).cons _)))
 go_region
 all_goals
  go_upto_region 2 with(fail)
  refine bZ (In G w0 (br p 175 #[.map (ae b)]::Az b m::br cb 43 (ints [c1,c2])::l)) (BU.out _ rfl) ?_;intro w2 gm;have gu:=af gm;have k4:w2.cell? ⟨p,0,ai⟩=ae (.map (ae b)):=gm.blk.cell 0;have k5:row? w2 cb 0 2=ae #[.int .i64 c1,.int .i64 c2]:=gm.third.blk.bt (xs:=[c1,c2]) rfl;clear gm o8 Dm k0 k1 k2 k3 BU HI;cases is
  ·have HL:Hid (fT m (c1,c2)=(m,5)):=by unfold Hid fT;rw[<-V5.out];rfl
   go_wp2_with fail
   go_ret;rw[HL.out];exact⟨rfl,In.qz HM.out gu.out.third.drop⟩
  ·have HL:Hid (fT m (c1,c2)=(dZ m (c1,c2),0)):=by unfold Hid fT;rw[<-V5.out];rfl
   go_wp2_with fail
   go_still_tail 5,(by kernel_rfl)
   change wpList _ _ _ _ _ w2.drew;have fW:=af gu.out.drew;clear gu k4 k5;generalize w2.drew=w3 at *
   go_wp2_with (at_delete;go_loud (refine sx pf rfl _ _ 173 43 rfl Tryz.underlying173 b m rfl fW.out.swap.fU (c1,c2) rfl trivial ?_))
   intro w4 h1 h2 h3;have iR:=af (In.oJ fW.out.swap h1 h2);clear h1 h2 h3
   go_wp2_with fail
   go_ret;rw[HL.out];have rY:=HM.out.loosen (c1,c2);rw[HL.out]at rY;exact⟨rfl,In.qz rY iR.out.swap.third.drop⟩
def ady (A B:bU):bU where
 at_ w F:=Sep [A,B] w F
 frame h ho hd:=h.frame ho hd
 cut h hd:=h.cut hd
section
variable {A B:bU} {l:List bU} {F:Nat->Prop} {w0 w w':ah}
def In.join (h:In F w0 (A::B::l) w):In F w0 (ady A B::l) w:=by
 obtain⟨⟨F1,F2,h1,⟨F3,F4,g1,g2,g3,g4⟩,h3,h4⟩,ho⟩:=h;refine⟨⟨λk=>F1 k\/F3 k,F4,⟨F1,F3,h1,⟨F3,λ_=>False,g1,trivial,λ_ _ h=>h,λk h=>by rcases h with h|h;exact h;exact h.elim⟩,λk a b=>h3 k a (g4 k (bm b)),λk h=>h⟩,g2,λk a b=> ?_,λk h=> ?_⟩,ho⟩
 ·rcases a with a|a
  ·exact h3 k a (g4 k (bO b))
  ·exact g3 k a b
 ·rcases h with(h|h)|h
  ·exact h4 k (bm h)
  ·exact h4 k (bO (g4 k (bm h)))
  ·exact h4 k (bO (g4 k (bO h)))
def In.split (h:In F w0 (ady A B::l) w):In F w0 (A::B::l) w:=by
 obtain⟨⟨F1,F2,⟨F3,F4,g1,⟨F5,F6,e1,_,e3,e4⟩,g3,g4⟩,h2,h3,h4⟩,ho⟩:=h;refine⟨⟨F3,λk=>F5 k\/F2 k,g1,⟨F5,F2,e1,h2,λk a b=>h3 k (g4 k (bO (e4 k (bm a)))) b,λk h=>h⟩,λk a b=> ?_,λk h=> ?_⟩,ho⟩
 ·rcases b with b|b
  ·exact g3 k a (e4 k (bm b))
  ·exact h3 k (g4 k (bm a)) b
 ·rcases h with h|h|h
  ·exact h4 k (bm (g4 k (bm h)))
  ·exact h4 k (bm (g4 k (bO (e4 k (bm h)))))
  ·exact h4 k (bO h)
def In.added {p o n n' size:Nat}{T E:aA}{cs:Array ao}{v:ao}{xs xs':List ao}(h:In F w0 (br p T cs::eD E size v n xs::l) w)(he:oB w w' p T cs o v E size n' xs'): ∃v',In F w0 (br p T (cs.setIfInBounds o v')::eD E size v' n' xs'::l) w':=by
 obtain⟨v',h1,h2,h3,h4,h5⟩:=he;obtain⟨F1,hA,hF,jQ⟩:=h.join.open_;obtain⟨G1,G2,⟨g1,g1p⟩,⟨G3,G4,g2,_,g3,g4⟩,g5,g6⟩:=hA;refine⟨v',In.split (jQ (A':=ady (br p T (cs.setIfInBounds o v')) (eD E size v' n' xs')) ?_ (h5.mono λk _ hk=> ?_))⟩
 ·refine⟨(· =p),λk=>v'.ownBlock=ae k,⟨h1,rfl⟩,⟨λk=>v'.ownBlock=ae k,λ_=>False,⟨h2,λk hk=>hk⟩,trivial,λ_ _ h=>h,λk h=>by rcases h with h|h;exact h;exact h.elim⟩,λk a b=>h3 (by rw[<-a];exact b),λk hk=> ?_⟩;rcases hk with hk|hk
  ·rw[hk];exact bm (g6 p (bm g1p))
  ·rcases h4 k hk with h|h
   ·exact bm (g6 k (bO (g4 k (bm (g2.2 k h)))))
   ·exact bO ⟨h,(gJ h2 k hk).2⟩
 ·rcases hk with hk|hk
  ·rw[hk];exact g6 p (bm g1p)
  ·exact g6 k (bO (g4 k (bm (g2.2 k hk))))
def In.sliceAt {p n size:Nat}{T E:aA}{cs:Array ao}{v:ao}{xs:List ao}(h:In F w0 (br p T cs::eD E size v n xs::l) w):dt w p T cs/\w.ownsRow 0 E size v n xs/\v.ownBlock≠ae p:=by obtain⟨⟨F1,F2,⟨h1,h1p⟩,⟨F3,F4,g1,g2,g3,g4⟩,h3,h4⟩,ho⟩:=h;exact⟨h1,g1.1,λe=>h3 p h1p (g4 p (bm (g1.2 p e)))⟩
def kM.parts {α:Type}{T E:aA}{size:Nat}{enc:α->List ao}{p:Nat}{xs:List α}(h:kM T E size enc w p xs F): ∃v,dt w p T #[v]/\w.ownsRow 0 E size v xs.length (xs.flatMap enc)/\v.ownBlock≠ae p/\ ∀(ys:List α) (w':ah),oB w w' p T #[v] 0 v E size ys.length (ys.flatMap enc)->kM T E size enc w' p ys (GL F w w')/\db F w w':=by
 obtain⟨v,h1,h2,h3,h4,h5⟩:=h;refine⟨v,h1,h2,h3,λys w' he=> ?_⟩;obtain⟨v',g1,g2,g3,g4,g5⟩:=he;refine⟨⟨v',g1,g2,g3,bm h4,λk hk=> ?_⟩,g5.mono λk _ hk=> ?_⟩
 ·rcases g4 k hk with h|h
  ·exact bm (h5 k h)
  ·exact bO ⟨h,(gJ g2 k hk).2⟩
 ·rcases hk with hk|hk
  ·rw[hk];exact h4
  ·exact h5 k hk
end
structure cQ where
 h:Int×Int
 b:aQ
def cQ.list (r:cQ):List Int:=[r.h.1,r.h.2]++r.b.list
def aM:cQ:=⟨(0,0),⟨0,[0,0,0,0,0,0,0,0]⟩⟩
def A8 (x:Int):List ao:=[.int .i64 x]
abbrev wJ (b:Nat):ao:=.pointer (ae ⟨b,0,ai⟩)
@[go_sem] theorem ahn (b:Nat):wJ b=.pointer (ae ⟨b,0,ai⟩):=rfl
def jO (K:Int):List Nat:=kinds K.toNat
def oM (K:Int):(jO K).Nodup:=sk _
def cW (rows:List cQ)(k:Nat):List Int:=rows.map λr=>r.b.v.getD k 0
abbrev kY (b:Nat)(xs:List Int):bU:=Col 218 3 1 A8 b xs
abbrev PtrMap (t:Nat)(m:List (Int×Nat)):bU:=uo (aF .i64) wJ ot t m
def BX (K:Int)(rows:List cQ):Prop:= ∀r∈rows,r.b.k=K/\r.b.v.length=8/\ ∀k,k<8->k∉jO K->r.b.v.getD k 0=0
def l5 (p:Nat)(K:Int)(hv:ao)(mb:Nat)(cb:Nat->Nat)(rows:List cQ)(col:Nat->List Int):List bU:=[br p 215 #[.int .i64 K,hv,.map (ae mb)],eD 43 2 hv rows.length (rows.flatMap λr=>hC r.h),PtrMap mb ((jO K).map λk:Nat=>((k:Int),cb k))]++(jO K).map λk=>kY (cb k) (col k)
def oo (p:Nat)(K:Int)(rows:List cQ):bU where
 at_ w F:=BX K rows/\(0<=K/\K<=255)/\ ∃hv mb cb,Sep (l5 p K hv mb cb rows (cW rows)) w F
 frame h ho hd:=by obtain⟨h1,h2,hv,mb,cb,hs⟩:=h;exact⟨h1,h2,hv,mb,cb,hs.frame ho hd⟩
 cut h hd:=by obtain⟨h1,h2,hv,mb,cb,hs⟩:=h;exact⟨h1,h2,hv,mb,cb,hs.cut hd⟩
def In.KT {F:Nat->Prop}{w0 w:ah}{l:List bU}{p:Nat}{K:Int}{rows:List cQ}(h:In F w0 (oo p K rows::l) w):BX K rows/\(0<=K/\K<=255)/\ ∃hv mb cb,In F w0 (l5 p K hv mb cb rows (cW rows)++l) w:=by obtain⟨⟨F1,F2,⟨hT,hK,hv,mb,cb,hs⟩,h2,h3,h4⟩,ho⟩:=h;exact⟨hT,hK,hv,mb,cb,(Sep.join hs h2 h3).cut λk _ hk=>h4 k hk,ho⟩
def In.Tf {F:Nat->Prop}{w0 w:ah}{l:List bU}{p:Nat}{K:Int}{rows:List cQ}{hv:ao}{mb:Nat}{cb:Nat->Nat}(hT:BX K rows)(hK:0<=K/\K<=255)(h:In F w0 (l5 p K hv mb cb rows (cW rows)++l) w):In F w0 (oo p K rows::l) w:=by obtain⟨hs,ho⟩:=h;obtain⟨F1,F2,h1,h2,h3,h4⟩:=Sep.part hs;exact⟨⟨F1,F2,⟨hT,hK,hv,mb,cb,h1⟩,h2,h3,h4⟩,ho⟩
structure uw (w:ah) (p:Nat) (K:Int) (rows:List cQ) (hv:ao) (mb:Nat) (cb:Nat->Nat):Prop where
 t:BX K rows
 k:0<=K/\K<=255
 b:dt w p 215 #[.int .i64 K,hv,.map (ae mb)]
 o:w.ownsRow 0 43 2 hv rows.length (rows.flatMap λr=>hC r.h)
 m:dW (aF .i64) wJ ot w mb ((jO K).map λk:Nat=>((k:Int),cb k))
 c: ∀k∈jO K,∃F,kM 218 3 1 A8 w (cb k) (cW rows k) F
def uw.after {w w':ah}{p:Nat}{K:Int}{rows:List cQ}{hv:ao}{mb:Nat}{cb:Nat->Nat}(h:uw w p K rows hv mb cb)(hb:Below w.heap.size w w'):uw w' p K rows hv mb cb:=⟨h.t,h.k,h.b.after hb,tS h.o hb,h.m.after hb,λk hk=>by obtain⟨F,hc⟩:=h.c k hk;exact⟨F,hc.after hb⟩⟩
def oo.see {w:ah}{p:Nat}{K:Int}{rows:List cQ}{F:Nat->Prop}(h:(oo p K rows).at_ w F): ∃hv mb cb,uw w p K rows hv mb cb:=by obtain⟨hT,hK,hv,mb,cb,hs⟩:=h;have hI:In F w ([br p 215 #[.int .i64 K,hv,.map (ae mb)],eD 43 2 hv rows.length (rows.flatMap λr=>hC r.h),PtrMap mb ((jO K).map λk:Nat=>((k:Int),cb k))]++(jO K).map λk=>kY (cb k) (cW rows k)) w:=In.start hs;exact⟨hv,mb,cb,hT,hK,In.blk hI,(In.sliceAt hI).2.1,(In.third hI).fU,λk hk=>hI.ZI (oM K) hk⟩
def aeN {w:ah}{g o n:Nat}{x:Array ao}(h:row? w g o n=ae x):g<w.heap.size:=by
 unfold row? at h
 split at h
 ·rename_i hg;exact(aI.1 hg).1
 ·cases h
def mM (n:Nat)(row:Int):Bool:=decide (0<=row)&&decide (row<n)
def I5 {p:Nat}{K:Int}{rows:List cQ}{hv:ao}{mb:Nat}{cb:Nat->Nat}(row:Int)(w:ah)(h:uw w p K rows hv mb cb)(hl:rows.length<=100000):Calls aj 137 #[.pointer (ae ⟨p,0,ai⟩),.int .i64 row] w λe w'=>e=.returned (.bool (mM rows.length row))/\w=w':=by
 obtain⟨A,c,rfl,_,_,_⟩:=cM h.o;have c1:w.cell? ⟨p,1,ai⟩=ae (.slice A rows.length c):=h.b.cell 1;clear h;by_cases h0:0<=row
 ·have hd:Hid (mM rows.length row=decide (row<rows.length)):=by unfold Hid mM;rw[decide_eq_true h0];rfl
  have hb:decide (0<=row)=aw:=by simpa using h0
  go_enter Tryz.func137,Tryz.ntmps137
  go_wp2_with fail
  go_ret;exact⟨eu hd.out.symm,rfl⟩
 ·have hd:Hid (mM rows.length row=ay):=by unfold Hid mM;rw[decide_eq_false h0];rfl
  have hb:decide (0<=row)=ay:=by simpa using h0
  go_enter Tryz.func137,Tryz.ntmps137
  go_wp2_with fail
  go_ret;exact⟨eu hd.out.symm,rfl⟩
def wO (rows:List cQ)(row:Int):cQ×Int:=if mM rows.length row then(rows.getD row.toNat aM,0)else(aM,5)
def ZP {K:Int}{rows:List cQ}(h:BX K rows)(row:Int):(wO rows row).1.b.v.length=8:=by
 unfold wO
 split
 ·rename_i hr
  simp only[mM,aG,decide_eq_true_eq]at hr;have bJ:row.toNat<rows.length:=by omega
  simp only[bB,aq bJ,bT];exact(h _ (bg bJ)).2.1
 ·rfl
def O0 {p:Nat}{K:Int}{rows:List cQ}{hv:ao}{mb:Nat}{cb:Nat->Nat}(row:Int)(w:ah)(h:uw w p K rows hv mb cb)(hl:rows.length<=100000):Calls aj 73 #[.pointer (ae ⟨p,0,ai⟩),.int .i64 row] w λe w'=>e=.returned (.tuple #[.agg (ints (wO rows row).1.list),.int .i64 (wO rows row).2])/\Below w.heap.size w w':=by
 have HS:=af h;clear h
 go_enter Tryz.func73,Tryz.ntmps73
 go_upto_region 1 with(fail)
 refine bZ (λw'=>dt w' w.heap.size 50 (ints aM.list)/\Below w.heap.size w w') ⟨dt.new _ _ _,(Below.refl _ _).alloc (ax _) _⟩ ?_;rintro w1 ⟨Eo,lJ⟩;have qk:=af Eo;have Pf:=af lJ;have V6:=af (HS.out.after lJ);clear Eo lJ
 go_wp2_with fail
 refine(I5 row w1 V6.out hl).mono ?_;rintro e w' ⟨rfl,rfl⟩;cases hr:mM rows.length row
 ·have HR:Hid (wO rows row=(aM,5)):=by unfold Hid wO;rw[hr];rfl
  have ff:fits w1 w.heap.size 0 11=aw:=qk.out.fits 0 11 (by rw[bD];decide);clear hr
  go_wp2_with fail
  refine cN rfl w.heap.size 50 (ints aM.list) (.int .i64 5) _ rfl rfl (qk.out.eU _ rfl) Tryz.underlying50 rfl (by rw[bD];exact tY) rfl ?_;rw[HR.out];exact⟨rfl,Pf.out.trans (jL (Below.refl w.heap.size w1) (ax _) 0 _)⟩
 ·have HR:Hid (wO rows row=(rows.getD row.toNat aM,0)):=by unfold Hid wO;rw[hr];rfl
  simp only[mM,aG,decide_eq_true_eq]at hr;obtain⟨i,rfl⟩: ∃i:Nat,row=i:=⟨row.toNat,by omega⟩;have xr:i<rows.length:=by omega
  have hii:(i:Int)<rows.length:=by omega
  rw[fw]at HR;have HT:=af (HS.out.t _ (bg xr));obtain⟨A,c,rfl,vA,uL,hA⟩:=cM V6.out.o;obtain⟨g,rfl⟩:=hA (by omega);have GI: ∀r:cQ,(hC r.h).length=2:=λ_=>rfl
  have q1:row? w1 g (i *2) 2=ae (ints (hL (rows.getD i aM).h)):=by rw[mD V6.out.o xr,mv GI rows i xr];simp[bB,aq xr];rfl
  have c1:w1.cell? ⟨p,1,ai⟩=ae (.slice (ae ⟨g,0,ai⟩) rows.length c):=V6.out.b.cell 1;have c0:w1.cell? ⟨p,0,ai⟩=ae (.int .i64 K):=V6.out.b.cell 0;have sN:rows.getD i aM=rows[i]:=by simp[bB,aq xr]
  rw[<-sN]at HT;have HRW:Hid (∀k,(cW rows k).getD i 0=(rows.getD i aM).b.v.getD k 0):=λk=>by unfold cW;simp only[bB,dN,aq xr,fS,bT]
  generalize rows.getD i aM=r at *;obtain⟨⟨r1,r2⟩,b⟩:=r;change row? w1 g (i *2) 2=ae #[.int .i64 r1,.int .i64 r2]at q1;clear hr hA GI sN;have IZ:=rX _ _ c1;have hgl:=aeN q1;generalize hX:w1.alloc (.cells (ints aM.list) 50)=w2;have gF:Below w1.heap.size w1 w2:=by rw[<-hX];exact(Below.refl _ _).alloc (ax _) _
  have q1':row? w2 g (i *2) 2=ae #[.int .i64 r1,.int .i64 r2]:=(kB gF hgl _ _).trans q1;have c1':w2.cell? ⟨p,1,ai⟩=ae (.slice (ae ⟨g,0,ai⟩) rows.length c):=(gF.cell (p:=⟨p,1,ai⟩) IZ).trans c1;have c0':w2.cell? ⟨p,0,ai⟩=ae (.int .i64 K):=(gF.cell (p:=⟨p,0,ai⟩) IZ).trans c0;have hX':w1.alloc (.cells #[.int .i64 0,.int .i64 0,.int .i64 0,.int .i64 0,.int .i64 0,.int .i64 0,.int .i64 0,.int .i64 0,.int .i64 0,.int .i64 0,.int .i64 0] 50)=w2:=hX;have hBn:dt w2 w1.heap.size 50 (ints aM.list):=by rw[<-hX];exact dt.new _ _ _
  have f2:fits w2 w1.heap.size 0 11=aw:=hBn.fits 0 11 (by rw[bD];decide);have RP:=af (hBn.eU [r1,r2,K,0,0,0,0,0,0,0,0] rfl);have pW:=af gF;clear hX hBn gF
  go_wp2_with fail
  go_region
  have HO2:Hid (Below w.heap.size w (putRow w2 w1.heap.size 0 [r1,r2,K,0,0,0,0,0,0,0,0]).drew):=(Pf.out.trans ((jL pW.out (ax _) 0 _).mono Pf.out.size)).drew;have HRs:Hid (dt (putRow w2 w1.heap.size 0 [r1,r2,K,0,0,0,0,0,0,0,0]).drew w.heap.size 50 (ints aM.list)):=((qk.out.after pW.out).zW 0 _ (by have:=qk.out.lt;omega)).drew;have adq:Hid (dt (putRow w2 w1.heap.size 0 [r1,r2,K,0,0,0,0,0,0,0,0]).drew w1.heap.size 50 (ints [r1,r2,K,0,0,0,0,0,0,0,0])):=RP.out.drew;have sO:Hid (w.heap.size<w1.heap.size):=qk.out.lt;generalize (putRow w2 w1.heap.size 0 [r1,r2,K,0,0,0,0,0,0,0,0]).drew=w3 at *;clear RP pW hX' c0' c1' q1' f2 V6 c0 c1 q1;generalize w1.heap.size=rb at *;have HS3:=af (HS.out.after HO2.out);have c1:w3.cell? ⟨p,2,ai⟩=ae (.map (ae mb)):=HS3.out.b.cell 2
  go_wp2_with (at_range;go_loud (refine gX rfl _ 213 216 rfl Tryz.underlying213 mb _ rfl HS3.out.m ?_))
  intro w4 hr4 LO hs4;have HRA:=af hr4;have afy:=af (HRs.out.after LO);have afo:=af (adq.out.after LO);have HO4:Hid (Below w.heap.size w w4):=HO2.out.trans (LO.mono HO2.out.size);have Wu:Hid (rb<w3.heap.size):=adq.out.lt;clear hr4 LO hs4 HS3 c1 HRs adq HO2;generalize w3.heap.size=ri at *
  go_wp2_with fail
  go_loopw [7] (λ_ w'=> ∃left vs,dn (aF .i64) wJ ot w' mb ri ((jO K).map λk:Nat=>((k:Int),cb k)) left/\dt w' w.heap.size 50 (ints aM.list)/\dt w' rb 50 (ints ([r1,r2,K]++vs))/\vs.length=8/\(∀k,k<8->vs.getD k 0=if(k:Int)∈aW left\/k∉jO K then 0 else b.v.getD k 0)/\Below w.heap.size w w') (λ_ w'=>w'.rangeLeft mb ri)
  case atStart=>
   refine⟨_,[0,0,0,0,0,0,0,0],HRA.out,afy.out,afo.out,rfl,λk hk=> ?_,HO4.out⟩;have h0:([0,0,0,0,0,0,0,0]:List Int).getD k 0=0:=by
    match k,hk with
    |0,_|1,_|2,_|3,_|4,_|5,_|6,_|7,_=>rfl
   rw[h0];by_cases hkt:k∈jO K
   ·rw[if_pos (bm (by simp only[aW,List.map_map];exact aH.2 ⟨k,hkt,rfl⟩))]
   ·rw[if_pos (bO hkt)]
  case round=>
   clear HRA afy afo HO4;obtain⟨left,vs,h1,h2,h3,h4,h5,h6⟩:=hrel;have H1:=af h1;have H2:=af h2;have H3:=af h3;have H5:=af h5;have H6:=af h6;have Ww:=af h4;clear h1 h2 h3 h4 h5 h6
   go_wp2_with (at_next;go_loud (refine j1 wz rfl _ rfl mb ri _ left rfl H1.out ?_ ?_))
   ·intro Na;subst Na;have hvs:vs=b.v:=by
     apply mf;intro j;have hv8:=Ww.out;have Kv:b.v.length=8:=HT.out.2.1;by_cases hj:j<8
     ·have h1:=H5.out j hj;have h2:j∉jO K->b.v.getD j 0=0:=HT.out.2.2 j hj;simp only[bB,aq (show j<vs.length by omega),aq (show j<b.v.length by omega),bT]at h1 h2|-;by_cases hjt:j∈jO K
      ·rw[if_neg (by rintro(hm|hm);simp[aW]at hm;exact hm hjt)]at h1;rw[h1]
      ·rw[if_pos (bO hjt)]at h1;rw[h1,h2 hjt]
     ·rw[jz (by omega),jz (by omega)]
    subst hvs;have hk:b.k=K:=HT.out.1;have ac1:[r1,r2,K]++b.v=cQ.list ⟨(r1,r2),b⟩:=by rw[<-hk];rfl
    have HBB:=H3.out;rw[ac1]at HBB;have hlen:(cQ.list ⟨(r1,r2),b⟩).length=11:=by have:=Ww.out;simp[cQ.list,aQ.list,this]
    have q1:row? wr rb 0 11=ae (ints (cQ.list ⟨(r1,r2),b⟩)):=HBB.bt hlen;have f1:fits wr w.heap.size 0 11=aw:=H2.out.fits 0 11 (by rw[bD];decide);have um:=af hlen;have HRS:Hid (dt (putRow wr w.heap.size 0 (cQ.list ⟨(r1,r2),b⟩)) w.heap.size 50 (ints (cQ.list ⟨(r1,r2),b⟩))):=H2.out.eU _ hlen;clear hk ac1 HBB;generalize SF:cQ.list ⟨(r1,r2),b⟩=xs at *;have HXS:=af SF;clear SF
    go_wp2_with fail
    refine cN rfl w.heap.size 50 (ints xs) (.int .i64 0) _ rfl rfl HRS.out Tryz.underlying50 rfl (by rw[bD,um.out];exact tY) rfl ?_;rw[HR.out];exact⟨by rw[<-HXS.out],jL H6.out (ax _) 0 _⟩
   ·intro x v w7 hx AY Au Ni o9 Uj;obtain⟨k,hk,hke⟩:=aH.1 (H1.out.sub _ hx);injection hke with e1 e2
    subst e1;subst e2;have tD:k<8:=by have:=(cm.1 hk).1;simpa using this
    have vI:(k:Int)<8:=by omega
    have YR:w.heap.size<=ri:=by have:=sO.out;have:=Wu.out;omega
    have hb7:Below w.heap.size w w7:=H6.out.trans (Au.below (B:=w.heap.size) H6.out.size λq _ e=>by rw[e];exact YR);have hS7:=HS.out.after hb7;obtain⟨F1,hC⟩:=hS7.c k hk;obtain⟨A3,c3,f1,f2,f3,f4,f5,f6,f7,f8⟩:=hC.slice;have sM:(cW rows k).length=rows.length:=by unfold cW;rw[aL]
    obtain⟨A4,c4,hA4,_,_,hA5⟩:=cM f5;injection hA4 with e3 e4 e5
    obtain⟨g3,IX⟩:=hA5 (by omega);have e6:A3=ae ⟨g3,0,ai⟩:=e3.trans IX;subst e6;have hfi: ∀x:Int,(A8 x).length=1:=λ_=>rfl
    have d1:w7.cell? ⟨g3,i,ai⟩=ae (.int .i64 (b.v.getD k 0)):=by rw[World.ownsRow.cellAt f5 i (by rw[sM];omega),<-Nat.mul_one i,<-lC (i *1),rm hfi (cW rows k) i 0 (by rw[sM];omega) (by omega),<-HRW.out k];simp[bB,aq (show i<(cW rows k).length by rw[sM];omega),A8]
    rw[sM]at f1;have hB2:=H2.out;have IQ:=Au.blk H3.out (λe=>by have:=Wu.out;omega);have afS:=Au.blk H2.out (λe=>by have:=sO.out;have:=Wu.out;omega);have c2:w7.frozen? ⟨rb,1+1+1+k,ai⟩=ay:=IQ.frozen _;have hvk:vs.length=8:=Ww.out;have c3:w7.cell? ⟨rb,1+1+1+k,ai⟩=ae (.int .i64 (vs.getD k 0)):=by rw[IQ.cell,lg,show 1+1+1+k=k+3 from by omega];simp[bB,aq (show k<vs.length by omega)]
    have HR7:=af AY;have V3:=af IQ;have pW:=af afS;have HB7:=af hb7;have HX:=af hx;have HLT:=af o9;have HK2:=af hk;clear AY Au Ni o9 hx hk hC f2 f3 f4 f5 f6 f7 f8 hA5 hB2 IQ afS hS7 hb7 sM hvk e4 e3 e5 IX;obtain⟨y,hy⟩: ∃y,b.v.getD k 0=y:=⟨_,rfl⟩;rw[hy]at d1;have HY:=af hy;clear hy;generalize vs.getD k 0=y0 at c3
    go_wp2_with fail
    have hmb:=HS.out.m.lt;have hO8:db (· =rb) w7 (w7.setCell ⟨rb,3+k,ai⟩ (.int .i64 y)):=(db.refl (F:=(· =rb))).setCell (g:=rb) (bm rfl) _ _;have HR8:=af (HR7.out.only hO8 (by have:=sO.out;omega) (by have:=Wu.out;omega))
    go_roundw
    case rel=>
     refine⟨dZ left (k:Int),vs.set k y,HR8.out,pW.out.Hb (by have:=sO.out;omega) _ _,?_,by rw[de];exact Ww.out,λj hj=> ?_,HB7.out.setCell (p:=⟨rb,3+k,ai⟩) (by have:=sO.out;simp;omega) _⟩
     ·have:=V3.out.set (3+k) (.int .i64 y);rw[ints_set]at this;have e:([r1,r2,K]++vs).set (3+k) y=[r1,r2,K]++vs.set k y:=by rw[oA _ _ (by simp)];simp
      rw[e]at this;exact this
     ·rw[wj];by_cases yy:k=j
      ·subst yy;rw[if_pos ⟨rfl,by rw[Ww.out];omega⟩,if_neg]
       ·exact HY.out.symm
       ·rintro(hm|hm)
        ·obtain⟨q,hq,e⟩:=aH.1 hm;exact(fP.1 hq).2 e
        ·exact hm HK2.out
      ·rw[if_neg (λh=>yy h.1),H5.out j hj];have:(j:Int)∈aW (dZ left (k:Int))↔(j:Int)∈aW left:=by
        constructor
        ·intro hm;obtain⟨q,hq,e⟩:=aH.1 hm;exact aH.2 ⟨q,(fP.1 hq).1,e⟩
        ·intro hm;obtain⟨q,hq,e⟩:=aH.1 hm;exact aH.2 ⟨q,fP.2 ⟨hq,by simp only[e];omega⟩,e⟩
       simp only[this]
    case measure=>rw[HR8.out.count,H1.out.count];exact HLT.out
def XZ (n:Nat)(xs:List Int):List Int:=(xs++bW n 0).take n
def X0 (n:Nat)(xs:List Int):(XZ n xs).length=n:=by unfold XZ;rw[cK,aZ,List.length_replicate];omega
def Sf {n:Nat}{xs:List Int}(h:xs.length=n):XZ n xs=xs:=by unfold XZ;rw[List.take_append_of_le_length (by omega),<-h,dm]
def Bs (r:cQ):List Int:=XZ 11 r.list
def C7 (r:cQ):List ao:=(Bs r).map (aF .i64)
def ZO (r:cQ):(Bs r).length=11:=X0 _ _
def Fi (r:cQ):(C7 r).length=11:=by unfold C7;rw[aL,ZO]
def Le {r:cQ}(h:r.b.v.length=8):Bs r=r.list:=Sf (by simp[cQ.list,aQ.list,h])
abbrev eo (v:ao)(rows:List cQ):bU:=eD 50 11 v rows.length (rows.flatMap C7)
def Vf:(Tryz.prog.info? 50).map (λi=>(i.zero,i.size,i.bytes))=ae (ae (.agg (ints aM.list)),11,88):=by kernel_rfl
def In.aeO {F:Nat->Prop}{w0 w:ah}{l:List bU}{v:ao}{rows:List cQ}(h:In F w0 (eo v rows::l) w): ∃A c,v=.slice A rows.length c/\rows.length<=c/\c<=maxLen/\ ∀k,k<rows.length-> ∃g,A=ae ⟨g,0,ai⟩/\row? w g (k *11) 11=ae (ints (Bs (rows.getD k aM))):=by
 obtain⟨F1,hA⟩:=h.head;have ho:w.ownsRow 0 50 11 v rows.length (rows.flatMap C7):=hA.1;obtain⟨A,c,rfl,vA,uL,hg⟩:=cM ho;refine⟨A,c,rfl,vA,uL,λk hk=> ?_⟩;obtain⟨g,rfl⟩:=hg (by omega);refine⟨g,rfl,?_⟩;rw[mD ho hk,mv Fi rows k hk];simp[bB,aq hk]
 rfl
def UP {w:ah}{B:Nat}{e:aA}{size n c:Nat}{A:Option Addr}{xs:List ao}(h:w.ownsRow B e size (.slice A n c) n xs):Reads w w.heap.size size A n xs/\((A=ai/\n=0/\c=0)\/ ∃b o,A=ae ⟨b,o,ai⟩):=by
 refine⟨Reads.Zk h,?_⟩;rcases h.2 with⟨e1,h0⟩|⟨g,cap,cur,e1,_⟩
 ·injection e1 with e1 e2 e3;exact bm ⟨e1,h0,e3⟩
 ·injection e1 with e1 e2 e3;exact bO ⟨g,0,e1⟩
def aeB (hs:List (Int×Int)): ∀u∈hs.flatMap hC,u.oneCell'=aw:=by intro u hu;obtain⟨h,_,hu⟩:=List.mem_flatMap.1 hu;simp[hC]at hu;rcases hu with rfl|rfl<;>rfl
def Lr {p:Nat}{K:Int}{rows:List cQ}{hv:ao}{mb:Nat}{cb:Nat->Nat}(w:ah)(h:uw w p K rows hv mb cb)(hl:rows.length<=100000):Calls aj 96 #[.pointer (ae ⟨p,0,ai⟩)] w λe w'=> ∃v,e=.returned v/\w'.ownsRow w.heap.size 43 2 v rows.length (rows.flatMap λr=>hC r.h)/\Below w.heap.size w w':=by
 obtain⟨A,c,rfl,_,_,_⟩:=cM h.o;have c1:w.cell? ⟨p,1,ai⟩=ae (.slice A rows.length c):=h.b.cell 1;have HO:=af (UP h.o);have H1:Hid (∀u∈rows.flatMap (λr=>hC r.h),u.oneCell'=aw):=by intro u hu;obtain⟨r,hr,hu⟩:=List.mem_flatMap.1 hu;exact aeB [r.h] u (by simpa using hu)
 clear h
 go_enter Tryz.func96,Tryz.ntmps96
 go_wp2_with fail
 refine(CS A rows.length c _ w w.heap.size HO.out.1 H1.out HO.out.2 (by omega)).mono ?_;rintro e w1 ⟨v,rfl,ho,hb⟩;have HR:=af ho;have HB:=af hb;clear ho hb
 go_wp2_with fail
 go_ret;exact⟨v,rfl,HR.out,HB.out⟩
def O7 (w:ah):(zeroValue 216).run aj w=.ok (.pointer ai) w:=by kernel_rfl
def ofR (K kind:Int):Option Nat×Int:=if 0<=kind/\kind<8 then if kind.toNat∈jO K then(ae kind.toNat,0)else(ai,5)else(ai,1)
def XE (cb:Nat->Nat):Option Nat->ao
 |some k=>wJ (cb k)
 |none=>.pointer ai
def Zj (K kind:Int):(ofR K kind=(ai,1)/\ ¬(0<=kind/\kind<8))\/ ∃k:Nat,kind=k/\k<8/\((k∉jO K/\ofR K kind=(ai,5))\/(k∈jO K/\ofR K kind=(ae k,0))):=by
 unfold ofR;by_cases h:0<=kind/\kind<8
 ·right;refine⟨kind.toNat,by omega,by omega,?_⟩;by_cases hk:kind.toNat∈jO K
  ·right;exact⟨hk,by rw[if_pos h,if_pos hk]⟩
  ·left;exact⟨hk,by rw[if_pos h,if_neg hk]⟩
 ·left;exact⟨by rw[if_neg h],h⟩
def R6 {K:Int}{cb:Nat->Nat}(k:Nat):dY ((jO K).map λk:Nat=>((k:Int),cb k)) (k:Int)=if k∈jO K then ae (cb k)else ai:=by
 have hn:(aW ((jO K).map λk:Nat=>((k:Int),cb k))).Nodup:=by unfold aW;rw[List.map_map];exact List.Pairwise.map _ (λa b (h:a≠b) e=>h (by have e:(a:Int)=b:=e;omega)) (oM K)
 by_cases hk:k∈jO K
 ·rw[if_pos hk];exact nI hn (aH.2 ⟨k,hk,rfl⟩)
 ·rw[if_neg hk,qG];intro hm;obtain⟨x,hx,e⟩:=aH.1 hm;obtain⟨y,hy,rfl⟩:=aH.1 hx;exact hk (by have:y=k:=by simp only at e;omega
                                                                                           rw[<-this];exact hy)
def acD {p:Nat}{K:Int}{rows:List cQ}{hv:ao}{mb:Nat}{cb:Nat->Nat}(kind:Int)(w:ah)(h:uw w p K rows hv mb cb):Calls aj 180 #[.pointer (ae ⟨p,0,ai⟩),.int .i64 kind] w λe w'=>e=.returned (.tuple #[XE cb (ofR K kind).1,.int .i64 (ofR K kind).2])/\w=w':=by
 have c1:w.cell? ⟨p,2,ai⟩=ae (.map (ae mb)):=h.b.cell 2;have HM:=af h.m;clear h;rcases Zj K kind with⟨hR,hn⟩|⟨k,rfl,hk,⟨hm,hR⟩|⟨hm,hR⟩⟩
 ·have HR:=af hR;clear hR;by_cases h0:kind<0
  ·have hb:decide (kind<0)=aw:=by simpa using h0
   clear hn
   go_enter Tryz.func180,Tryz.ntmps180
   go_wp2_with fail
   go_ret2
   exact⟨by rw[HR.out];rfl,rfl⟩
  ·have hb:decide (kind<0)=ay:=by simpa using h0
   have h8:8<=kind:=by omega
   have gF:decide (8<=kind)=aw:=by simpa using h8
   clear hn
   go_enter Tryz.func180,Tryz.ntmps180
   go_wp2_with fail
   go_ret2
   exact⟨by rw[HR.out];rfl,rfl⟩
 ·have HR:=af hR;have HG:Hid (dY ((jO K).map λk:Nat=>((k:Int),cb k)) (k:Int)=ai):=by unfold Hid;rw[R6,if_neg hm]
  have vI:(k:Int)<8:=by omega
  have hb:decide ((k:Int)<0)=ay:=by simp
  have gF:decide (8<=(k:Int))=ay:=by simp;omega
  clear hR hm
  go_enter Tryz.func180,Tryz.ntmps180
  go_wp2_with (at_lookup;go_loud (refine CL wz rfl _ _ 213 216 aw rfl Tryz.underlying213 (.pointer ai) (O7 _) mb _ rfl HM.out (k:Int) rfl (lk (by omega)) (.tuple #[.pointer ai,.bool ay]) (by rw[HG.out];rfl) ?_))
  go_ret2
  exact⟨by rw[HR.out];rfl,rfl⟩
 ·have HR:=af hR;have HG:Hid (dY ((jO K).map λk:Nat=>((k:Int),cb k)) (k:Int)=ae (cb k)):=by unfold Hid;rw[R6,if_pos hm]
  have vI:(k:Int)<8:=by omega
  have hb:decide ((k:Int)<0)=ay:=by simp
  have gF:decide (8<=(k:Int))=ay:=by simp;omega
  clear hR hm
  go_enter Tryz.func180,Tryz.ntmps180
  go_wp2_with (at_lookup;go_loud (refine CL wz rfl _ _ 213 216 aw rfl Tryz.underlying213 (.pointer ai) (O7 _) mb _ rfl HM.out (k:Int) rfl (lk (by omega)) (.tuple #[.pointer (ae ⟨cb k,0,ai⟩),.bool aw]) (by rw[HG.out];rfl) ?_))
  go_ret2
  exact⟨by rw[HR.out];rfl,rfl⟩
def cutAt {α:Type}(d:α)(l:List α)(i:Nat):List α:=(l.set i (l.getD (l.length-1) d)).take (l.length-1)
def nc (rows:List cQ)(row:Int):List cQ×cQ×Int:=if mM rows.length row then(cutAt aM rows row.toNat,rows.getD row.toNat aM,0)else(rows,aM,5)
def xi {α:Type}(d:α)(l:List α)(i:Nat):(cutAt d l i).length=l.length-1:=by unfold cutAt;rw[cK,de];omega
def It {α β:Type}(d:α)(d':β)(f:α->β)(l:List α)(i:Nat)(hi:i<l.length):(cutAt d l i).map f=cutAt d' (l.map f) i:=by unfold cutAt;rw[List.map_take,List.map_set,aL];congr 2;simp only[bB,dN,aq (show l.length-1<l.length by omega),fS,bT]
def TW {α:Type}{d:α}{l:List α}{i:Nat}{x:α}(hi:i<l.length)(h:x∈cutAt d l i):x∈l:=by
 unfold cutAt at h;rcases List.mem_or_eq_of_mem_set (pN h)with h|h
 ·exact h
 ·rw[h];simp only[bB,aq (show l.length-1<l.length by omega),bT];exact bg _
def Zs {α:Type}(M P R B S:α)(L:List α):(M::P::R::B::S::L).Perm (B::S::([P,R,M]++L)):=by
 have h1:(M::P::R::B::S::L).Perm ((M::P::R::[])++([B,S]++L)):=qK _;have h2:((M::P::R::[])++([B,S]++L)).Perm ([B,S]++((M::P::R::[])++L)):=by rw[<-cx,<-cx];exact List.Perm.append_right L List.perm_append_comm
 have h3:(M::P::R::([]:List α)).Perm [P,R,M]:=(cJ _ _ _).trans ((cJ _ _ _).cons _);exact h2.trans (dy [B,S] (List.Perm.append_right L h3))
def OZ (p:Nat)(K:Int)(rows:List cQ)(row:Int)(F:Nat->Prop)(w:ah)(h:(oo p K rows).at_ w F)(hl:rows.length<=10000):Calls aj 181 #[.pointer (ae ⟨p,0,ai⟩),.int .i64 row] w λe w'=>e=.returned (.tuple #[.agg (ints (nc rows row).2.1.list),.int .i64 (nc rows row).2.2])/\(oo p K (nc rows row).1).at_ w' (GL F w w')/\db F w w':=by
 have hT:=h.1;have kZ:=af (In.one (A:=oo p K rows) h);clear h
 go_enter Tryz.func181,Tryz.ntmps181
 go_upto_region 1 with(fail)
 refine bZ (In F w [br w.heap.size 50 (ints aM.list),oo p K rows]) (kZ.out.alloc 50 (ints aM.list)) ?_;generalize w.heap.size=rs;intro w1 km;have qB:=af km;obtain⟨F1,hA⟩:=km.swap.head;obtain⟨hv,mb,cb,hS⟩:=oo.see hA;clear kZ km hA
 go_wp2_with fail
 refine(O0 row w1 hS (by omega)).mono ?_;rintro e w2 ⟨rfl,gF⟩;have gu:=af (qB.out.below gF);clear qB gF hS;have hlen:(wO rows row).1.list.length=11:=by have:=ZP hT row;simp[cQ.list,aQ.list,this]
 cases hr:mM rows.length row
 ·have HR:Hid (wO rows row=(aM,5)):=by unfold Hid wO;rw[hr];rfl
  have JW:Hid (nc rows row=(rows,aM,5)):=by unfold Hid nc;rw[hr];rfl
  rw[HR.out];clear hr hlen
  go_upto_region 2 with(fail)
  refine bZ (In F w [br w2.heap.size 50 (ints aM.list),br rs 50 (ints aM.list),oo p K rows]) (gu.out.struct 50 aM.list aM.list rfl) ?_;generalize w2.heap.size=rb;intro w3 fj;have q1:row? w3 rb 0 11=ae (ints aM.list):=fj.blk.bt rfl;have f1:fits w3 rs 0 11=aw:=fj.swap.blk.fits 0 11 (by rw[bD];decide);have iR:=af (fj.swap.eU aM.list rfl);clear fj gu
  go_wp2_with fail
  refine cN rfl rs 50 (ints aM.list) (.int .i64 5) _ rfl rfl iR.out.blk Tryz.underlying50 rfl (by rw[bD];exact tY) rfl ?_;rw[JW.out];obtain⟨g1,g2⟩:=iR.out.drop.drop.done;exact⟨rfl,g1,g2⟩
 ·have HR:Hid (wO rows row=(rows.getD row.toNat aM,0)):=by unfold Hid wO;rw[hr];rfl
  have JW:Hid (nc rows row=(cutAt aM rows row.toNat,rows.getD row.toNat aM,0)):=by unfold Hid nc;rw[hr];rfl
  simp only[mM,aG,decide_eq_true_eq]at hr;obtain⟨i,rfl⟩: ∃i:Nat,row=i:=⟨row.toNat,by omega⟩;have xr:i<rows.length:=by omega
  rw[HR.out]at hlen|-;rw[fw]at JW hlen|-;clear hr HR;generalize SF:(rows.getD i aM).list=xs at *;have HXS:=af SF;clear SF
  go_upto_region 2 with(fail)
  refine bZ (In F w [oo p K rows,br w2.heap.size 50 (ints xs),br rs 50 (ints aM.list)]) ((gu.out.struct 50 aM.list xs hlen).third) ?_;generalize w2.heap.size=rb;clear gu;intro w3 fj;obtain⟨_,hK,hv,mb,cb,gq⟩:=fj.KT;have iR:Hid (In F w ([br p 215 #[.int .i64 K,hv,.map (ae mb)],eD 43 2 hv rows.length (rows.flatMap λr=>hC r.h),PtrMap mb ((jO K).map λk:Nat=>((k:Int),cb k)),br rb 50 (ints xs),br rs 50 (ints aM.list)]++(jO K).map λk=>kY (cb k) (cW rows k)) w3):=gq.perm (dy [_,_,_] List.perm_append_comm)
  clear fj gq;obtain⟨hB4,hO4,hN4⟩:=In.sliceAt iR.out;have HK:=af hK;have hfm:(rows.map (·.h)).flatMap hC=rows.flatMap λr=>hC r.h:=by rw[List.flatMap_map]
  have Qa:(rows.map (·.h)).length=rows.length:=aL ..;have HO4:w3.ownsRow 0 43 2 hv (rows.map (·.h)).length ((rows.map (·.h)).flatMap hC):=by rw[hfm,Qa];exact hO4
  have HO5:=af HO4;clear hK hO4 HO4 hfm
  go_wp2_with fail
  refine(Og p 1 215 #[.int .i64 K,hv,.map (ae mb)] hv (rows.map (·.h)) i w3 hB4 rfl HO5.out hN4 (by rw[Qa];omega) (by rw[Qa];exact xr)).mono ?_;rintro e w5 ⟨rfl,hE⟩;have hE':oB w3 w5 p 215 #[.int .i64 K,hv,.map (ae mb)] 1 hv 43 2 (rows.length-1) ((cutAt aM rows i).flatMap λr=>hC r.h):=by
   have e1:(cutAt aM rows i).flatMap (λr=>hC r.h)=(cutAt (0,0) (rows.map (·.h)) i).flatMap hC:=by rw[<-It aM (0,0) (·.h) rows i xr,List.flatMap_map]
   rw[e1];unfold cutAt;rw[Qa]at hE|-;exact hE
  obtain⟨Cj,j6⟩:=In.added iR.out hE';have aaH:Hid (∀k,cutAt 0 (cW rows k) i=cW (cutAt aM rows i) k):=λk=>(It aM 0 (λr:cQ=>r.b.v.getD k 0) rows i xr).symm
  have HTR:Hid (BX K (cutAt aM rows i)):=λr hr=>hT r (TW xr hr)
  have sM:(cutAt aM rows i).length=rows.length-1:=xi _ _ _;have HCL:=af sM;generalize aeh:cutAt aM rows i=lK at *;have kO:Hid (In F w ([PtrMap mb ((jO K).map λk:Nat=>((k:Int),cb k)),br p 215 #[.int .i64 K,Cj,.map (ae mb)],eD 43 2 Cj (rows.length-1) (lK.flatMap λr=>hC r.h),br rb 50 (ints xs),br rs 50 (ints aM.list)]++(jO K).map λk=>kY (cb k) (cW rows k)) w5):=In.third j6;have c1:w5.cell? ⟨p,2,ai⟩=ae (.map (ae mb)):=(In.swap kO.out).blk.cell 2;clear hE hE' j6 iR hB4 hN4 HO5 sM aeh Qa
  go_wp2_with (at_range;go_loud (refine gX rfl _ 213 216 rfl Tryz.underlying213 mb _ rfl (In.fU kO.out) ?_))
  intro w6 hr6 Ku hs6;have kh:=af (In.Br kO.out hr6 Ku hs6);generalize w5.heap.size=ri at *;clear hr6 Ku hs6 c1
  go_wp2_with fail
  go_loopw [9] (λ_ w'=> ∃left,In F w ([gO (aF .i64) wJ ot mb ri ((jO K).map λk:Nat=>((k:Int),cb k)) left,br p 215 #[.int .i64 K,Cj,.map (ae mb)],eD 43 2 Cj (rows.length-1) (lK.flatMap λr=>hC r.h),br rb 50 (ints xs),br rs 50 (ints aM.list)]++(jO K).map λk:Nat=>kY (cb k) (if(k:Int)∈aW left then cW rows k else cW lK k)) w') (λ_ w'=>w'.rangeLeft mb ri)
  case atStart=>
   refine⟨(jO K).map λk:Nat=>((k:Int),cb k),?_⟩;have:(jO K).map (λk:Nat=>kY (cb k) (if(k:Int)∈aW ((jO K).map λk:Nat=>((k:Int),cb k))then cW rows k else cW lK k))=(jO K).map λk:Nat=>kY (cb k) (cW rows k):=by apply dx;intro k hk;rw[if_pos];simp only[aW,List.map_map];exact aH.2 ⟨k,hk,rfl⟩
   rw[this];exact kh.out
  case round=>
   clear kh kO;obtain⟨left,hI⟩:=hrel;have HI:=af hI;clear hI
   go_wp2_with (at_next;go_loud (refine j1 wz rfl _ rfl mb ri _ left rfl (In.rangeAt HI.out) ?_ ?_))
   ·intro Na;subst Na;have oQ:Hid (In F w (br rb 50 (ints xs)::br rs 50 (ints aM.list)::(l5 p K Cj mb cb lK (cW lK))) wr):=by
     have h1:=In.ud HI.out;have e1:(jO K).map (λk:Nat=>kY (cb k) (if(k:Int)∈aW ([]:List (Int×Nat))then cW rows k else cW lK k))=(jO K).map (λk:Nat=>kY (cb k) (cW lK k)):=by apply dx;intro k _;rw[if_neg (by simp[aW])]
     have h2:In F w (PtrMap mb ((jO K).map λk:Nat=>((k:Int),cb k))::br p 215 #[.int .i64 K,Cj,.map (ae mb)]::eD 43 2 Cj (rows.length-1) (lK.flatMap λr=>hC r.h)::br rb 50 (ints xs)::br rs 50 (ints aM.list)::(jO K).map (λk:Nat=>kY (cb k) (cW lK k))) wr:=by rw[<-e1];exact h1
     unfold l5;rw[HCL.out];exact h2.perm (Zs _ _ _ _ _ _)
    have q1:row? wr rb 0 11=ae (ints xs):=oQ.out.blk.bt hlen;have f1:fits wr rs 0 11=aw:=oQ.out.swap.blk.fits 0 11 (by rw[bD];decide);have pw:=af (oQ.out.swap.eU xs hlen);have um:=af hlen
    go_wp2_with fail
    refine cN rfl rs 50 (ints xs) (.int .i64 0) _ rfl rfl pw.out.blk Tryz.underlying50 rfl (by rw[bD,um.out];exact tY) rfl ?_;rw[JW.out];have hIT:=In.Tf (l:=[]) HTR.out HK.out (by rw[ew];exact pw.out.drop.drop);obtain⟨g1,g2⟩:=hIT.done;exact⟨by rw[<-HXS.out],g1,g2⟩
   ·intro x v w7 hx AY Au Ni o9 Uj;obtain⟨k,hk,hke⟩:=aH.1 ((In.rangeAt HI.out).sub _ hx);injection hke with e1 e2
    subst e1;subst e2;have kh:Hid (In F w ([gO (aF .i64) wJ ot mb ri ((jO K).map λk:Nat=>((k:Int),cb k)) (dZ left (k:Int)),br p 215 #[.int .i64 K,Cj,.map (ae mb)],eD 43 2 Cj (rows.length-1) (lK.flatMap λr=>hC r.h),br rb 50 (ints xs),br rs 50 (ints aM.list)]++(jO K).map λk:Nat=>kY (cb k) (if(k:Int)∈aW left then cW rows k else cW lK k)) w7):=In.nf HI.out AY Au;have HK2:=af hk;have HX:=af hx;have HLT:=af o9;clear AY Au Ni o9 hk hx
    go_wp2_with fail
    obtain⟨F1,hA,_,jQ⟩:=In.KS kh.out (oM K) HK2.out;have jB:(k:Int)∈aW left:=aH.2 ⟨_,HX.out,rfl⟩;rw[if_pos jB]at hA;obtain⟨v,hB,hO,hN,CW⟩:=kM.parts hA;have HB:=af jQ;have AA:=af CW;have hlc:(cW rows k).length=rows.length:=by unfold cW;rw[aL]
    refine(Oh (cb k) 0 218 #[v] v (cW rows k) i w7 hB rfl hO hN (by omega) (by omega)).mono ?_;rintro e w8 ⟨rfl,hE⟩;have hE2:oB w7 w8 (cb k) 218 #[v] 0 v 3 1 (cW lK k).length ((cW lK k).flatMap A8):=by rw[<-aaH.out k,xi];exact hE
    obtain⟨hC2,Yk⟩:=AA.out _ _ hE2;have oQ:=af (HB.out _ (kY (cb k) (cW lK k)) hC2 Yk);clear hA hB hO hN CW jQ HB AA hlc hE hE2 hC2 Yk kh jB
    go_wp2_with fail
    go_roundw
    case rel=>
     refine⟨dZ left (k:Int),?_⟩;have:(jO K).map (λj:Nat=>kY (cb j) (if(j:Int)∈aW (dZ left (k:Int))then cW rows j else cW lK j))=
      (jO K).map (λj:Nat=>if j=k then kY (cb k) (cW lK k)else kY (cb j) (if(j:Int)∈aW left then cW rows j else cW lK j)):=by
      apply dx;intro j hj;by_cases yy:j=k
      ·subst yy;rw[if_neg,if_pos rfl];intro hm;obtain⟨q,hq,e⟩:=aH.1 hm;exact(fP.1 hq).2 e
      ·rw[if_neg yy];have:(j:Int)∈aW (dZ left (k:Int))↔(j:Int)∈aW left:=by
        constructor
        ·intro hm;obtain⟨q,hq,e⟩:=aH.1 hm;exact aH.2 ⟨q,(fP.1 hq).1,e⟩
        ·intro hm;obtain⟨q,hq,e⟩:=aH.1 hm;exact aH.2 ⟨q,fP.2 ⟨hq,by simp only[e];omega⟩,e⟩
       by_cases hm:(j:Int)∈aW left
       ·rw[if_pos hm,if_pos (this.2 hm)]
       ·rw[if_neg hm,if_neg (λh=>hm (this.1 h))]
     rw[this];exact oQ.out
    case measure=>rw[(In.rangeAt oQ.out).count,(In.rangeAt HI.out).count];exact HLT.out
def bV (b:List Int):ao:=.agg (ints b)
@[go_sem] theorem aiA (b:List Int):bV b=.agg (ints b):=rfl
abbrev jV (b:Nat)(m:List eE):bU:=uo lf bV (λ_=>True) b m
def FN (w:ah):(zeroValue 48).run aj w=.ok (bV kQ) w:=by kernel_rfl
def AP (w:ah):Calls aj 82 #[] w λe w'=>e=.returned (.agg (ints mJ))/\Below w.heap.size w w':=by
 go_enter Tryz.func82,Tryz.ntmps82
 go_wp2_with fail
 refine mj rfl w.heap.size 48 (ints mJ) _ rfl (gD w 48 kQ mJ rfl) Tryz.underlying48 rfl (by rw[bD];exact lR) rfl ?_;exact⟨rfl,dV w 48 kQ mJ⟩
def aev {w:ah}{b:Nat}{m:List eE}(h:dW lf bV (λ_=>True) w b m)(c:Hd){w':ah}(hb:Below w.heap.size w w'):(j9 138 (.map (ae b)) (lf c) aw).run aj w'=.ok (.tuple #[bV ((dY m c).getD kQ),.bool (dY m c).isSome]) w':=by have:=(h.after hb).look pf Tryz.underlying138 (FN w') (x:=c) trivial aw;rw[this];cases dY m c<;>rfl
def Kn {w:ah}{b:Nat}{m:List eE}(h:dW lf bV (λ_=>True) w b m)(hv: ∀r∈m,ki r)(c:Hd):Calls aj 81 #[.map (ae b),lf c] w λe w'=>e=.returned (bV (iz m c))/\Below w.heap.size w w':=by
 have HM:=af h;have HG:Hid (∀v,dY m c=ae v->v.length=9):=λv e=>hv _ (rJ e)
 have HD:Hid (iz m c=(dY m c).getD mJ):=rfl;clear h hv;obtain⟨c1,c2⟩:=c;rw[kX]
 go_enter Tryz.func81,Tryz.ntmps81
 go_upto_region 1 with(fail)
 refine bZ (λw'=>dt w' (w.heap.size+1) 48 (ints kQ)/\dt w' w.heap.size 43 (ints [c1,c2])/\Below w.heap.size w w') ⟨by have:=dt.new (w.alloc (.cells (ints [c1,c2]) 43)) 48 (ints kQ);rwa[dw]at this,(dt.new w _ _).alloc _,((Below.refl _ _).alloc (ax _) _).alloc (by simp) _⟩ ?_
 rintro w1 ⟨hR,hC,hb⟩;have hl:=aev HM.out (c1,c2) hb;have k1:row? w1 w.heap.size 0 2=ae (ints [c1,c2]):=hC.bt rfl;have HR:=af hR;have HB:=af hb;have sO:w.heap.size<=w.heap.size+1:=Nat.le_succ _;rw[show lf (c1,c2)=.agg (ints [c1,c2])from rfl]at hl;clear hR hC hb HM;generalize w.heap.size+1=rb at *;cases hq:dY m (c1,c2)with
 |none=>
  rw[hq]at hl HD;have HD2:Hid (iz m (c1,c2)=mJ):=HD.out;clear HD HG hq;simp only[Option.getD_none,Option.isSome_none,bV]at hl
  go_upto_region 4 with(fail)
  refine bZ (λw'=>dt w' rb 48 (ints kQ)/\Below w.heap.size w w') ⟨HR.out.after (dV w1 48 kQ kQ),HB.out.trans ((dV w1 48 kQ kQ).mono HB.out.size)⟩ ?_;rintro w2 ⟨Aw,gF⟩;have JW:=af Aw;have pW:=af gF;clear Aw gF hl k1
  go_wp2_with fail
  refine(AP w2).mono ?_;rintro e w3 ⟨rfl,IV⟩;have hr3:=JW.out.after IV;have hf:=hr3.fits 0 9 (by rw[bD];simp[kQ]);have HR3:=af hr3;have V3:=af (pW.out.trans (IV.mono pW.out.size));clear hr3 IV;have hn9:mJ.length=9:=rfl
  go_wp2_with fail
  refine mj rfl rb 48 (ints mJ) _ rfl (HR3.out.eU mJ rfl) Tryz.underlying48 rfl (by rw[bD];exact lR) rfl ?_;rw[HD2.out];exact⟨rfl,jL V3.out sO 0 _⟩
 |some v=>
  rw[hq]at hl HD;have HD2:Hid (iz m (c1,c2)=v):=HD.out;have h9:=HG.out v hq;clear HD HG hq;simp only[bT,Option.isSome_some,bV]at hl
  go_upto_region 2 with(fail)
  refine bZ (λw'=>dt w' w1.heap.size 48 (ints v)/\dt w' rb 48 (ints kQ)/\Below w.heap.size w w') ⟨gD w1 48 kQ v h9,HR.out.after (dV w1 48 kQ v),HB.out.trans ((dV w1 48 kQ v).mono HB.out.size)⟩ ?_;generalize w1.heap.size=vb;rintro w2 ⟨KA,Aw,gF⟩;have k2:row? w2 vb 0 9=ae (ints v):=KA.bt h9;have hf:=Aw.fits 0 9 (by rw[bD];simp[kQ]);have JW:=af Aw;have pW:=af gF;clear Aw gF hl k1 KA
  go_wp2_with fail
  refine mj rfl rb 48 (ints v) _ rfl (JW.out.eU v (by rw[h9];rfl)) Tryz.underlying48 rfl (by rw[bD,h9];exact lR) rfl ?_;rw[HD2.out];exact⟨rfl,jL pW.out sO 0 _⟩
def Rs (rs:List eE)(k:Nat)(h:k<rs.length):ofD (rs.take (k+1))=hZ (ofD (rs.take k)) rs[k].1 rs[k].2:=by
 unfold ofD;rw[bh h,j5]
 rfl
def Kf (A:Option Addr)(c:Nat)(rs:List eE)(w:ah)(h:RowsIn w w.heap.size A rs)(rY: ∀r∈rs,ki r)(hl:rs.length<=maxLen):Calls aj 75 #[.slice A rs.length c] w λe w'=> ∃b,e=.returned (.map (ae b))/\In (λ_=>False) w [jV b (ofD rs)] w':=by
 have H:=af h;have TD:=af rY;have SC:(rs.length:Int)<=9223372036854775807:=by unfold maxLen at hl;omega
 have hmm:= @run_makeMap aj;clear h rY
 go_enter Tryz.func75,Tryz.ntmps75
 go_upto_region 2 with(fail)
 refine bZ (In (λ_=>False) w [jV w.heap.size []]) ((In.nil w _).EO lf bV (λ_=>True)) ?_;generalize w.heap.size=mb;intro w1 km;have qB:=af km;clear km hmm
 go_wp2_with fail
 go_loopw [9] (λi w'=> ∃k:Nat,k<=rs.length/\i=.int .i64 k/\In (λ_=>False) w [jV mb (ofD (rs.take k))] w') (λi _=>rs.length-(intOf i).toNat)
 case atStart=>exact⟨0,by omega,rfl,qB.out⟩
 case round=>
  clear qB;obtain⟨k,hk,rfl,hI⟩:=hrel;have HI:=af hI;clear hI;by_cases bJ:k<rs.length
  ·have vI:(k:Int)<rs.length:=by omega
   obtain⟨b,o,hA,zJ,fg⟩:=RowsIn.at_ (fi.below H.out HI.out.jI) bJ;subst hA;have HT:=af (Rs rs k bJ);have AZ:=TD.out _ (bg bJ);generalize y5:rs[k]=r at *;clear y5;have Dn:=QT r;have TE:=af (Jm AZ);obtain⟨⟨s,g⟩,bb⟩:=r;have HB9:Hid (bb.length=9):=AZ;clear AZ
   go_upto_region 5 with(fail)
   refine bZ (In (λ_=>False) w [br wr.heap.size 50 (ints (rL ((s,g),bb))),jV mb (ofD (rs.take k))]) (HI.out.struct 50 [0,0,0,0,0,0,0,0,0,0,0] _ Dn) ?_;generalize wr.heap.size=xb;intro w2 gm;have k1:row? w2 xb 0 2=ae (ints [s,g]):=gm.blk.eJ 0 2 (by rw[Dn];omega);have k2:row? w2 xb 2 9=ae (ints bb):=by rw[gm.blk.eJ 2 9 (by rw[Dn];omega),TE.out];simp only[mZ,List.drop_zero];rw[ck (by rw[HB9.out];omega)]
   have gu:=af gm.drop;clear gm fg Dn TE HI
   go_wp2_with (at_mapUpdate;go_loud (refine iZ pf rfl _ _ _ 138 48 rfl Tryz.underlying138 mb _ rfl (In.fU gu.out) (s,g) rfl trivial bb rfl ?_))
   intro w3 h1 h2 h3;have fW:=af (In.oJ gu.out h1 h2);clear h1 h2 h3 k1 k2
   go_wp2_with fail
   go_roundw
   case rel=>exact⟨k+1,by omega,by go_num,by rw[HT.out];exact fW.out⟩
   case measure=>simp[intOf];omega
  ·have vI:(rs.length:Int)<=k:=by omega
   have HE:Hid (rs.take k=rs):=ck (by omega)
   go_wp2_with fail
   go_ret;refine⟨mb,rfl,?_⟩;have:=HI.out;rw[HE.out]at this;exact this
end
end Go.Proofs.YtknejlcijdngoaaGreat
