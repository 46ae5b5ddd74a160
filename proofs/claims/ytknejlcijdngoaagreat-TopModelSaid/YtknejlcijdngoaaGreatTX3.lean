/- Several texts in one, made short by a program of mine. -/
import Derived.Test.YtknejlcijdngoaaGreatTX2
import Derived.Conc.LeavingOf
import Derived.Conc.WgGenN3
import Derived.Test.YtknejlcijdngoaaGreatRows
import Derived.Maps.AppendAt
import Derived.Laws.OwnMore
import Derived.WalkSmall
import Derived.Deep.DeepCutAuto
import Derived.Deep.RegionHeld3
import Derived.Deep.RegionWith
import Derived.StillTailTactics
import Derived.BigQuiet
import Derived.Orders
import Derived.Conc.Holds
import Derived.Deep.RegionLawGrows
import Derived.Laws.AppendOwnNone
import Derived.Shelf.SlSortCmp.NoneTotal
import Derived.Maps.RangeWalk
import Derived.Conc.WgGenN2
import Derived.Shelf.SlicesQ.Reverse
import Derived.BigRegion
set_option linter.defProp false
set_option linter.unusedVariables false
set_option linter.unusedSimpArgs false
set_option linter.unusedSectionVars false
set_option maxHeartbeats 16000000
set_option maxRecDepth 100000
open Array renaming all_eq_true->eP,empty_append->jF,ext'->oq,getD_eq_getD_getElem?->bF,getElem?_eq_getElem->aS,getElem?_eq_some_iff->aC,getElem?_modify->bp,getElem?_setIfInBounds_ne->aH,getElem?_setIfInBounds_self_of_lt->aQ,mem_of_getElem?->qN,replicate->dE,replicate_succ->ed,replicate_zero->eh
open Bool renaming and_eq_true->ay,eq_iff_iff->fj,not_eq_true'->kI,or_eq_true->ej,false->aq,true->ak
open Go renaming Frame->dj,FuncId->eu,Goroutine->aw,Program->br,TypeId->cD,Value->aB,World->ar
open Go.Act renaming eval->bX,put->dW
open Go.Builtin renaming delete_->kJ
open Go.ConcR renaming mk->gS
open Go.Deferred renaming ofValue->gE
open Go.Frame renaming enter->fi,finish_at->lU
open Go.Instr renaming checkKey->fH,findKey->jw,loadAt->eo,lookup->lC,storeAt->fg
open Go.Lib renaming hid->ae
open Go.MapKept renaming run_getObj_map->km
open Go.Oper renaming wp->nV
open Go.Proofs.Tryz renaming prog->ai
open Go.Region renaming ready->dZ,wanted->aW
open Go.Result renaming andThen->dP,andThen_ok->gG
open Go.Sem renaming run_bind->eJ
open Go.Value renaming int->aD,oneCell'->fW,ownBlock->eB,slice->er
open Go.World renaming cell?->da,ownsRow_nil->eC,setChan->nW,size_alloc->bZ
open Go.World.ownsRow renaming lt->fa
open Int renaming toNat_natCast->bP
open List renaming all_eq_true->lD,any_eq_true->nS,append_assoc->b9,append_nil->cK,append_toArray->ez,cons_append->eD,eq_nil_of_length_eq_zero->dw,ext_getElem?->kM,flatMap_append->bS,flatMap_cons->bJ,getD->bu,getElem?_append_right->nE,getElem?_cons_succ->eQ,getElem?_eq_getElem->aj,getElem?_eq_none->iD,getElem?_eq_some_iff->bg,getElem?_map->dX,getElem?_set->fE,getElem?_take->gF,getElem_mem->aF,length_append->bm,length_cons->ax,length_map->aY,length_nil->aM,length_set->cx,length_take->cR,map_append->en,map_congr_left->dF,map_cons->gg,map_set->jG,mem_append->fM,mem_cons->b8,mem_filter->b3,mem_flatMap->nT,mem_map->aA,mem_of_getElem?->kO,mem_of_mem_take->nF,mem_range->eS,mem_singleton->aO,nil_append->de,push_toArray->e8,range->bB,replicate->cj,set_append_right->mD,size_toArray->aU,take_length->cq,take_of_length_le->cA,take_succ_eq_append_getElem->aV
open List.Perm renaming append_left->dM,refl->ot,swap->cz
open List.range renaming loop->ca
open Nat renaming add_comm->bM,add_mul->kh,add_sub_cancel_left->gV,add_zero->j6,eq_zero_or_pos->fP,le_refl->ao,le_trans->bD,lt_of_lt_of_le->bQ,min_eq_left->qO,mul_le_mul_right->fh,one_mul->je,zero_add->bN,zero_le->bH
open Option renaming getD_some->bT,map_eq_some_iff->aG,map_some->fD,none->ah,some->af
open Option.some renaming inj->aX,injEq->dS
open Or renaming inl->bq,inr->cc
namespace Go.Proofs.YtknejlcijdngoaaGreat
open Go.Proofs.Tryz
namespace Rel
open Go.Conc Go.ConcN
section
variable{P:br} {c:h9} {Z:aB->ar->Prop} {w:ar}
def UM{a v}{t':Tape}{d'}(s:∀F,P.funcs[a.fn]? =af F->F.results.toList.all (pf (c.bd a.fn))=ak)(U:a.leaving P (dG w t' d') (.returned v))(S:P.inits.idxOf? a.fn=ah)(m:∀f d,Z v (dG w f d)):CY P c Z (G a []) w:=by
 obtain⟨hm,Q,T,F,J,X⟩:=U;intro f d π gs sl q t p B h R;have Y:=(R a (by simp[G])).1;refine kQ h.g0 rfl h.co λL q' y H l hs M hC=>.inl ?_
 obtain⟨NV,u,N,e,s',E,V,hvv,z⟩:=wH (c:=c.at a.fn) h.sub h.hp (s F J) Y X f l;have D:stepG P ak (iZ a []) (dG w f l)=.ended (.done v) (dG w f l) (seen P a.fn u++#[]):=by
  rw[hU ak a _ _ (by rw[hm];simp),mV ak a _ _ Q hm,J];simp only[phase,N];have:doReturn P ak a [] ah v (dG w f l)=.ended (.done v) (dG w f l):=by unfold doReturn;simp only[T,S];rfl
  rw[this];rfl
 have k:∀x∈seen P a.fn u++#[],EvX p w.heap.size x:=by intro x k;rw[Array.append_empty]at k;exact WZ s' E (λb O=>h.NH b (V b O)) h.old (z x (jq _ _ x k))
 have n:=runT_many_ended (P:=P) (w:=dG w f l) (sl:=H) (i:=0) M (show stepG P (0==0) (G a []) (dG w f l)=_ from D);refine⟨_,_,_,n,λK I=> ?_⟩;have r:=hC.Ni (a':=G a []) h.le k (G a []).frame.fn (G a []).frame.place id (λo _=>rfl);refine⟨v,rfl,m _ _,r.past.clean,r.past.over,⟨λx k=> ?_,rfl⟩,λj x k A=> ?_⟩;obtain⟨j,A⟩:=List.mem_iff_getElem?.1 k;rw[List.getElem?_drop]at A;exact⟨_,(hC.old (1+j) x (by omega) (by simpa[crowd]using A)).leaves⟩;have W:=hC.old j x (by omega) k;refine⟨q' j,?_⟩;have e:(y++MemOp.ofEvents 0 (G a []).frame.fn (G a []).frame.place (seen P a.fn u++#[])).deaf j (y++MemOp.ofEvents 0 (G a []).frame.fn (G a []).frame.place (seen P a.fn u++#[])).size=Deaf y j:=Deaf_other y (g:=j) (g':=0) (by omega) _ (λop C=>by obtain⟨e,_,rfl⟩:=Go.Conc.mem_ofEvents C;rfl)
 rw[e];exact W.hears _
def Yh(P g):Co P (λ_=>False) 0 #[g] (λ_=>0) #[]:=by
 refine⟨λi x d k=> ?_,⟨λe=>by rintro⟨i,j,_,⟨a,b,c,_⟩,_⟩;simp[Trace.act?]at c,λi a c=>by simp[touchAt,Trace.act?]at c,λi g h=>by simp[Trace.g?]at h,rfl,by simp,λi op d=>by simp at d⟩,by simp,λb f=>f.elim⟩;have:i<1:=by simpa using(aC.1 k).1
 omega
def R7{f args R}(Q:P.globals.size<=w.heap.size)(hi:P.inits.idxOf? f=ah)(r:∀i v,args[i]? =af v->(i∈c.bd f/\kY c (c.kd f i) v)\/xZ c.sig v)(p:∀a x,c.mem a=af x->w.cell? a=af (.int .i64 x))(y:∀v w',R v w'->∀N d,Z v (dG w' N d))(h:sr P c Z f args w R):∃M m o w' t',runNT P (M+1) (solo (G (fi P f args .normal) []) w) #[]=(.ended o w',t')/\runN P M (solo (G (fi P f args .normal) []) w)=.next m/\step P m=.ended o w'/\Go.Conc.Good P Z m o w' t':=by
 obtain⟨F,x,H,L,C,D,s⟩:=h;have K:CY P c Z (G (fi P f args .normal) []) w:=by
  rw[enter_at _ H D];have j:∀(n:Act)(w':ar)(b:List Item),(∃v,(results F n.tmps).run P w'=.ok v w'/\R v w')->CY P c Z (G {(base f).at n b with mode:=.returning} []) w':=by rintro n w' b ⟨v,hr,X⟩;intro N d T V sl q t z B hh A;have Y:n.defers=[]:=(A {(base f).at n b with mode:=.returning} (by simp[G])).2.2.1;exact UM (λU J=>by have:P.funcs[f]? =af U:=J;rw[H]at this;cases this;exact C) (t':=w'.tape) (d':=w'.drawn) ⟨rfl,Y,rfl,F,H,hr⟩ hi (y v w' X) N d T V sl q t z B hh A
  refine s (base f) [] [] rfl rfl rfl λe n w' q=> ?_
  cases e with
  |normal=>refine .ctl rfl (λ_=>stepG_end) (λT _ I O k=> ?_) (j n w' [] q);rcases b8.1 k with rfl|W;exact I ((base f).at n []) (by simp[G]);simp[G]at W
  |ret=>exact λb=>j n w' b q|exit id=>exact q.elim|goto l=>exact q.elim|panic ch=>exact q.elim|outgrown=>exact q.elim
 refine K w.tape w.drawn (λ_ _=>False) #[G (fi P f args .normal) []] ah (λ_=>0) #[] (λ_=>False) 0 ⟨λ_ _ h=>h.elim,⟨⟨λ_ _ _ h=>h.elim,λ_ _ _ h=>h.elim,λ_ _ h=>h.elim⟩,λ_ _ h=>h.elim,Q,Q,λa x D=>⟨λ_ h=>h,λ_ h=>h,p a x D,p a x D⟩⟩,λ_ h=>h.elim,bH _,Yh P _,rfl,λ_ h=>h.elim⟩ λO k=> ?_
 have k:O=fi P f args .normal:=by simpa[G]using k
 subst k;rw[enter_at _ H D];refine⟨⟨rfl,λi u v S I=> ?_⟩,rfl,rfl,rfl⟩;rw[S]at I;obtain rfl:=aX I;have g:(args++dE (F.ntmps-args.size) undef)[i]? =af u:=S;rw[Array.getElem?_append]at g;split at g;rcases r i u g with E|E;exact .inr ⟨E.1,rfl,E.2⟩;exact .inl (E _);rw[Array.getElem?_replicate]at g;split at g;cases g;exact .inl (.tuple rfl (by simp));cases g
end
structure EH(P:br) (c:h9) (N1:Nat) (cs:List dj) (π:Ren) (Shun:Nat->Prop) (B:Nat) (gs:Array aw) (q:Nat->Nat) (t:Trace) (g:aw) (w:ar):Prop where
 sub:Sub π
 hp:cg P c.sig π w w
 NH:∀b,π b b->¬Shun b
 T7:∀b,π b b->b<N1
 sh:∀b,Shun b->b<N1
 n1:N1<=w.heap.size
 le:B<=w.heap.size
 co:Co P Shun B gs q t
 g0:gs[0]? =af g
 old:∀b,Shun b->c.old<=b
 Lt:c.old<=N1
 fr:∀fr∈cs,zA c π fr
def EY(P:br)(c:h9)(a:aB->ar->Prop)(h:Nat)(i:List dj)(f:Nat)(g:aw)(w:ar):Prop:=∀(j:Tape)(d:Nat)(k:Ren)(e:Array aw)(sl:Option (Nat×Nat))(q:Nat->Nat)(t:Trace)(b:Nat->Prop)(B:Nat),B<=f->EH P c h i k b B e q t g w->Ends P a (crowd e (dG w j d) sl) t
def ZU(a B:Nat)(e:Event):Prop:=(e.loc≠.mark .disable/\e.loc≠.mark .enable)/\∀x,(MemAct.ofEvent e).touch? =af x->∃b,s0 x.loc=af b/\a<=b/\b<B
section
variable{P:br} {c:h9} {Z:aB->ar->Prop} {Y X:Nat} {W:List dj} {w:ar}
def aaA{c B}(l:∀b,c b->b<Y){e}(h:ZU Y B e):EvX c B e:=by
 refine⟨h.1,λx k=> ?_⟩;obtain⟨b,d,n,g⟩:=h.2 x k;refine⟨λ⟨m,f,j⟩=> ?_,?_⟩;rw[d]at f;cases f;have:=l b j;omega;cases i:x.loc with|cell a=>rw[i]at d;cases d;exact g|obj r=>rw[i]at d;cases d;exact g|_=>trivial
def cg.keeps{S c w w'}(s:Sub c)(h:cg P S c w w)(g:w.heap.size<=w'.heap.size)(e:∀b,c b b->w'.heap[b]? =w.heap[b]?)(f:∀a x,S.mem a=af x->w'.heap[a.block]? =w.heap[a.block]?):cg P S c w' w':=by refine⟨h.ok,λl r x=> ?_,bD h.mG g,bD h.mG g,λa x d=>by obtain⟨i,j,k,m⟩:=h.old a x d;exact⟨i,j,(l6 (f a x d)).trans k,(l6 (f a x d)).trans m⟩⟩;obtain rfl:=s _ _ x;obtain⟨o,t,n,p,q⟩:=h.obj _ _ x;exact⟨o,t,(e _ x).trans n,(e _ x).trans p,q⟩
def EH.next{k d B l q t g}(h:EH P c Y W k d B l q t g w){e i w' j B'}(hold:∀b,b<Y->w'.heap[b]? =w.heap[b]?)(f:w.heap.size<=w'.heap.size)(n:B'<=w'.heap.size)(hC:Co P d B' e q j)(m:e[0]? =af i):EH P c Y W k d B' e q j i w':=⟨h.sub,h.hp.keeps h.sub f (λb o=>hold b (h.T7 b o)) (λa x p=>hold _ (bQ (c.FG a x p) h.Lt)),h.NH,h.T7,h.sh,bD h.n1 f,n,hC,m,h.old,h.Lt,h.fr⟩
def EY.step{g g' w' TP}(C:g.status=.running)(u:∀a d,∃n,stepG P ak g (dG w a d)=.go g' (dG w' a d) n/\∀e∈n,ZU Y TP e)(hold:∀b,b<Y->w'.heap[b]? =w.heap[b]?)(v:w.heap.size<=w'.heap.size)(G:X<=TP)(o:TP<=w'.heap.size)(k:EY P c Z Y W TP g' w'):EY P c Z Y W X g w:=by
 intro a d E F sl q t f B z h;refine kQ h.g0 C h.co λy D I m j H x hC=>.inr ?_
 obtain⟨n,l,r⟩:=u a j;have s:stepG P ak g ((dG w a d).at j)=.go g' (dG w' a j) n:=l;have p:=hC.Ni (B':=TP) (by omega) (λe A=>aaA h.sh (r e A)) (a':=g') g.frame.fn g.frame.place (woken P g g' (dG w' a j)) (rR P g g' _);refine⟨_,_,runT_crowd_go (P:=P) (sl:=m) (i:=0) x s,k a j E _ m D _ f TP (ao _) (EH.next (B':=TP) ⟨h.sub,h.hp,h.NH,h.T7,h.sh,h.n1,h.le,hC,x,h.old,h.Lt,h.fr⟩ hold v o p ?_)⟩;rw[aQ (by simpa using hC.pos)]
def EY.ctl{g g'}(d:g.status=.running)(b:∀w,stepG P ak g w=.go g' w #[])(a:X<=w.heap.size)(k:EY P c Z Y W X g' w):EY P c Z Y W X g w:=.step d (λ_ _=>⟨#[],b _,by simp⟩) (λ_ _=>rfl) (ao _) (ao _) a k
def EY.send{g C v z blocking shape l s r j O}(U:g.status=.running)(J:∀p d,stepG P ak g (dG w p d)=.comm g #[scase C v z] blocking shape (dG w p d) #[])(hC:Y<=C)(M:w.heap[C]? =af (.chan l j aq s r O))(o:j.size<l)(R:X<=w.heap.size)(k:EY P c Z Y W X (g.finishComm P #[scase C v z] shape 0 undef aq) (w.setChan C l (j.push v) aq (s+1) r O)):EY P c Z Y W X g w:=by
 intro p d π gs sl q t u B H h;refine kQ h.g0 U h.co λG V t' D E hs L f=>.inr ?_
 have I:stepG P (0==0) g ((dG w p d).at E)=.comm g #[scase C v z] blocking shape (dG w p E) #[]:=J p E;have S:C<w.heap.size:=(aC.1 M).1;have K:partners (G.setIfInBounds 0 Go.Conc.ph) C aq=[]:=partners_nil λy Q n=>by rcases getElem?_stand _ _ _ _ n with⟨_,rfl⟩|⟨T,n⟩;exact offersAt_ph _ _;exact offersAt_of_not_blocked (by rcases(f.old y Q (by omega) n).status with h|h<;>rw[h]<;>simp) _ _
 have i:=crowd_send_room (P:=P) (sl:=D) L I M o K;have F:∀fn pos,MemOp.ofEvents 0 fn pos #[]=#[]:=λfn pos=>by rw[ofEvents_eq];simp
 rw[F,jF]at i;have e:∀op∈(#[{g:=0,fn:=g.frame.fn,pos:=g.frame.place,act:=.send C s},{g:=0,fn:=g.frame.fn,pos:=g.frame.place,act:=.sendDone C s}]:Trace),op.g=0/\op.act.touch? =ah/\∀m,op.act≠.mark m:=by intro op a;simp only[List.mem_toArray,b8,List.not_mem_nil,or_false]at a;rcases a with rfl|rfl<;>exact⟨rfl,rfl,by simp⟩
 have A:=f.own (B':=B) (ao _) (a':=g.finishComm P #[scase C v z] shape 0 undef aq) id (λ_ _=>rfl) (λop a=>(e op a).1) (λop a x N=>by rw[(e op a).2.1]at N;cases N) (Deaf_still _ 0 _ λop a=>⟨(e op a).2.2 _,(e op a).2.2 _⟩)
 rw[Array.map_id_fun,id]at A;refine⟨_,_,i,k p E π _ D V _ u B H (EH.next (B':=B) ⟨h.sub,h.hp,h.NH,h.T7,h.sh,h.n1,h.le,f,L,h.old,h.Lt,h.fr⟩ (λb hb=> ?_) (by simp[nW]) (by simp[nW];exact h.le) A ?_)⟩;show(w.heap.setIfInBounds C _)[b]? =_;rw[aH (by omega)];rw[aQ (by have:=f.pos;omega)]
def UO{b:dj}{k a g i e o f args y F x}(hold:c.old<=w.heap.size)(K:g[i]? =af o)(L:aW o (yielded g a.tmps)=ak)(n:b.kind=.normal)(r:o.op=.call {callee:=.value (.func f),args,argTypes:=y})(D:P.funcs[f]? =af F)(l:(F.name== "runtime.NumGoroutine")=aq)(M:F.body=af x)(h:EY P c Z w.heap.size (b.at a (.inRegion g (i::e)::k)::W) w.heap.size (G (fi P f (args.map a.eval) .normal) (b.at a (.inRegion g (i::e)::k)::W)) w):CY P c Z (G (b.at a (.inRegion g (i::e)::k)) W) w:=by
 have p:F.body.isNone=aq:=by rw[M];rfl
 intro v d O Q sl q t m B j J;refine kQ j.g0 rfl j.co λH N S s u R I hC=>.inr ?_
 have C:stepG P ak (G (b.at a (.inRegion g (i::e)::k)) W) ((dG w v d).at u)=.go (G (fi P f (args.map a.eval) .normal) (b.at a (.inRegion g (i::e)::k)::W)) (dG w v u) #[]:=by rw[stepG_enter K L (by rw[n];decide) (run_call_body r D l p)];congr 1;unfold listed;rw[events_call_body r D l p];exact seen_none P _
 have z:=hC.Ni (B':=B) (ao _) (es:=#[]) (by simp) (a':=G (fi P f (args.map a.eval) .normal) (b.at a (.inRegion g (i::e)::k)::W)) (G (b.at a (.inRegion g (i::e)::k)) W).frame.fn (G (b.at a (.inRegion g (i::e)::k)) W).frame.place _ (rR P (G (b.at a (.inRegion g (i::e)::k)) W) (G (fi P f (args.map a.eval) .normal) (b.at a (.inRegion g (i::e)::k)::W)) (dG w v u));refine⟨_,_,runT_crowd_go (P:=P) (sl:=s) (i:=0) I C,h v u O _ s N _ m B j.le ⟨j.sub,j.hp,j.NH,λb n=>(j.hp.lt n).1,λb n=>bQ (j.co.P4 b n) j.le,ao _,j.le,z,?_,j.old,hold,λE A=>J E (by simpa[G]using A)⟩⟩;rw[aQ (by simpa using hC.pos)]
end
end Rel
namespace Rel
open Go.Conc
section
variable{P:br} {c:h9} {Z:aB->ar->Prop} {Y:eu} {Q X:Exit->Act->ar->Prop} {a:Act} {w:ar}
def xD(L:c.Fits P){g i f o}(M:g[i]? =af o)(R:aW o (yielded g a.tmps)=ak)(z:n9 (c.at Y) o.op=ak){w'}(E:∀j d,(execOp a.eval o).run P (dG w j d)=.ok .skip (dG w' j d))(h:ox P c Z Y g f Q (a.put o.dst undef) w'):ox P c Z Y g (i::f) Q a w:=by
 intro b k H q D hp N;refine .step rfl λj d U s p F=> ?_
 have A:=(F (b.at a (.inRegion g (i::f)::k)) (by simp[G])).1;have m:cg P c.sig U (dG w j d) (dG w j d):=p.abk j d;rw[show(b.at a (.inRegion g (i::f)::k)).fn=Y from q]at A;have l:=(AY (L.at Y) p.ok (ru (c:=c.at Y) A) (vN (c:=c.at Y) A) o z).run m #[] #[];have n:(execOp a.eval o).runT P (dG w j d) #[]=(.ok .skip (dG w' j d),(execOp a.eval o).events P (dG w j d) #[]):=by rw[Sem.runT_eq,E]
 rw[n]at l;obtain⟨_,_,r⟩:=l;obtain⟨C,X,V,W,e,t,O,B,u,_,v⟩:=r λ_ _ _=>rfl
 rw[n,jF]at t;simp only[Prod.mk.injEq,Result.ok.injEq]at t;obtain⟨⟨J,K⟩,r⟩:=t;subst J;subst K;have T:=s.TU u rfl;refine⟨_,_,_,C,stepG_none M R (by rw[D];decide) (E j d),e,T,B,λb q=>(u.new b b q).imp id λx=>x.1,u.size,λx S=>.inl (v x ?_),vR (λI y=>(F I y).mono e) _ (.inl (.tuple rfl (by simp))),(h b k H q D hp N).rt j d⟩;rw[<-r];exact jq _ _ x S
def tL(P:br)(F:Func)(R:aB->ar->Prop):Exit->Act->ar->Prop:=λe a w=>(e=.normal\/e=.ret)/\a.defers=[]/\∃v,(∀b d,(results F a.tmps).run P (dG w b d)=.ok v (dG w b d))/\∀b d,R v (dG w b d)
def DK(i:c.Fits P){x F R}(k:dm (c.at Y) x=ak)(h:∀g d,x.wp P (tL P F R) a (dG w g d)):eU P c Z Y x (xf P F R) a w:=by
 refine uR (yi i (Q:=tL P F R) k (λe a w h=>⟨h.1,h.2.1⟩) (λe a w g d h=>h) h) λe a w h=> ?_
 obtain⟨j,_,v,f,b⟩:=h;rcases j with rfl|rfl;exact⟨v,f w.tape w.drawn,b w.tape w.drawn⟩;exact⟨v,f w.tape w.drawn,b w.tape w.drawn⟩
def rG(S:Act->ar->Prop):Exit->Act->ar->Prop:=λe a w=>e=.normal/\a.defers=[]/\∀b d,S a (dG w b d)
def xh(i:c.Fits P){x S}(j:dm (c.at Y) x=ak)(h:∀f d,x.wp P (rG S) a (dG w f d))(b:∀a w,S a w->Q .normal a w):eU P c Z Y x Q a w:=by
 refine uR (yi i (Q:=rG S) j (λe a w h=>⟨.inl h.1,h.2.1⟩) (λe a w f d h=>h) h) λe a w h=> ?_
 obtain⟨rfl,_,g⟩:=h;exact b a w (g w.tape w.drawn)
end
end Rel
namespace Rel
open Go.Conc Go.ConcN
open Go.ConcR (KK WgAt rd wr Payload DC0 stA smA Bk)
section
variable [Payload] {φ:Ph} {Z:aB->ar->Prop} {Goal:aw->ar->Prop} {AnchW:(Nat->Prop)->aw->ar->Prop} {Y:Nat->Prop} {X:Array aw} {w:ar} {sl:Option (Nat×Nat)} {t:Trace} {q:Nat->Nat} {a:aw}
def LA(O:φ.Ok)(r:∀f g w,AnchW f g w->g.status=.running)(n:∀f g w,AnchW f g w->∃m,φ.GP f (φ.AtW1 f Goal (AnchW f)) m g w){B}(P:B<=φ.Wg)(h:Co φ.P Y B X q t)(d:φ.lo=X.size)(z:∀b,φ.mX b->b<w.heap.size/\¬Y b)(k:∀b,φ.Std b->b<w.heap.size)(v:∀b,φ.CB b->b<w.heap.size/\¬Y b)(u:φ.Wg<w.heap.size)(s:φ.Ch<w.heap.size)(C:WgAt φ.ty φ.Wg w 0 0)(x:φ.MD 0 w)(y:∀p,p<φ.nj->φ.J0 p w)(S:X[0]? =af a)(E:0<φ.n)(A:φ.Spawns (φ.Fin AnchW) φ.n (λ_=>False) a w)(K:∀c w' e D l j,c[0]? =af j->j.status=.running->Goal j w'->Co φ.P (λb=>Y b\/b=φ.Wg) w'.heap.size c D l->w.heap.size<=w'.heap.size->(∀p,p<φ.nj->∃o:Nat->Prop,(∀b,o b->w.heap.size<=b/\b<w'.heap.size)/\φ.JP o p w')->Ends φ.P Z (crowd c w' e) l):Ends φ.P Z (crowd X w sl) t:=by obtain⟨m,R⟩:=Co.enter (Goal:=Goal) (AnchW:=AnchW) (sl:=sl) O P h d z k v u s C x y S E A;obtain⟨N,V,l,U,Q⟩:=Oq O (λi op T=>by rw[d];exact h.past.gs i op T) r n R;have F:Co φ.P Y w.heap.size X q t:=h.mono (by omega);obtain⟨c,w',e,D,j,rfl,G,H,I,J,L,M⟩:=Q.leave O E F d;exact .runs U (K c w' e D l j G H I J L M)
end
def Gh.tP(γ:Gh)(w):γ.grow w w=γ:=by obtain⟨o,h,v⟩:=γ;unfold Gh.grow;congr 1;funext b;exact propext ⟨λx=>x.elim id λy=>by omega,.inl⟩
def Gh.D7(γ:Gh){w w'}(h:w'.heap.size=w.heap.size):γ.grow w w'=γ:=by obtain⟨o,a,v⟩:=γ;unfold Gh.grow;congr 1;funext b;exact propext ⟨λx=>x.elim id λy=>by omega,.inl⟩
section
variable [Payload] {φ:Ph} {γ:Gh} {w:ar}
def Ph.WT.rely(O:φ.Ok){g c}(h:φ.WT γ g w)(r:φ.eT γ w c):φ.WT γ g c:=by
 cases h with|tail h=>exact .tail (h.rely O r)|step j w' f e d k=>exact .step j w' f e (λb a=>d b (r.trans a)) λb a=>k b (r.trans a)|recv e d l m=>exact .recv e (λb a=>d b (r.trans a)) (λb i a=>l b i (r.trans a)) λb a=>m b (r.trans a)
def OH(φ:Ph)(γ w):φ.yK γ w w #[]:=⟨λ_ _ _ _=>rfl,λ_ _ _=>rfl,λ_ _=>rfl,ao _,rfl,rfl,rfl,by simp⟩
def D8{a}(h:∀e∈a,φ.Acc γ e):φ.yK γ w w a:=⟨λ_ _ _ _=>rfl,λ_ _ _=>rfl,λ_ _=>rfl,ao _,rfl,rfl,rfl,by rw[Gh.tP];exact h⟩
def Ph.WT.ctl(O:φ.Ok){g g'}(c:g.status=.running)(b:∀w,stepG φ.P aq g w=.go g' w #[])(k:φ.WT γ g' w):φ.WT γ g w:=.step (λ_=>g') id (λ_=>#[]) c (λa _=>⟨b a,OH φ γ a⟩) λa h=>by show φ.WT (γ.grow a a) g' a;rw[Gh.tP];exact k.rely O h
variable{b:dj} {a:Act} {k:List Item} {Z:List dj} {Y:Array Oper} {i:Nat} {X:List Nat} {o:Oper}
def Ph.WT.op(v:ar->aB)(u:ar->ar)(m:Y[i]? =af o)(n:aW o (yielded Y a.tmps)=ak)(g:b.kind≠.early)(d:∀c,φ.eT γ w c->(execOp a.eval o).run φ.P c=.ok (.value (v c)) (u c))(l:∀c,φ.eT γ w c->φ.yK γ c (u c) ((execOp a.eval o).events φ.P c #[]))(h:∀c,φ.eT γ w c->φ.WT (γ.grow c (u c)) (G (b.at (a.put o.dst (v c)) (.inRegion Y X::k)) Z) (u c)):φ.WT γ (G (b.at a (.inRegion Y (i::X)::k)) Z) w:=.step _ u (λc=>listed φ.P b.fn a o c) rfl (λc f=>⟨stepG_value m n g (d c f),by have:=l c f;exact⟨this.rest,this.cells,this.pay,this.size,this.tape,this.os,this.output,λe j=>this.ev e (jq _ _ e j)⟩⟩) h
def Ph.WT.opN(u:ar->ar)(m:Y[i]? =af o)(n:aW o (yielded Y a.tmps)=ak)(g:b.kind≠.early)(d:∀c,φ.eT γ w c->(execOp a.eval o).run φ.P c=.ok .skip (u c))(l:∀c,φ.eT γ w c->φ.yK γ c (u c) ((execOp a.eval o).events φ.P c #[]))(h:∀c,φ.eT γ w c->φ.WT (γ.grow c (u c)) (G (b.at (a.put o.dst undef) (.inRegion Y X::k)) Z) (u c)):φ.WT γ (G (b.at a (.inRegion Y (i::X)::k)) Z) w:=.step _ u (λc=>listed φ.P b.fn a o c) rfl (λc f=>⟨stepG_none m n g (d c f),by have:=l c f;exact⟨this.rest,this.cells,this.pay,this.size,this.tape,this.os,this.output,λe j=>this.ev e (jq _ _ e j)⟩⟩) h
def Ph.WT.pure(O:φ.Ok)(v)(l:Y[i]? =af o)(m:aW o (yielded Y a.tmps)=ak)(g:b.kind≠.early)(d:∀c,φ.eT γ w c->(execOp a.eval o).run φ.P c=.ok (.value v) c)(j:∀c,φ.eT γ w c->∀e∈(execOp a.eval o).events φ.P c #[],φ.Acc γ e)(h:φ.WT γ (G (b.at (a.put o.dst v) (.inRegion Y X::k)) Z) w):φ.WT γ (G (b.at a (.inRegion Y (i::X)::k)) Z) w:=.op (λ_=>v) id l m g d (λc f=>D8 (j c f)) λc f=>by show φ.WT (γ.grow c c) _ c;rw[Gh.tP];exact h.rely O f
def Ph.WT.enter(O:φ.Ok){f args}(g:Y[i]? =af o)(j:aW o (yielded Y a.tmps)=ak)(e:b.kind≠.early)(c:∀w,(execOp a.eval o).run φ.P w=.ok (.enter f args) w)(d:∀w,(execOp a.eval o).events φ.P w #[]=#[])(h:φ.WT γ (G (fi φ.P f args .normal) (b.at a (.inRegion Y (i::X)::k)::Z)) w):φ.WT γ (G (b.at a (.inRegion Y (i::X)::k)) Z) w:=.ctl O rfl (λw=>by rw[stepG_enter g j e (c w)];congr 1;unfold listed;rw[d];exact seen_none _ _) h
def Ph.WT.leave0(O:φ.Ok){F e}{d:dj}{c}(l:b.kind=.normal)(g:a.defers=[])(j:φ.P.funcs[b.fn]? =af F)(f:F.results=#[])(h:φ.WT γ (G (d.at (c.put ((Y[i]?).bind (·.dst)) (.tuple #[])) (.inRegion Y X::k)) Z) w):φ.WT γ (G {b.at a e with mode:=.returning} (d.at c (.inRegion Y (i::X)::k)::Z)) w:=.ctl O rfl (λw=>by rw[stepG_leave l g j (results_none f _ _ w) (events_results_none f _ _),lU]) h
structure Kept(φ:Ph) (γ:Gh) (St:Nat->Prop) (w0 w:ar):Prop where
 st:∀b,St b->w.heap[b]? =w0.heap[b]?
 rd:∀b,φ.mX b->w.heap[b]? =w0.heap[b]?
 cell:∀i a,γ.held i->φ.jl i a->w.cell? a=w0.cell? a
 pay:∀b,φ.CB b->ft w b=ft w0 b
 size:w0.heap.size<=w.heap.size
 live:WgLive φ.ty φ.Wg w0->WgLive φ.ty φ.Wg w
def Kept.refl(φ γ a w):Kept φ γ a w w:=⟨λ_ _=>rfl,λ_ _=>rfl,λ_ _ _ _=>rfl,λ_ _=>rfl,ao _,id⟩
def Ph.WT.tree(O:φ.Ok){c}(hc:c.Fits φ.P){H bot St w0}(hWg:φ.Wg<w0.heap.size/\¬γ.own φ.Wg)(C:∀a x,c.mem a=af x->φ.mX a.block)(K:∀F L g w f q,H F L->GR c [] [] [fz] bot q F g->cg φ.P c.sig q L w->(∀l r,q l r->f.own r)->(∀r,γ.own r->f.own r)->f.held=γ.held->f.over=γ.over->(∀r,f.own r->γ.own r\/(w0.heap.size<=r/\r<w.heap.size))->Kept φ γ St w0 w->φ.WT f g w):∀{F}{L},LT φ.P [] H F L->∀g w f q,GR c [] [] [fz] bot q F g->cg φ.P c.sig q L w->(∀l r,q l r->f.own r)->(∀r,γ.own r->f.own r)->f.held=γ.held->f.over=γ.over->(∀r,f.own r->¬φ.CB r)->(∀r,φ.CB r->r<w.heap.size)->(∀r,φ.mX r->r<w.heap.size/\¬f.own r)->(∀r,St r->f.own r/\r<w.heap.size/\∀l,¬q l r)->(∀r,f.own r->γ.own r\/(w0.heap.size<=r/\r<w.heap.size))->Kept φ γ St w0 w->φ.WT f g w:=by
 intro F L lW
 induction lW with
 |stop hH=>intro g w f q hg N v h2 h3 h4 _ _ _ _ z y;exact K _ _ g w f q hH hg N v h2 h3 h4 z y|step S t esL hs OP YV ih=>
  rename_i F L;intro g w f q hg N v h2 h3 h4 V P W G z y;have M:∀d,φ.eT f w d->cg φ.P c.sig q L d:=λd r=>⟨N.ok,λl x i=>by obtain⟨o,o',Q,e2,e3⟩:=N.obj l x i;exact⟨o,o',Q,(r.own x (v l x i)).trans e2,e3⟩,N.mG,bD N.rm r.size,λa x i=>by obtain⟨g1,g2,g3,g4⟩:=N.old a x i;exact⟨g1,g2,g3,(l6 (r.rd _ (C a x i))).trans g4⟩⟩
  have A:∀d,φ.eT f w d->∃gR R2 ev j,stepG φ.P aq g d=.go gR R2 ev/\Ext φ.P q j/\GR c [] [] [fz] bot j (S d.tape d.drawn) gR/\cg φ.P c.sig j (t d.tape d.drawn) R2/\vu q j L d (t d.tape d.drawn) R2/\∀e∈ev,zy c.sig j e:=λd r=>JH hc hs OP (M d r) hg aq
  have uU:g.status=.running:=by rw[hg.r]
  classical
  let R:ar->aw:=λd=>if r:φ.eT f w d then(A d r).choose else g
  let u:ar->ar:=λd=>if r:φ.eT f w d then(A d r).choose_spec.choose else w
  let ef:ar->Array Event:=λd=>if r:φ.eT f w d then(A d r).choose_spec.choose_spec.choose else #[]
  have E:∀d,φ.eT f w d->∃j,stepG φ.P aq g d=.go (R d) (u d) (ef d)/\Ext φ.P q j/\GR c [] [] [fz] bot j (S d.tape d.drawn) (R d)/\cg φ.P c.sig j (t d.tape d.drawn) (u d)/\vu q j L d (t d.tape d.drawn) (u d)/\∀e∈ef d,zy c.sig j e:=by intro d r;have:=(A d r).choose_spec.choose_spec.choose_spec;simp only[R,u,ef,dif_pos r];exact this
  have D:∀d(r:φ.eT f w d) j,vu q j L d (t d.tape d.drawn) (u d)->cg φ.P c.sig j (t d.tape d.drawn) (u d)->∀l x,j l x->(f.grow d (u d)).own x:=by intro d r j m s l x i;rcases m.new l x i with h|⟨_,h,_⟩;exact .inl (v l x h);exact .inr ⟨h,(s.lt i).2⟩
  refine .step R u ef uU (λd r=> ?_) λd r=> ?_
  obtain⟨j,hgo,e,Z,s,m,Y⟩:=E d r;refine⟨hgo,λb X hn k=>m.rest b X λl n=>hn (v l b n),λB k _=> ?_,λb k=> ?_,m.size,m.tape,m.os,m.output,λe he=> ?_⟩;unfold da;rw[m.rest B.block (bQ (P _ k) r.size) λl n=>V _ (v l _ n) k];unfold ft;rw[m.rest b (bQ (P _ k) r.size) λl n=>V _ (v l _ n) k];have J:=D d r j m s;cases Y e he with|cell wr X=>exact .inr ⟨rfl,_,rfl,.inl (J _ _ X)⟩|obj wr X=>exact .inr ⟨rfl,_,rfl,.inl (J _ _ X)⟩|room=>exact .inl ⟨_,rfl,.inl rfl⟩|ext _=>exact .inl ⟨_,rfl,.inr ⟨_,rfl⟩⟩|old hm=>exact .inr ⟨rfl,_,rfl,.inr (.inr ⟨rfl,C _ _ hm⟩)⟩
  obtain⟨j,hgo,e,Z,s,m,Y⟩:=E d r;refine ih d.tape d.drawn (R d) (u d) (f.grow d (u d)) j Z s (D d r j m s) (λx i=>.inl (h2 x i)) h3 h4 (λx i k=> ?_) (λx i=> ?_) (λx i=>⟨bQ (W x i).1 (bD r.size m.size),λJ=> ?_⟩) (λx i=>⟨.inl (G x i).1,bQ (G x i).2.1 (bD r.size m.size),λl n=> ?_⟩) (λx i=> ?_) ⟨λx i=> ?_,λx i=> ?_,λp B hp I=> ?_,λx i=> ?_,bD y.size (bD r.size m.size),λn=> ?_⟩;rcases i with i|⟨i,_⟩;exact V x i k;have:=P x k;have:=r.size;omega;exact bQ (P x i) (bD r.size m.size);rcases J with J|⟨J,_⟩;exact(W x i).2 J;have:=(W x i).1;have:=r.size;omega;rcases m.new l x n with h|⟨_,h,_⟩;exact(G x i).2.2 l h;have:=(G x i).2.1;have:=r.size;omega;have hz:=y.size;have hr:=r.size;have hs:=m.size;rcases i with i|⟨T,U⟩;rcases z x i with h|⟨T,U⟩;exact .inl h;exact .inr ⟨T,by omega⟩;exact .inr ⟨by omega,U⟩;exact((m.rest x (bQ (G x i).2.1 r.size) (G x i).2.2).trans (r.own x (G x i).1)).trans (y.st x i);exact((m.rest x (bQ (W x i).1 r.size) λl n=>(W x i).2 (v l x n)).trans (r.rd x i)).trans (y.rd x i);have k:=O.lK p B I;have Q:(u d).cell? B=d.cell? B:=by unfold da;rw[m.rest B.block (bQ (P _ k) r.size) λl n=>V _ (v l _ n) k]
  exact(Q.trans (r.cell p B (h3▸hp) I)).trans (y.cell p B hp I);have Q:ft (u d) x=ft d x:=by unfold ft;rw[m.rest x (bQ (P _ i) r.size) λl n=>V _ (v l _ n) i]
  exact(Q.trans (r.pay x i)).trans (y.pay x i);obtain⟨st,sm,hl'⟩:=r.live (y.live n);refine⟨st,sm,(m.rest φ.Wg (by have:=y.size;have:=r.size;omega) λl n=> ?_).trans hl'⟩;rcases z _ (v l _ n)with h|⟨h,_⟩;exact hWg.2 h;omega
end
end Rel
namespace Rel
open Go.Conc Go.ConcN
abbrev tF(P:br)(c:h9)(a:aB->ar->Prop)(b:Nat)(d:List dj)(g:aw)(w:ar):Prop:=EY P c a b d w.heap.size g w
section
variable{P:br} {c:h9} {Z:aB->ar->Prop} {Y:Nat} {X W:List dj} {w w':ar} {b:dj} {a:Act} {k:List Item} {V:Array Oper} {i:Nat} {U:List Nat} {o:Oper} {x y:Code} {T:Operand} {S:Nat}
def oF{g b}(d:g.status=.running)(a:∀w,stepG P ak g w=.go b w #[])(h:tF P c Z Y X b w):tF P c Z Y X g w:=EY.ctl d a (ao _) h
def nL(h:tF P c Z Y X (G (b.at a (.code x::.code y::k)) W) w):tF P c Z Y X (G (b.at a (.code (.seq x y)::k)) W) w:=oF rfl (λ_=>stepG_seq) h
def UW(h:tF P c Z Y X (G (b.at a k) W) w):tF P c Z Y X (G (b.at a (.code .skip::k)) W) w:=oF rfl (λ_=>stepG_skip) h
def H7(h:tF P c Z Y X (G (b.at a (.code x::.inBlock S::k)) W) w):tF P c Z Y X (G (b.at a (.code (.block S x)::k)) W) w:=oF rfl (λ_=>stepG_block) h
def KR(h:tF P c Z Y X (G (b.at a k) W) w):tF P c Z Y X (G (b.at a (.inBlock S::k)) W) w:=oF rfl (λ_=>stepG_inBlock) h
def UU(h:tF P c Z Y X (G (b.at a (.code x::.inLoop x::k)) W) w):tF P c Z Y X (G (b.at a (.code (.loop x)::k)) W) w:=oF rfl (λ_=>stepG_loop) h
def Oz(h:tF P c Z Y X (G (b.at a (.code x::.inLoop x::k)) W) w):tF P c Z Y X (G (b.at a (.inLoop x::k)) W) w:=oF rfl (λ_=>stepG_inLoop) h
def jX(h:tF P c Z Y X (G (b.at a (.inRegion V (bB V.size)::k)) W) w):tF P c Z Y X (G (b.at a (.code (.region S V aq)::k)) W) w:=oF rfl (λ_=>stepG_region) h
def ry(h:tF P c Z Y X (G (b.at a k) W) w):tF P c Z Y X (G (b.at a (.inRegion V []::k)) W) w:=oF rfl (λ_=>stepG_region_end) h
def Rn(d:a.eval T=.bool ak)(h:tF P c Z Y X (G (b.at a (.code x::k)) W) w):tF P c Z Y X (G (b.at a (.code (.cond T x y)::k)) W) w:=oF rfl (λ_=>stepG_cond d) h
def Rm(d:a.eval T=.bool aq)(h:tF P c Z Y X (G (b.at a (.code y::k)) W) w):tF P c Z Y X (G (b.at a (.code (.cond T x y)::k)) W) w:=oF rfl (λ_=>stepG_cond d) h
def UT{d}(e:exitTo S k=af d)(h:tF P c Z Y X (G (b.at a d) W) w):tF P c Z Y X (G (b.at a (.code (.exit S)::k)) W) w:=oF rfl (λ_=>stepG_exit e) h
def DV(v)(p:V[i]? =af o)(q:aW o (yielded V a.tmps)=ak)(m:b.kind≠.early)(hold:∀b,b<Y->w'.heap[b]? =w.heap[b]?)(j:w.heap.size<=w'.heap.size)(g:∀f d,(execOp a.eval o).run P (dG w f d)=.ok (.value v) (dG w' f d))(l:∀f d,∀e∈(execOp a.eval o).events P (dG w f d) #[],ZU Y w'.heap.size e)(h:tF P c Z Y X (G (b.at (a.put o.dst v) (.inRegion V U::k)) W) w'):tF P c Z Y X (G (b.at a (.inRegion V (i::U)::k)) W) w:=EY.step rfl (λf d=>⟨_,stepG_value p q m (g f d),λe n=>l f d e (jq _ _ e n)⟩) hold j j (ao _) h
def Ym(p:V[i]? =af o)(q:aW o (yielded V a.tmps)=ak)(m:b.kind≠.early)(hold:∀b,b<Y->w'.heap[b]? =w.heap[b]?)(j:w.heap.size<=w'.heap.size)(g:∀f d,(execOp a.eval o).run P (dG w f d)=.ok .skip (dG w' f d))(l:∀f d,∀e∈(execOp a.eval o).events P (dG w f d) #[],ZU Y w'.heap.size e)(h:tF P c Z Y X (G (b.at (a.put o.dst undef) (.inRegion V U::k)) W) w'):tF P c Z Y X (G (b.at a (.inRegion V (i::U)::k)) W) w:=EY.step rfl (λf d=>⟨_,stepG_none p q m (g f d),λe n=>l f d e (jq _ _ e n)⟩) hold j j (ao _) h
def nc(v)(m:V[i]? =af o)(n:aW o (yielded V a.tmps)=ak)(l:b.kind≠.early)(f:∀w,(execOp a.eval o).run P w=.ok (.value v) w)(g:∀w,(execOp a.eval o).events P w #[]=#[])(h:tF P c Z Y X (G (b.at (a.put o.dst v) (.inRegion V U::k)) W) w):tF P c Z Y X (G (b.at a (.inRegion V (i::U)::k)) W) w:=DV v m n l (λ_ _=>rfl) (ao _) (λ_ _=>f _) (λp d e j=>by rw[g]at j;simp at j) h
def zW{B ad wr}(b:Y<=ad.block)(c:ad.block<B):ZU Y B ⟨.cell ad,wr,aq⟩:=⟨by simp,λx a=>by rw[ofEvent_cell0]at a;simp only[MemAct.touch?,dS]at a;subst a;exact⟨ad.block,rfl,b,c⟩⟩
end
end Rel
namespace Rel
open Go.Conc Go.ConcN
open Go.ConcR (KK WgAt rd wr Payload DC0 stA smA Bk)
def Plain(S:nK)(v:aB):Prop:=xZ S v/\∀b a,bz S b v a->a=v
def AR{S}(e)(h:∀x∈e,∃k n,x=.int k n):Plain S (.agg e):=by
 refine⟨λj=>.agg rfl λi a b d c=> ?_,λj l g=> ?_⟩;rw[d]at c;obtain rfl:=aX c;obtain⟨k,n,rfl⟩:=h a (qN d);exact .int k n;cases g with
 |agg s f=>
  rename_i m;congr 1;refine sC s.symm λi a b d c=> ?_
  have:=f i b a c d;obtain⟨k,n,rfl⟩:=h b (qN c);cases this;rfl
end Rel
namespace Rel
open Go.Conc Go.ConcN
section
variable{P:br} {c:h9} {Z:aB->ar->Prop} {Y X:Nat} {W:List dj} {w:ar}
def Yn{g}(f:∀b,(∀e∈W,zA c b e)->∀e∈g.frame::g.callers,zA c b e)(k:CY P c Z g w):EY P c Z Y W X g w:=by intro j d b i sl q t a B l h;exact k j d b i sl q t a B ⟨h.sub,h.hp,h.NH,h.le,h.co,h.g0,h.old⟩ (f b h.fr)
def grow(a:Ren)(V:Nat->Prop):Ren:=λl r=>l=r/\(a l r\/V l)
def only(V:Nat->Prop):Ren:=λl r=>l=r/\V l
def RH(a V):Sub (grow a V):=λ_ _ h=>h.1
def Fv{a V}:Ren.Ok P (grow a V):=⟨λ_ _ _ h k=>h.1.symm.trans k.1,λ_ _ _ h k=>h.1.trans k.1.symm,λ_ _ h=>by rw[h.1]⟩
def Ii{a V}(s:Sub a):Ext P a (grow a V):=⟨λ_ _ h=>⟨s _ _ h,.inl h⟩,Fv⟩
def Sy{a V}:Ext P (only V) (grow a V):=⟨λ_ _ h=>⟨h.1,.inr h.2⟩,Fv⟩
def cg.grown{S f}{V CB:Nat->Prop}{w w'}(s:Sub f)(h:cg P S f w w)(d:w.heap.size<=w'.heap.size)(z:∀b,f b b->¬CB b->w'.heap[b]? =w.heap[b]?)(y:∀b,CB b\/V b->∃o,w'.heap[b]? =af o/\jH S (only V) o o)(B:∀a x,S.mem a=af x->¬V a.block/\w'.heap[a.block]? =w.heap[a.block]?):cg P S (grow f V) w' w':=by
 refine⟨Fv,λl r x=> ?_,bD h.mG d,bD h.mG d,λa x i=> ?_⟩;rotate_left;obtain⟨m,D,t,u⟩:=h.old a x i;obtain⟨p,q⟩:=B a x i;refine⟨λr c=> ?_,λl A=> ?_,(l6 q).trans t,(l6 q).trans u⟩;obtain⟨rfl,c⟩:=c;exact c.elim (m _) p;obtain⟨rfl,c⟩:=A;exact c.elim (m _) p;obtain⟨rfl,i⟩:=x;by_cases k:CB l\/V l;obtain⟨o,g,j⟩:=y l k;exact⟨o,o,g,g,j.mono (P:=P) Sy⟩;have n:f l l:=i.resolve_right λh=>k (.inr h)
 obtain⟨o,C,g,j,v⟩:=h.obj _ _ n;have e:=z l n λh=>k (.inl h)
 exact⟨o,C,e.trans g,e.trans j,v.mono (Ii (P:=P) s)⟩
end
end Rel
namespace Rel
open Go.Conc
section
variable{c d:h9}
def FN(g:c.fn=d.fn)(i:c.int=d.int)(b:c.bad=d.bad)(h:c.kc=d.kc)(m:c.bd=d.bd)(n:c.kd=d.kd)(p:c.elem=d.elem)(q:c.ext=d.ext):jh c=jh d:=by
 have e:ew c=ew d:=funext λo=>by cases o<;>simp[ew,g,b]
 have r:rX c=rX d:=funext λf=>funext λj=>funext λx=>by unfold rX;rw[e,b,h,m,n]
 have v:∀f l j,j8 c f j l=j8 d f j l:=λf l=>by
  induction l with|nil=>intro j;rfl|cons x l w=>intro j;unfold j8;rw[w,r]
 have s:nM c=nM d:=funext λk=>by unfold nM;rw[e,g,q];simp only[v]
 have t:n9 c=n9 d:=funext λo=>by unfold n9;rw[e,s,g,i]
 have a:zV c=zV d:=funext λo=>funext λk=>by unfold zV;rw[b,h]
 have u:yU c=yU d:=funext λo=>by unfold yU;rw[e,b,h,p,a]
 exact funext λo=>by unfold jh;rw[t,u]
def FM(k:c.fn=d.fn)(m:c.int=d.int)(j:c.bad=d.bad)(n:c.kc=d.kc)(q:c.bd=d.bd)(r:c.kd=d.kd)(s:c.elem=d.elem)(t:c.ext=d.ext):∀x:Code,dm c x=dm d x:=by
 have l:ew c=ew d:=funext λo=>by cases o<;>simp[ew,k,j]
 have u:=FN k m j n q r s t;intro x
 induction x with|region w v d=>simp only[dm,u]|seq a b e g=>simp only[dm,e,g]|cond o a b e g=>simp only[dm,e,g,l]|block i b h=>simp only[dm,h]|loop b h=>simp only[dm,h]|scope b h=>simp only[dm,h]|rangeFunc f p a b e g=>simp only[dm,e,g,l,j]|_=>rfl
def IU(b:c.bad=[])(e:ew c=ew d)(a:d.bad=[])(f):∀l j,j8 c f j l=j8 d f j l:=by
 intro l
 induction l with|nil=>intro j;rfl|cons x l g=>intro j;unfold j8;rw[g];congr 1;unfold rX;rw[e];cases x<;>simp[b,a]
def yw(m:c.bad=[])(l:d.bad=[])(n:c.fn=d.fn)(q:c.int=d.int)(r:c.ext=d.ext):∀x:Code,dm c x=dm d x:=by
 have h:ew c=ew d:=funext λo=>by cases o<;>simp[ew,n,m,l]
 have u:=IU m h l;have s:nM c=nM d:=funext λk=>by unfold nM;rw[h,n,r];simp only[u]
 have t:jh c=jh d:=funext λo=>by unfold jh;rw[wF m,wF l];congr 1;unfold n9;rw[h,s,n,q]
 intro x
 induction x with|region w v d=>simp only[dm,t]|seq a b e g=>simp only[dm,e,g]|cond o a b e g=>simp only[dm,e,g,h]|block i b j=>simp only[dm,j]|loop b j=>simp only[dm,j]|scope b j=>simp only[dm,j]|rangeFunc f p a b e g=>simp only[dm,e,g,h,m,l]|_=>rfl
end
section
variable{S S':nK} {Z:Ren}
def Qn.sig(h:∀f,S.fn f->S'.fn f):∀{a b},Qn S Z a b->Qn S' Z a b|_,_,.func s=>.func (h _ s)|_,_,.yield x=>.yield x
def bz.sig(h:∀f,S.fn f->S'.fn f){v a}(x:bz S Z v a):bz S' Z v a:=by
 induction x with|bool=>exact .bool _|int=>exact .int _ _|string=>exact .string _|fB=>exact .fB|pointer x=>exact .pointer x|jr=>exact .jr _ _|slice l c x=>exact .slice _ _ x|uY=>exact .uY|map x=>exact .map x|sG=>exact .sG|func f e _ g _ b d=>exact .func (f.sig h) e b g d|nilFunc=>exact .nilFunc|iface t _ i=>exact .iface _ i|nilIface=>exact .nilIface|agg s _ i=>exact .agg s i|tuple s _ i=>exact .tuple s i
def jH.sig(h:∀f,S.fn f->S'.fn f)(g:∀x,S.code x->S'.code x):∀{o j},jH S Z o j->jH S' Z o j|_,_,.loop x=>.loop ⟨x.state,x.pending,λc n=>g _ (x.okP c n),x.fn,ig.mono x.tmps λ_ _ y=>bz.sig h y,x.params,x.assign,g _ x.okA,x.body,g _ x.okB,x.defers⟩|_,_,.number l x=>.number l x|_,_,.deferred b=>.deferred b|_,_,.cells t m x=>.cells t m (ig.mono x λ_ _ y=>bz.sig h y)|_,_,.map k x=>.map k ⟨x.size,λi a b d e=>⟨(x.at_ i a b d e).key.sig h,(x.at_ i a b d e).val.sig h,(x.at_ i a b d e).born⟩⟩|_,_,.stringIter s p=>.stringIter s p|_,_,.mapIter a b c x=>.mapIter a b c x
end
end Rel
namespace Rel
open Go.Conc Go.ConcN Go.RowKit Go.Conc.Lib
open Go.ConcR (KK WgAt rd wr mk Payload DC0 stA smA wgBlock Aside2)
section
variable [Payload] {Z:Ph} {Y:Nat->Prop} {X:aw->ar->Prop} {m:Nat} {w:ar}
def Sr{Z:Ph}{Y}:∀x y z,Z.MR Y x y->Z.MR Y y z->Z.MR Y x z:=λ_ _ _ h k=>h.trans k
def vI{w a}(h:∀e∈a,False):Z.DM Y w w a:=⟨rfl,λe b=>(h e b).elim⟩
def Q7(Z:Ph)(Y w):Z.DM Y w w #[]:=vI (by simp)
def MN{w m}(a)(h:a.block=Z.Wg)(hm:m=.read a\/m=.write a):Z.DM Y w w #[⟨.mark m,aq,ak⟩]:=⟨rfl,λe b=>by rw[Array.mem_singleton]at b;subst b;exact .inr (.inl ⟨a,h,hm.imp (by rintro rfl;rfl) (by rintro rfl;rfl)⟩)⟩
def gC{F:ar->Prop}(b:∀w c,Z.MR Y w c->F w->F c){w a}(h:F w/\WgLive Z.ty Z.Wg w)(r:Z.MR Y w a):F a/\WgLive Z.ty Z.Wg a:=⟨b _ _ r h.1,r.live h.2⟩
def zd{g}(e:g.status=.running){d}(c:∀w,∀K:aw->ar->Array Event->Prop,K d w #[]->(stepG Z.P ak g w).goes K)(k:Z.GP Y X m d w):Z.GP Y X (m+1) g w:=Goes.step e λb a=>c b _ ⟨Q7 Z Y _,Goes.rely Sr k a⟩
def k9{g b}(d:g.status=.running)(a:∀w,stepG Z.P ak g w=.go b w #[])(k:Z.GP Y X m b w):Z.GP Y X (m+1) g w:=zd d (λw K c=>by rw[a w];exact c) k
section
variable{b:dj} {a:Act} {k:List Item} {W:List dj} {V:Array Oper} {i:Nat} {U:List Nat} {o:Oper}
def cw{x y}(h:Z.GP Y X m (G (b.at a (.code x::.code y::k)) W) w):Z.GP Y X (m+1) (G (b.at a (.code (.seq x y)::k)) W) w:=k9 rfl (λ_=>stepG_seq) h
def jI(h:Z.GP Y X m (G (b.at a k) W) w):Z.GP Y X (m+1) (G (b.at a (.code .skip::k)) W) w:=k9 rfl (λ_=>stepG_skip) h
def vS{d c}(h:Z.GP Y X m (G (b.at a (.code c::.inBlock d::k)) W) w):Z.GP Y X (m+1) (G (b.at a (.code (.block d c)::k)) W) w:=k9 rfl (λ_=>stepG_block) h
def Ac{c}(h:Z.GP Y X m (G (b.at a k) W) w):Z.GP Y X (m+1) (G (b.at a (.inBlock c::k)) W) w:=k9 rfl (λ_=>stepG_inBlock) h
def MY{c}(h:Z.GP Y X m (G (b.at a (.code c::.inLoop c::k)) W) w):Z.GP Y X (m+1) (G (b.at a (.code (.loop c)::k)) W) w:=k9 rfl (λ_=>stepG_loop) h
def D6{c}(h:Z.GP Y X m (G (b.at a (.code c::.inLoop c::k)) W) w):Z.GP Y X (m+1) (G (b.at a (.inLoop c::k)) W) w:=k9 rfl (λ_=>stepG_inLoop) h
def xn{d V l}(c:bB V.size=l)(h:Z.GP Y X m (G (b.at a (.inRegion V l::k)) W) w):Z.GP Y X (m+1) (G (b.at a (.code (.region d V aq)::k)) W) w:=by subst c;exact k9 rfl (λ_=>stepG_region) h
def bt{d:Nat}{V:Array Oper}{l:List Nat}(h:Z.GP Y X m (G (b.at a (.inRegion V l::k)) W) w)(c:bB V.size=l:=by simp only[aU,ax,aM,Nat.reduceAdd,bN,bB,List.range.loop];rfl):Z.GP Y X (m+1) (G (b.at a (.code (.region d V aq)::k)) W) w:=xn c h
def dh{V}(h:Z.GP Y X m (G (b.at a k) W) w):Z.GP Y X (m+1) (G (b.at a (.inRegion V []::k)) W) w:=k9 rfl (λ_=>stepG_region_end) h
def MW{c x y}(t)(d:a.eval c=.bool t)(h:Z.GP Y X m (G (b.at a (.code (if t then x else y)::k)) W) w):Z.GP Y X (m+1) (G (b.at a (.code (.cond c x y)::k)) W) w:=k9 rfl (λ_=>stepG_cond d) h
def jS{c x y}(d:a.eval c=.bool ak)(h:Z.GP Y X m (G (b.at a (.code x::k)) W) w):Z.GP Y X (m+1) (G (b.at a (.code (.cond c x y)::k)) W) w:=MW ak d h
def iy{c x y}(d:a.eval c=.bool aq)(h:Z.GP Y X m (G (b.at a (.code y::k)) W) w):Z.GP Y X (m+1) (G (b.at a (.code (.cond c x y)::k)) W) w:=MW aq d h
def MX{c d}(e:exitTo c k=af d)(h:Z.GP Y X m (G (b.at a d) W) w):Z.GP Y X (m+1) (G (b.at a (.code (.exit c)::k)) W) w:=k9 rfl (λ_=>stepG_exit e) h
def oH(h:Z.GP Y X m (G {b.at a (.code .ret::k)with mode:=.returning} W) w):Z.GP Y X (m+1) (G (b.at a (.code .ret::k)) W) w:=k9 rfl (λ_=>stepG_ret') h
def U3(h:Z.GP Y X m (G {b.at a []with mode:=.returning} W) w):Z.GP Y X (m+1) (G (b.at a []) W) w:=k9 rfl (λ_=>stepG_end) h
def gY(c:V[i]? =af o)(d:aW o (yielded V a.tmps)=aq)(h:Z.GP Y X m (G (b.at (a.put o.dst undef) (.inRegion V U::k)) W) w):Z.GP Y X (m+1) (G (b.at a (.inRegion V (i::U)::k)) W) w:=k9 rfl (λ_=>stepG_unwanted c d) h
def Ad(v)(j:V[i]? =af o)(l:aW o (yielded V a.tmps)=ak)(g:b.kind≠.early)(e:∀c,Z.MR Y w c->(execOp a.eval o).run Z.P c=.ok (.value v) c)(f:∀c,Z.MR Y w c->(execOp a.eval o).events Z.P c #[]=#[])(h:Z.GP Y X m (G (b.at (a.put o.dst v) (.inRegion V U::k)) W) w):Z.GP Y X (m+1) (G (b.at a (.inRegion V (i::U)::k)) W) w:=Goes.step rfl λc d=>by rw[stepG_value j l g (e c d)];refine⟨?_,Goes.rely Sr h d⟩;unfold listed;rw[f c d,seen_none];exact Q7 Z Y _
def aK(v:aB)(h:Z.GP Y X m (G (b.at (a.put o.dst v) (.inRegion V U::k)) W) w)(g:V[i]? =af o:=by rfl)(j:aW o (yielded V a.tmps)=ak:=by rfl)(f:b.kind≠.early:=by k_ne)(d:∀c,Z.MR Y w c->(execOp a.eval o).run Z.P c=.ok (.value v) c:=by intro _ _;go_simp<;>rfl)(e:∀c,Z.MR Y w c->(execOp a.eval o).events Z.P c #[]=#[]:=by intro _ _;simp[go_sem, *]):Z.GP Y X (m+1) (G (b.at a (.inRegion V (i::U)::k)) W) w:=Ad v g j f d e h
def U4(v)(n:V[i]? =af o)(p:aW o (yielded V a.tmps)=ak)(j:b.kind≠.early)(f:∀c,Z.MR Y w c->(execOp a.eval o).run Z.P c=.ok (.value v) c)(g:∀c,Z.MR Y w c->∀e∈(execOp a.eval o).events Z.P c #[],Z.EvM Y e)(h:Z.GP Y X m (G (b.at (a.put o.dst v) (.inRegion V U::k)) W) w):Z.GP Y X (m+1) (G (b.at a (.inRegion V (i::U)::k)) W) w:=Goes.step rfl λc d=>by rw[stepG_value n p j (f c d)];exact⟨⟨rfl,λe l=>g c d e (jq _ _ e l)⟩,Goes.rely Sr h d⟩
def RB{f:eu}{e:Array Operand}{c:Array cD}(j:V[i]? =af o)(l:aW o (yielded V a.tmps)=ak)(g:b.kind≠.early)(d:o.op=.defer {callee:=.value (.func f),args:=e,argTypes:=c})(h:Z.GP Y X m (G (b.at (dW ⟨a.tmps,dcall f (e.map a.eval)::a.defers⟩ o.dst undef) (.inRegion V U::k)) W) w):Z.GP Y X (m+1) (G (b.at a (.inRegion V (i::U)::k)) W) w:=k9 rfl (λ_=>stepG_defer j l g d) h
def n4{f e c args g}(r:V[i]? =af o)(s:aW o (yielded V a.tmps)=ak)(q:b.kind≠.early)(j:o.op=.call {callee:=.value (.func f),args,argTypes:=g})(p:Z.P.funcs[f]? =af e)(d:(e.name== "runtime.NumGoroutine")=aq)(n:e.body=af c)(h:Z.GP Y X m (G ((base f).at {tmps:=args.map a.eval++dE (e.ntmps-(args.map a.eval).size) undef,defers:=[]} [.code c]) (b.at a (.inRegion V (i::U)::k)::W)) w):Z.GP Y X (m+1) (G (b.at a (.inRegion V (i::U)::k)) W) w:=zd rfl (λ_ _ l=>goes_call r s q j p d n l) h
variable{T:Func} {S:List Item} {R:dj} {Q:Act}
def qi(f:b.kind=.normal)(d:a.defers=[])(e:Z.P.funcs[b.fn]? =af T)(g:T.results=#[])(h:Z.GP Y X m (G (R.at (Q.put ((V[i]?).bind (·.dst)) (.tuple #[])) (.inRegion V U::k)) W) w):Z.GP Y X (m+1) (G {b.at a S with mode:=.returning} (R.at Q (.inRegion V (i::U)::k)::W)) w:=zd rfl (λ_ _ c=>goes_leave0 f d e g c) h
def lQ{t}(f:b.kind=.normal)(d:a.defers=[])(e:Z.P.funcs[b.fn]? =af T)(g:T.results=#[.tmp t])(h:Z.GP Y X m (G (R.at (Q.put ((V[i]?).bind (·.dst)) (a.tmps.getD t undef)) (.inRegion V U::k)) W) w):Z.GP Y X (m+1) (G {b.at a S with mode:=.returning} (R.at Q (.inRegion V (i::U)::k)::W)) w:=zd rfl (λ_ _ c=>goes_leave1 f d e g c) h
end
end
end Rel
namespace Rel
open Go.Conc Go.ConcN Go.RowKit Go.Conc.Lib Go.ConcR.Gen Go.ConcN.Gen
open Go.ConcR (KK WgAt rd wr mk Payload DC0 stA smA wgBlock Aside2)
section
variable [Payload] {φ:Ph} {L:WgLink} {μ:Nat->Prop}
def UE{F:ar->Prop}{Next}{b₀:dj}{a₀ ops₀ i₀ rest₀ k₀ cs mT}(H:WgLib φ.P L)(n:φ.ty=L.tWg)(d:∀w y,φ.MR μ w y->F w->F y)(t:∀w v,F w->F (w.setCell (stA φ.Wg) v))(x:∀w,F w->WgLive φ.ty φ.Wg w->φ.GP μ (φ.AtGoS Next μ) mT (G (b₀.at (a₀.put ((ops₀[i₀]?).bind (·.dst)) (.tuple #[])) (.inRegion ops₀ rest₀::k₀)) cs) w)(w)(a:F w/\WgLive φ.ty φ.Wg w):φ.GP μ (φ.AtKdS Next μ) 100 (G ((base L.add).at ⟨#[.pointer (af ⟨φ.Wg,0,ah⟩),.int .i64 1]++dE 115 undef,[]⟩ [.code (body_add L)]) (b₀.at a₀ (.inRegion ops₀ (i₀::rest₀)::k₀)::cs)) w:=by
 lib_facts
 simp only[body_add,addFn,bT,ed,eh,e8,ez,de,eD];refine cw ?_;refine jS (by first|rfl|(simp[bX];done)|(simp[bX];omega)) ?_;refine cw ?_;refine cw ?_;refine bt ?_;refine aK _ ?_;walk_nrm;try w_num
 refine aK _ ?_;walk_nrm;try w_num
 refine dh ?_;refine iy (by first|rfl|(simp[bX];done)|(simp[bX];omega)) ?_;refine jI ?_;refine cw ?_;refine bt ?_;refine Goes.stop (λz h=> ?_)
 replace a:=gC d a h
 clear h;refine⟨rfl,_,stepG_mark0 .disable (by simp) rfl rfl (by k_ne) rfl H.f_disable (x_disable_n L) (x_disable_b L) (x_disable_x L) (x_disable_f L),100,?_⟩;walk_nrm;refine dh ?_;refine bt ?_;refine RB rfl rfl (by k_ne) rfl ?_;walk_nrm;refine dh ?_;refine cw ?_;refine bt ?_;refine aK _ ?_;walk_nrm;try w_num
 refine dh ?_;refine cw ?_;refine cw ?_;refine bt ?_;refine k9 rfl (λ_=>stepG_entry_pure (.bool aq) rfl rfl (by k_ne) rfl H.f_inBubble (x_inBubble_n L) (x_inBubble_b L) (x_inBubble_x L) (x_inBubble_f L)) ?_;walk_nrm;refine dh ?_;refine iy (by first|rfl|(simp[bX];done)|(simp[bX];omega)) ?_;refine jI ?_;refine cw ?_;refine bt ?_;refine aK _ ?_;walk_nrm;try w_num
 refine aK _ ?_;walk_nrm;try w_num
 refine aK _ ?_;walk_nrm;try w_num
 refine aK _ ?_;walk_nrm;try w_num
 refine aK _ ?_;walk_nrm;try w_num
 refine aK _ ?_;walk_nrm;try w_num
 refine n4 rfl rfl (by k_ne) rfl H.f_uAdd (nm_uAdd L) rfl ?_;walk_nrmf uAddFn;refine cw ?_;refine bt ?_;refine aK _ ?_;walk_nrm;try w_num
 refine dh ?_;refine cw ?_;refine bt ?_;refine aK _ ?_;walk_nrm;try w_num
 refine aK _ ?_;walk_nrm;try w_num
 refine aK _ ?_;walk_nrm;try w_num
 refine aK _ ?_;walk_nrm;try w_num
 refine Goes.stop (λl i=> ?_)
 replace a:=gC d a i
 clear i;refine⟨rfl,λv R o=> ?_⟩;obtain⟨V,m⟩:∃V:Int,V=(v:Int)+1:=⟨_,rfl⟩;obtain⟨S,f⟩:∃S:Int,S=V *KK:=⟨_,rfl⟩;have s:IntKind.u64.wrap ((v:Int) *KK+4294967296)=S:=by rw[IntKind.wrap_u64,f,m];simp only[KK];omega
 rw[<-m,<-f];rw[n]at o;refine⟨_,(stepG_add_atomic rfl rfl (by k_ne) rfl H.f_addU64 (x_addU64_n L) (x_addU64_b L) (x_addU64_x L) .u64 (x_addU64_f L) rfl rfl o.cellSt (o.thaw 0)).trans (by rw[s];rfl),?_⟩
 replace a:F (l.setCell (stA φ.Wg) (.int .u64 S))/\WgLive φ.ty φ.Wg (l.setCell (stA φ.Wg) (.int .u64 S)):=⟨t _ _ a.1,⟨_,_,by rw[n];exact o.setSt _⟩⟩
 rcases fP v with rfl|K
 ·
  have u:S=4294967296:=by rw[f,m];simp[KK]
  subst u;clear o f m s;refine⟨200,?_⟩;walk_nrm;refine aK _ ?_;walk_nrm;try w_num
  refine dh ?_;refine oH ?_;refine lQ rfl rfl H.f_uAdd rfl ?_;walk_nrm;refine aK _ ?_;walk_nrm;try w_num
  refine dh ?_;refine cw ?_;refine cw ?_;refine bt ?_;refine aK _ ?_;walk_nrm;try w_num
  refine aK _ ?_;walk_nrm;try w_num
  refine aK _ ?_;walk_nrm;try w_num
  refine aK _ ?_;walk_nrm;try w_num
  refine gY rfl rfl ?_;walk_nrm;refine gY rfl rfl ?_;walk_nrm;refine aK _ ?_;walk_nrm;try w_num
  refine dh ?_;refine iy (by first|rfl|(simp[bX];done)|(simp[bX];omega)) ?_;refine jI ?_;refine cw ?_;refine bt ?_;refine aK _ ?_;walk_nrm;try w_num
  refine aK _ ?_;walk_nrm;try w_num
  refine aK _ ?_;walk_nrm;try w_num
  refine aK _ ?_;walk_nrm;try w_num
  refine dh ?_;refine cw ?_;refine bt ?_;refine aK _ ?_;walk_nrm;try w_num
  refine aK _ ?_;walk_nrm;try w_num
  refine aK _ ?_;walk_nrm;try w_num
  refine aK _ ?_;walk_nrm;try w_num
  refine dh ?_;refine cw ?_;refine cw ?_;refine bt ?_;refine aK _ ?_;walk_nrm;try w_num
  refine aK _ ?_;walk_nrm;try w_num
  refine aK _ ?_;walk_nrm;try w_num
  refine aK _ ?_;walk_nrm;try w_num
  refine aK _ ?_;walk_nrm;try w_num
  refine aK _ ?_;walk_nrm;try w_num
  refine aK _ ?_;walk_nrm;try w_num
  refine aK _ ?_;walk_nrm;try w_num
  refine aK _ ?_;walk_nrm;try w_num
  refine aK _ ?_;walk_nrm;try w_num
  refine dh ?_;refine jS (by first|rfl|(simp[bX];done)|(simp[bX];omega)) ?_;refine bt ?_;refine aK _ ?_;walk_nrm;try w_num
  refine aK _ ?_;walk_nrm;try w_num
  refine aK _ ?_;walk_nrm;try w_num
  refine Goes.step rfl (λA j=> ?_)
  replace a:=gC d a j
  clear j;have c:=(WgLive.cell1 (ty:=L.tWg) (n▸a.2)).choose_spec;have q:=run_convert_to_unsafe (P:=φ.P) H.underlying_tPU32 H.underlying_tUP H.room_tU32 c;have g:=λD=>events_convert_to_unsafe (P:=φ.P) H.underlying_tPU32 H.underlying_tUP H.room_tU32 c D
  refine goes_oper_k rfl rfl (by k_ne) (λC p=> ?_);go_simp;refine p _ _ ⟨vI λe J=>by have hm:=mem_listed J;simp[go_sem,g]at hm,?_⟩;clear p C q g c;refine Goes.step rfl (λB k=> ?_)
  replace a:=gC d a k
  clear k;rw[stepG_markAt .read (by simp) rfl rfl (by k_ne) rfl H.f_raceRead (x_raceRead_n L) (x_raceRead_b L) (x_raceRead_x L) (x_raceRead_f L) (ad:=⟨φ.Wg,1,ah⟩) (by simp[bX])];simp only[goes_go];refine⟨MN _ rfl (.inl rfl),?_⟩;walk_nrm;refine dh ?_;refine cw ?_;refine cw ?_;refine bt ?_;refine aK _ ?_;walk_nrm;try w_num
  refine aK _ ?_;walk_nrm;try w_num
  refine dh ?_;refine iy (by first|rfl|(simp[bX];done)|(simp[bX];omega)) ?_;refine jI ?_;refine cw ?_;refine cw ?_;refine bt ?_;refine aK _ ?_;walk_nrm;try w_num
  refine aK _ ?_;walk_nrm;try w_num
  refine aK _ ?_;walk_nrm;try w_num
  refine gY rfl rfl ?_;walk_nrm;refine gY rfl rfl ?_;walk_nrm;refine aK _ ?_;walk_nrm;try w_num
  refine aK _ ?_;walk_nrm;try w_num
  refine gY rfl rfl ?_;walk_nrm;refine gY rfl rfl ?_;walk_nrm;refine gY rfl rfl ?_;walk_nrm;refine gY rfl rfl ?_;walk_nrm;refine aK _ ?_;walk_nrm;try w_num
  refine dh ?_;refine iy (by first|rfl|(simp[bX];done)|(simp[bX];omega)) ?_;refine jI ?_;refine cw ?_;refine cw ?_;refine bt ?_;refine aK _ ?_;walk_nrm;try w_num
  refine aK _ ?_;walk_nrm;try w_num
  refine aK _ ?_;walk_nrm;try w_num
  refine gY rfl rfl ?_;walk_nrm;refine gY rfl rfl ?_;walk_nrm;refine aK _ ?_;walk_nrm;try w_num
  refine dh ?_;refine jS (by first|rfl|(simp[bX];done)|(simp[bX];omega)) ?_;refine oH ?_;refine Goes.stop (λr b=> ?_)
  replace a:=gC d a b
  clear b;refine⟨rfl,_,stepG_unwind_entry (v:=.tuple #[]) (evs:=#[gS .enable]) rfl H.f_enable (x_enable_n L) (x_enable_b L) (x_enable_x L) (x_enable_f L) (by simp[Extern.Race.none_]) (by simp[gS]) (by simp[gS]),mT+1,?_⟩;refine qi rfl rfl H.f_add rfl ?_;exact x _ a.1 a.2
 ·
  have M:S / 4294967296=V:=by rw[f];simp only[KK];omega
  have N:bits .and .u64 S 2147483648=0:=by rw[f,m];have:=st_flag (v+1) 0 (by omega) (by omega);simpa[KK]using this
  have O:bits .and .u64 S 2147483647=0:=by rw[f,m];have:=st_waiters (v+1) 0 (by omega) (by omega);simpa[KK]using this
  have Q:IntKind.i32.wrap V=V:=by rw[IntKind.wrap_i32];omega
  have E:1<V:=by omega
  have I:V<2147483648:=by omega
  have T:(V==1)=aq:=by simp;omega
  have U:decide (V=1)=aq:=decide_eq_false (by omega);have W:decide (V<0)=aq:=decide_eq_false (by omega);have X:decide (0<V)=ak:=decide_eq_true (by omega);have Y:(V==0)=aq:=by simp;omega
  have Z:decide (V=0)=aq:=decide_eq_false (by omega);clear o f m s;refine⟨200,?_⟩;walk_nrm;refine aK _ ?_;walk_nrm;try w_num
  refine dh ?_;refine oH ?_;refine lQ rfl rfl H.f_uAdd rfl ?_;walk_nrm;refine aK _ ?_;walk_nrm;try w_num
  refine dh ?_;refine cw ?_;refine cw ?_;refine bt ?_;refine aK _ ?_;walk_nrm;try w_num
  refine aK _ ?_;walk_nrm;try w_num
  refine aK _ ?_;walk_nrm;try w_num
  refine aK _ ?_;walk_nrm;try w_num
  refine gY rfl rfl ?_;walk_nrm;refine gY rfl rfl ?_;walk_nrm;refine aK _ ?_;walk_nrm;try w_num
  refine dh ?_;refine iy (by first|rfl|(simp[bX];done)|(simp[bX];omega)) ?_;refine jI ?_;refine cw ?_;refine bt ?_;refine aK _ ?_;walk_nrm;try w_num
  refine aK _ ?_;walk_nrm;try w_num
  refine aK _ ?_;walk_nrm;try w_num
  refine aK _ ?_;walk_nrm;try w_num
  refine dh ?_;refine cw ?_;refine bt ?_;refine aK _ ?_;walk_nrm;try w_num
  refine aK _ ?_;walk_nrm;try w_num
  refine aK _ ?_;walk_nrm;try w_num
  refine aK _ ?_;walk_nrm;try w_num
  refine dh ?_;refine cw ?_;refine cw ?_;refine bt ?_;refine aK _ ?_;walk_nrm;try w_num
  refine aK _ ?_;walk_nrm;try w_num
  refine aK _ ?_;walk_nrm;try w_num
  refine aK _ ?_;walk_nrm;try w_num
  refine aK _ ?_;walk_nrm;try w_num
  refine aK _ ?_;walk_nrm;try w_num
  refine aK _ ?_;walk_nrm;try w_num
  refine aK _ ?_;walk_nrm;try w_num
  refine aK _ ?_;walk_nrm;try w_num
  refine aK _ ?_;walk_nrm;try w_num
  refine dh ?_;refine iy (by first|rfl|(simp[bX];done)|(simp[bX];omega)) ?_;refine jI ?_;refine cw ?_;refine cw ?_;refine bt ?_;refine aK _ ?_;walk_nrm;try w_num
  refine aK _ ?_;walk_nrm;try w_num
  refine dh ?_;refine iy (by first|rfl|(simp[bX];done)|(simp[bX];omega)) ?_;refine jI ?_;refine cw ?_;refine cw ?_;refine bt ?_;refine aK _ ?_;walk_nrm;try w_num
  refine aK _ ?_;walk_nrm;try w_num
  refine aK _ ?_;walk_nrm;try w_num
  refine gY rfl rfl ?_;walk_nrm;refine gY rfl rfl ?_;walk_nrm;refine aK _ ?_;walk_nrm;try w_num
  refine aK _ ?_;walk_nrm;try w_num
  refine gY rfl rfl ?_;walk_nrm;refine gY rfl rfl ?_;walk_nrm;refine gY rfl rfl ?_;walk_nrm;refine gY rfl rfl ?_;walk_nrm;refine aK _ ?_;walk_nrm;try w_num
  refine dh ?_;refine iy (by first|rfl|(simp[bX];done)|(simp[bX];omega)) ?_;refine jI ?_;refine cw ?_;refine cw ?_;refine bt ?_;refine aK _ ?_;walk_nrm;try w_num
  refine aK _ ?_;walk_nrm;try w_num
  refine aK _ ?_;walk_nrm;try w_num
  refine gY rfl rfl ?_;walk_nrm;refine gY rfl rfl ?_;walk_nrm;refine aK _ ?_;walk_nrm;try w_num
  refine dh ?_;refine jS (by first|rfl|(simp[bX];done)|(simp[bX];omega)) ?_;refine oH ?_;refine Goes.stop (λr b=> ?_)
  replace a:=gC d a b
  clear b;refine⟨rfl,_,stepG_unwind_entry (v:=.tuple #[]) (evs:=#[gS .enable]) rfl H.f_enable (x_enable_n L) (x_enable_b L) (x_enable_x L) (x_enable_f L) (by simp[Extern.Race.none_]) (by simp[gS]) (by simp[gS]),mT+1,?_⟩;refine qi rfl rfl H.f_add rfl ?_;exact x _ a.1 a.2
end
section
variable [Payload] {Z:Ph} {L:WgLink} {μ:Nat->Prop}
def Dw(Z:Ph)(L:WgLink)(F:ar->Prop)(c:dj)(cs:List dj)(g:aw)(w:ar):Prop:=∃T:Array aB,g=G ((base L.wait).at ⟨T,[]⟩ [.code (L7 L),.inLoop (L7 L),.inBlock 0]) (c::cs)/\T.size=84/\T[0]? =af (.pointer (af ⟨Z.Wg,0,ah⟩))/\F w/\WgLive Z.ty Z.Wg w
variable{F:ar->Prop} {Y:aw->ar->Prop} {b₀:dj} {X:Act} {W:Array Oper} {i₀:Nat} {rest₀:List Nat} {k₀:List Item} {V:List dj} {mT:Nat}
def Mp(H:WgLib Z.P L)(j:Z.ty=L.tWg)(d:∀w w',Z.MR μ w w'->F w->F w')(E:∀w a v,a.block=Z.Wg->F w->F (w.setCell a v))(U:∀w,F w->WgLive Z.ty Z.Wg w->Z.GP μ (Ph.AtRet Y) mT (G (b₀.at (X.put ((W[i₀]?).bind (·.dst)) (.tuple #[])) (.inRegion W rest₀::k₀)) V) w)(g w)(h:Dw Z L F (b₀.at X (.inRegion W (i₀::rest₀)::k₀)) V g w):∃m,Z.GP μ (Z.AtW1 μ Y (Dw Z L F (b₀.at X (.inRegion W (i₀::rest₀)::k₀)) V)) m g w:=by
 lib_facts
 obtain⟨T,rfl,I,t0,c⟩:=h;obtain⟨v0,v1,v2,v3,v4,v5,v6,v7,v8,v9,v10,v11,v12,v13,v14,v15,v16,v17,v18,v19,v20,v21,v22,v23,v24,v25,v26,v27,v28,v29,v30,v31,v32,v33,v34,v35,v36,v37,v38,v39,v40,v41,v42,v43,v44,v45,v46,v47,v48,v49,v50,v51,v52,v53,v54,v55,v56,v57,v58,v59,v60,v61,v62,v63,v64,v65,v66,v67,v68,v69,v70,v71,v72,v73,v74,v75,v76,v77,v78,v79,v80,v81,v82,v83,rfl⟩:=array84 T I;simp only[List.getElem?_toArray,List.getElem?_cons_zero,dS]at t0;subst t0;refine⟨30,?_⟩;simp only[L7,body_wait,waitFn,bT];refine vS ?_;refine cw ?_;refine bt ?_;refine aK _ ?_;walk_nrm;try w_num
 refine aK _ ?_;walk_nrm;try w_num
 refine aK _ ?_;walk_nrm;try w_num
 refine n4 rfl rfl (by k_ne) rfl H.f_uLoad (nm_uLoad L) rfl ?_;walk_nrmf uLoadFn;refine cw ?_;refine bt ?_;refine aK _ ?_;walk_nrm;try w_num
 refine dh ?_;refine cw ?_;refine bt ?_;refine aK _ ?_;walk_nrm;try w_num
 refine aK _ ?_;walk_nrm;try w_num
 refine aK _ ?_;walk_nrm;try w_num
 refine Goes.stop (λM s=> ?_)
 replace c:=gC d c s
 clear s;refine⟨rfl,λv hv i=> ?_⟩;rw[j]at i;rcases fP v with rfl|hvp
 ·
  replace i:WgAt L.tWg Z.Wg M 0 0:=by simpa using i
  refine⟨_,stepG_load_atomic (v:=0) rfl rfl (by k_ne) rfl H.f_loadU64 (x_loadU64_n L) (x_loadU64_b L) (x_loadU64_x L) .u64 (x_loadU64_f L) rfl i.cellSt,λ_=>⟨60,?_⟩,λh=>absurd rfl h⟩;clear i;walk_nrm;refine aK _ ?_;walk_nrm;try w_num
  refine dh ?_;refine oH ?_;refine lQ rfl rfl H.f_uLoad rfl ?_;walk_nrm;refine aK _ ?_;walk_nrm;try w_num
  refine dh ?_;refine cw ?_;refine bt ?_;refine aK _ ?_;walk_nrm;try w_num
  refine aK _ ?_;walk_nrm;try w_num
  refine aK _ ?_;walk_nrm;try w_num
  refine aK _ ?_;walk_nrm;try w_num
  refine dh ?_;refine cw ?_;refine bt ?_;refine aK _ ?_;walk_nrm;try w_num
  refine aK _ ?_;walk_nrm;try w_num
  refine aK _ ?_;walk_nrm;try w_num
  refine aK _ ?_;walk_nrm;try w_num
  refine dh ?_;refine cw ?_;refine cw ?_;refine bt ?_;refine aK _ ?_;walk_nrm;try w_num
  refine aK _ ?_;walk_nrm;try w_num
  refine dh ?_;refine jS (by first|rfl|(simp[bX];done)|(simp[bX];omega)) ?_;refine cw ?_;refine jS (by first|rfl|(simp[bX];done)|(simp[bX];omega)) ?_;refine cw ?_;refine bt ?_;refine Goes.stop (λO o=> ?_)
  replace c:=gC d c o
  clear o;refine⟨rfl,_,stepG_mark0 .enable (by simp) rfl rfl (by k_ne) rfl H.f_enable (x_enable_n L) (x_enable_b L) (x_enable_x L) (x_enable_f L),14,?_⟩;walk_nrm;refine dh ?_;refine bt ?_;refine aK _ ?_;walk_nrm;try w_num
  refine Goes.step rfl (λQ p=> ?_)
  replace c:=gC d c p
  clear p;have b:=(WgLive.cell0 (ty:=L.tWg) (j▸c.2)).choose_spec;have l:=run_convert_to_unsafe (P:=Z.P) H.underlying_tWgP H.underlying_tUP H.room_tWg b;have f:=λD=>events_convert_to_unsafe (P:=Z.P) H.underlying_tWgP H.underlying_tUP H.room_tWg b D
  refine goes_oper_k rfl rfl (by k_ne) (λC k=> ?_);go_simp;refine k _ _ ⟨vI λe J=>by have hm:=mem_listed J;simp[go_sem,f]at hm,?_⟩;clear k C l f b;refine Goes.stop (λR q=> ?_)
  replace c:=gC d c q
  clear q;refine⟨rfl,_,stepG_markAt .acquire (by simp) rfl rfl (by k_ne) rfl H.f_acquire (x_acquire_n L) (x_acquire_b L) (x_acquire_x L) (x_acquire_f L) (by simp[bX,stA]),⟨mT+20,?_⟩⟩;walk_nrm;refine dh ?_;refine cw ?_;refine cw ?_;refine bt ?_;refine aK _ ?_;walk_nrm;try w_num
  refine aK _ ?_;walk_nrm;try w_num
  refine aK _ ?_;walk_nrm;try w_num
  refine aK _ ?_;walk_nrm;try w_num
  refine aK _ ?_;walk_nrm;try w_num
  refine aK _ ?_;walk_nrm;try w_num
  refine aK _ ?_;walk_nrm;try w_num
  refine aK _ ?_;walk_nrm;try w_num
  refine gY rfl rfl ?_;walk_nrm;refine gY rfl rfl ?_;walk_nrm;refine aK _ ?_;walk_nrm;try w_num
  refine dh ?_;refine iy (by first|rfl|(simp[bX];done)|(simp[bX];omega)) ?_;refine jI ?_;refine oH ?_;refine qi rfl rfl H.f_wait rfl ?_;exact Goes.mono (U _ c.1 c.2) (by omega)
 ·
  obtain⟨S,B⟩:∃S:Int,(v:Int) *KK=S:=⟨_,rfl⟩;have a1:S / 4294967296=(v:Int):=by rw[<-B];simp only[KK];omega
  have b1:bits .and .u64 S 2147483648=0:=by rw[<-B];have:=st_flag v 0 (by omega) (by omega);simpa[KK]using this
  have b2:bits .and .u64 S 2147483647=0:=by rw[<-B];have:=st_waiters v 0 (by omega) (by omega);simpa[KK]using this
  have c1:IntKind.i32.wrap (v:Int)=(v:Int):=by rw[IntKind.wrap_i32];omega
  have w1:IntKind.u64.wrap (S+1)=S+1:=by rw[IntKind.wrap_u64,<-B];simp only[KK];omega
  have q3:decide ((v:Int)<0)=aq:=decide_eq_false (by omega);have q4:decide (0<(v:Int))=ak:=decide_eq_true (by omega);have q5:((v:Int)==0)=aq:=by simp;omega
  have q6:decide ((v:Int)=0)=aq:=decide_eq_false (by omega);have q7:decide (v=0)=aq:=decide_eq_false (by omega);have q8:¬v=0:=by omega
  rw[B]at i;refine⟨_,stepG_load_atomic (v:=S) rfl rfl (by k_ne) rfl H.f_loadU64 (x_loadU64_n L) (x_loadU64_b L) (x_loadU64_x L) .u64 (x_loadU64_f L) rfl i.cellSt,λh0=>absurd h0 (by omega),λ_=>⟨60,?_⟩⟩;clear i;walk_nrm;refine aK _ ?_;walk_nrm;try w_num
  refine dh ?_;refine oH ?_;refine lQ rfl rfl H.f_uLoad rfl ?_;walk_nrm;refine aK _ ?_;walk_nrm;try w_num
  refine dh ?_;refine cw ?_;refine bt ?_;refine aK _ ?_;walk_nrm;try w_num
  refine aK _ ?_;walk_nrm;try w_num
  refine aK _ ?_;walk_nrm;try w_num
  refine aK _ ?_;walk_nrm;try w_num
  refine dh ?_;refine cw ?_;refine bt ?_;refine aK _ ?_;walk_nrm;try w_num
  refine aK _ ?_;walk_nrm;try w_num
  refine aK _ ?_;walk_nrm;try w_num
  refine aK _ ?_;walk_nrm;try w_num
  refine dh ?_;refine cw ?_;refine cw ?_;refine bt ?_;refine aK _ ?_;walk_nrm;try w_num
  refine aK _ ?_;walk_nrm;try w_num
  refine dh ?_;refine iy (by first|rfl|(simp[bX];done)|(simp[bX];omega)) ?_;refine jI ?_;refine cw ?_;refine bt ?_;refine aK _ ?_;walk_nrm;try w_num
  refine aK _ ?_;walk_nrm;try w_num
  refine aK _ ?_;walk_nrm;try w_num
  refine aK _ ?_;walk_nrm;try w_num
  refine aK _ ?_;walk_nrm;try w_num
  refine aK _ ?_;walk_nrm;try w_num
  refine n4 rfl rfl (by k_ne) rfl H.f_uCas (nm_uCas L) rfl ?_;walk_nrmf uCasFn;refine cw ?_;refine bt ?_;refine aK _ ?_;walk_nrm;try w_num
  refine dh ?_;refine cw ?_;refine bt ?_;refine aK _ ?_;walk_nrm;try w_num
  refine aK _ ?_;walk_nrm;try w_num
  refine aK _ ?_;walk_nrm;try w_num
  refine aK _ ?_;walk_nrm;try w_num
  refine aK _ ?_;walk_nrm;try w_num
  refine Goes.stop (λz t=> ?_)
  replace c:=gC d c t
  clear t;refine⟨rfl,λv' hv' i=>⟨λe=> ?_,λe=> ?_⟩⟩
  ·
   subst e;rw[j]at i;rw[B]at i|-;refine⟨_,(stepG_cas_hit (v:=S) (n:=S+1) rfl rfl (by k_ne) rfl H.f_casU64 (x_casU64_n L) (x_casU64_b L) (x_casU64_x L) .u64 (x_casU64_f L) rfl rfl rfl i.cellSt (i.thaw 0)).trans (by rfl),70,?_⟩
   replace c:F (z.setCell (stA Z.Wg) (.int .u64 (S+1)))/\WgLive Z.ty Z.Wg (z.setCell (stA Z.Wg) (.int .u64 (S+1))):=⟨E _ _ _ rfl c.1,⟨_,_,by rw[j];exact i.setSt _⟩⟩
   clear i;walk_nrm;refine aK _ ?_;walk_nrm;try w_num
   refine dh ?_;refine oH ?_;refine lQ rfl rfl H.f_uCas rfl ?_;walk_nrm;refine dh ?_;refine jS (by first|rfl|(simp[bX];done)|(simp[bX];omega)) ?_;refine cw ?_;refine cw ?_;refine bt ?_;refine aK _ ?_;walk_nrm;try w_num
   refine aK _ ?_;walk_nrm;try w_num
   refine aK _ ?_;walk_nrm;try w_num
   refine aK _ ?_;walk_nrm;try w_num
   refine dh ?_;refine jS (by first|rfl|(simp[bX];done)|(simp[bX];omega)) ?_;refine bt ?_;refine aK _ ?_;walk_nrm;try w_num
   refine aK _ ?_;walk_nrm;try w_num
   refine aK _ ?_;walk_nrm;try w_num
   refine Goes.step rfl (λN r=> ?_)
   replace c:=gC d c r
   clear r;have b:=(WgLive.cell1 (ty:=L.tWg) (j▸c.2)).choose_spec;have l:=run_convert_to_unsafe (P:=Z.P) H.underlying_tPU32 H.underlying_tUP H.room_tU32 b;have f:=λD=>events_convert_to_unsafe (P:=Z.P) H.underlying_tPU32 H.underlying_tUP H.room_tU32 b D
   refine goes_oper_k rfl rfl (by k_ne) (λC k=> ?_);go_simp;refine k _ _ ⟨vI λe J=>by have hm:=mem_listed J;simp[go_sem,f]at hm,?_⟩;clear k C l f b;refine Goes.step rfl (λada u=> ?_)
   replace c:=gC d c u
   clear u;rw[stepG_markAt .write (by simp) rfl rfl (by k_ne) rfl H.f_raceWrite (x_raceWrite_n L) (x_raceWrite_b L) (x_raceWrite_x L) (x_raceWrite_f L) (ad:=⟨Z.Wg,1,ah⟩) (by simp[bX])];simp only[goes_go];refine⟨MN _ rfl (.inr rfl),?_⟩;walk_nrm;refine dh ?_;refine cw ?_;refine bt ?_;refine aK _ ?_;walk_nrm;try w_num
   refine dh ?_;refine cw ?_;refine cw ?_;refine bt ?_;refine aK _ ?_;walk_nrm;try w_num
   refine aK _ ?_;walk_nrm;try w_num
   refine aK _ ?_;walk_nrm;try w_num
   refine aK _ ?_;walk_nrm;try w_num
   refine gY rfl rfl ?_;walk_nrm;refine aK _ ?_;walk_nrm;try w_num
   refine dh ?_;refine iy (by first|rfl|(simp[bX];done)|(simp[bX];omega)) ?_;refine jI ?_;refine cw ?_;refine bt ?_;refine aK _ ?_;walk_nrm;try w_num
   refine aK _ ?_;walk_nrm;try w_num
   refine aK _ ?_;walk_nrm;try w_num
   refine aK _ ?_;walk_nrm;try w_num
   refine Goes.stop (λA x=> ?_)
   replace c:=gC d c x
   clear x;refine⟨rfl,rfl,λ⟨st,i⟩=>stepG_semacquire_wait rfl rfl rfl H.f_semacquire (x_semacquire_n L) (x_semacquire_b L) (x_semacquire_x L) (x_semacquire_f L) (by simp[bX,smA]) i.cellSm,λK=> ?_⟩;rw[j]at K;refine⟨_,(stepG_semacquire (n:=1) rfl rfl (by k_ne) rfl H.f_semacquire (x_semacquire_n L) (x_semacquire_b L) (x_semacquire_x L) (x_semacquire_f L) (by simp[bX,smA]) K.cellSm (by k_ne) (K.thaw 1)).trans (by rfl),30,?_⟩
   replace c:F (A.setCell (smA Z.Wg) (.int .u32 0))/\WgLive Z.ty Z.Wg (A.setCell (smA Z.Wg) (.int .u32 0)):=⟨E _ _ _ rfl c.1,⟨_,_,by rw[j];exact K.setSm 0⟩⟩
   clear K;walk_nrm;refine dh ?_;refine cw ?_;refine bt ?_;refine aK _ ?_;walk_nrm;try w_num
   refine aK _ ?_;walk_nrm;try w_num
   refine aK _ ?_;walk_nrm;try w_num
   refine n4 rfl rfl (by k_ne) rfl H.f_uLoad (nm_uLoad L) rfl ?_;walk_nrmf uLoadFn;refine cw ?_;refine bt ?_;refine aK _ ?_;walk_nrm;try w_num
   refine dh ?_;refine cw ?_;refine bt ?_;refine aK _ ?_;walk_nrm;try w_num
   refine aK _ ?_;walk_nrm;try w_num
   refine aK _ ?_;walk_nrm;try w_num
   refine Goes.stop (λadb y=> ?_)
   replace c:=gC d c y
   clear y;refine⟨rfl,λi=> ?_⟩;rw[j]at i;refine⟨_,stepG_load_atomic (v:=0) rfl rfl (by k_ne) rfl H.f_loadU64 (x_loadU64_n L) (x_loadU64_b L) (x_loadU64_x L) .u64 (x_loadU64_f L) rfl i.cellSt,30,?_⟩;clear i;walk_nrm;refine aK _ ?_;walk_nrm;try w_num
   refine dh ?_;refine oH ?_;refine lQ rfl rfl H.f_uLoad rfl ?_;walk_nrm;refine aK _ ?_;walk_nrm;try w_num
   refine aK _ ?_;walk_nrm;try w_num
   refine dh ?_;refine cw ?_;refine jS (by first|rfl|(simp[bX];done)|(simp[bX];omega)) ?_;refine cw ?_;refine bt ?_;refine Goes.stop (λO o=> ?_)
   replace c:=gC d c o
   clear o;refine⟨rfl,_,stepG_mark0 .enable (by simp) rfl rfl (by k_ne) rfl H.f_enable (x_enable_n L) (x_enable_b L) (x_enable_x L) (x_enable_f L),14,?_⟩;walk_nrm;refine dh ?_;refine bt ?_;refine aK _ ?_;walk_nrm;try w_num
   refine Goes.step rfl (λQ p=> ?_)
   replace c:=gC d c p
   clear p;have b:=(WgLive.cell0 (ty:=L.tWg) (j▸c.2)).choose_spec;have l:=run_convert_to_unsafe (P:=Z.P) H.underlying_tWgP H.underlying_tUP H.room_tWg b;have f:=λD=>events_convert_to_unsafe (P:=Z.P) H.underlying_tWgP H.underlying_tUP H.room_tWg b D
   refine goes_oper_k rfl rfl (by k_ne) (λC k=> ?_);go_simp;refine k _ _ ⟨vI λe J=>by have hm:=mem_listed J;simp[go_sem,f]at hm,?_⟩;clear k C l f b;refine Goes.stop (λR q=> ?_)
   replace c:=gC d c q
   clear q;refine⟨rfl,_,stepG_markAt .acquire (by simp) rfl rfl (by k_ne) rfl H.f_acquire (x_acquire_n L) (x_acquire_b L) (x_acquire_x L) (x_acquire_f L) (by simp[bX,stA]),⟨mT+20,?_⟩⟩;walk_nrm;refine dh ?_;refine cw ?_;refine cw ?_;refine bt ?_;refine aK _ ?_;walk_nrm;try w_num
   refine dh ?_;refine iy (by first|rfl|(simp[bX];done)|(simp[bX];omega)) ?_;refine jI ?_;refine oH ?_;refine qi rfl rfl H.f_wait rfl ?_;exact Goes.mono (U _ c.1 c.2) (by omega)
  ·
   rw[j]at i;refine⟨_,stepG_cas_miss (v:=(v':Int) *KK) (old:=S) (n:=S+1) rfl rfl (by k_ne) rfl H.f_casU64 (x_casU64_n L) (x_casU64_b L) (x_casU64_x L) .u64 (x_casU64_f L) rfl rfl rfl i.cellSt (i.thaw 0) (by rw[<-B];simp only[KK];omega),20,?_⟩;clear i;walk_nrm;repeat(first
    |refine cw ?_
    |refine dh ?_
    |(refine xn rfl ?_;simp only[aU,ax,aM,Nat.reduceAdd,bN,bB,List.range.loop])
    |refine jI ?_
    |refine vS ?_
    |refine Ac ?_
    |refine MY ?_
    |refine oH ?_
    |refine MX rfl ?_
    |(refine n4 rfl rfl (by k_ne) rfl H.f_uLoad (nm_uLoad L) rfl ?_;walk_nrmf uLoadFn)
    |(refine n4 rfl rfl (by k_ne) rfl H.f_uCas (nm_uCas L) rfl ?_;walk_nrmf uCasFn)
    |(refine lQ rfl rfl H.f_uLoad rfl ?_;walk_nrm)
    |(refine lQ rfl rfl H.f_uCas rfl ?_;walk_nrm)
    |(refine k9 rfl (λ_=>stepG_entry_pure (.bool aq) rfl rfl (by k_ne) rfl H.f_inBubble (x_inBubble_n L) (x_inBubble_b L) (x_inBubble_x L) (x_inBubble_f L)) ?_;walk_nrm)
    |(refine gY rfl rfl ?_;walk_nrm)
    |(refine jS (by first|rfl|(simp[bX];done)|(simp[bX];omega)) ?_)
    |(refine iy (by first|rfl|(simp[bX];done)|(simp[bX];omega)) ?_)
    |(refine aK _ ?_;walk_nrm;try w_num))
   refine D6 ?_;refine Goes.stop (λN r=> ?_);exact⟨_,rfl,by simp,by simp,gC d c r⟩
end
section
variable [Payload] {φ:Ph} {L:WgLink} {μ:Nat->Prop}
variable{F:ar->Prop} {AnchW:(Nat->Prop)->aw->ar->Prop} {b₀:dj} {a₀:Act} {ops₀:Array Oper} {i₀:Nat} {rest₀:List Nat} {k₀:List Item} {cs:List dj}
def Mq(H:WgLib φ.P L)(b:∀w e,φ.MR μ w e->F w->F e)(i:∀g w,Dw φ L F (b₀.at a₀ (.inRegion ops₀ (i₀::rest₀)::k₀)) cs g w->AnchW μ g w)(w)(d:F w/\WgLive φ.ty φ.Wg w):φ.GP μ (φ.AtKd μ (AnchW μ)) 3 (G ((base L.wait).at ⟨#[.pointer (af ⟨φ.Wg,0,ah⟩)]++dE 83 undef,[]⟩ [.code (body_wait L)]) (b₀.at a₀ (.inRegion ops₀ (i₀::rest₀)::k₀)::cs)) w:=by
 lib_facts
 simp only[body_wait,waitFn,bT,ed,eh,e8,ez,de,eD];refine cw ?_;refine jS rfl ?_;refine bt ?_;refine Goes.stop (λf a=> ?_)
 replace d:=gC b d a
 clear a;refine⟨rfl,_,stepG_mark0 .disable (by simp) rfl rfl (by k_ne) rfl H.f_disable (x_disable_n L) (x_disable_b L) (x_disable_x L) (x_disable_f L),3,?_⟩;walk_nrm;refine dh ?_;refine vS ?_;refine MY ?_;exact Goes.stop (λh c=>i _ _ ⟨_,rfl,by simp,by simp,gC b d c⟩)
end
end Rel
section
open Go.RowKit Go.ChangeShapes Go.WideShapes Go.ChangeAt Go.Deep
def SD:ownKnob Tryz.prog.godebug=ah:=by kernel_rfl
def R5:laidOutB ai=ak:=by kernel_rfl
end
section
open Go.RowKit
structure cT(F:Nat->Prop) (w w':ar):Prop where
 os:w'.os=w.os
 tape:w'.tape=w.tape
 output:w'.output=w.output
 size:w.heap.size<=w'.heap.size
 block:∀k,k<w.heap.size->¬F k->w'.heap[k]? =w.heap[k]?
namespace cT
variable{F G:Nat->Prop} {w w' Z:ar}
def refl:cT F w w:=⟨rfl,rfl,rfl,ao _,λ_ _ _=>rfl⟩
def trans(h:cT F w w')(a:cT F w' Z):cT F w Z:=⟨a.os.trans h.os,a.tape.trans h.tape,a.output.trans h.output,bD h.size a.size,λk c b=>(a.block k (bQ c h.size) b).trans (h.block k c b)⟩
def trans'(h:cT F w w')(a:cT G w' Z)(d:∀k,k<w.heap.size->G k->F k):cT F w Z:=⟨a.os.trans h.os,a.tape.trans h.tape,a.output.trans h.output,bD h.size a.size,λk b c=>(a.block k (bQ b h.size) λe=>c (d k b e)).trans (h.block k b c)⟩
def mono(h:cT F w w')(c:∀k,k<w.heap.size->F k->G k):cT G w w':=⟨h.os,h.tape,h.output,h.size,λk a b=>h.block k a λd=>b (c k a d)⟩
def fJ(h:Below w.heap.size w w'):cT F w w':=⟨h.os,h.tape,h.output,h.size,λk a _=>h.block k a⟩
def below(h:cT F w w'){B}(c:B<=w.heap.size)(a:∀k,k<w.heap.size->F k->B<=k):Below B w w':=⟨h.os,h.tape,h.output,h.size,λk d=>h.block k (by omega) λb=>absurd (a k (by omega) b) (by omega)⟩
def grown{row}(h:w.grownBy w' row)(a:∀k,row=af k->F k):cT F w w':=⟨h.os,h.tape,h.output,h.size,λk c b=>h.block k c λe=>b (a k e.symm)⟩
def setCell(h:cT F w w'){g}(a:F g\/w.heap.size<=g)(o v):cT F w (w'.setCell ⟨g,o,ah⟩ v):=⟨h.os,h.tape,h.output,by simpa using h.size,λk c b=>(Below.heap_setCell w' ⟨g,o,ah⟩ v k (by rintro rfl;rcases a with a|a;exact b a;exact absurd c (by omega))).trans (h.block k c b)⟩
def drew(h:cT F w w'):cT F w w'.drew:=⟨h.os,h.tape,h.output,h.size,h.block⟩
def alloc(h:cT F w w')(o):cT F w (w'.alloc o):=⟨h.os,h.tape,h.output,by simp;have:=h.size;omega,λk b a=>(Below.heap_alloc w' o k (by have:=h.size;omega)).trans (h.block k b a)⟩
def blk(h:cT F w w'){g t a}(b:di w g t a)(c:¬F g):di w' g t a:=(h.block g b.lt c).trans b
def own(h:cT F w w'){B e size n v f}(d:w.ownsRow B e size v n f)(l:∀k,v.ownBlock=af k->¬F k):w'.ownsRow B e size v n f:=by refine⟨d.1,?_⟩;rcases d.2 with i|⟨g,b,c,rfl,j,a,r⟩;exact bq i;exact cc ⟨g,b,c,rfl,j,(h.block g (aC.1 a).1 (l g rfl)).trans a,r⟩
end cT
def aP{w:ar}{B e size n v j}(h:w.ownsRow B e size v n j):∃A c,v=.slice A n c/\n<=c/\c<=maxLen/\(0<n->∃g,A=af ⟨g,0,ah⟩):=by rcases h.2 with⟨rfl,d⟩|⟨g,a,b,rfl,_,_,f,i,_⟩;exact⟨ah,0,by rw[d],by omega,by decide,λh=>by omega⟩;exact⟨_,a,rfl,f,i,λ_=>⟨g,rfl⟩⟩
def lA{w B e size n c g i}(h:w.ownsRow B e size (.slice (af ⟨g,0,ah⟩) n c) n i){k}(v:k<n):row? w g (k *size) size=af ((i.drop (k *size)).take size).toArray:=by obtain⟨s,l|⟨r,d,j,a,_,o,t,_,u,m⟩⟩:=h;cases l.1;injection a with a p q;injection a with a;injection a with a;subst a;unfold row?;rw[o];simp only;have f:(k+1) *size<=d *size:=fh _ (by omega);have b:(k+1) *size<=n *size:=fh _ (by omega);rw[kh,je]at f b;rw[if_pos (by omega)];congr 1;apply oq;rw[Array.toList_extract,List.extract_eq_take_drop,gV,<-m];simp only[List.drop_take,List.take_take];congr 1;omega
def dv{P}{w:ar}{q g o a Q}(C:o.guard=ah)(s x t)(K:o.op=.call {callee:=.builtin .append,args:=#[s,x],argTypes:=#[t,t]})(d e i z size c)(M:P.underlying t=af (.slice e))(I:P.info? e=af i)(R:i.zero=af z)(l:i.size=size)(B:i.bytes=c)(E:z.cells.size=size)(D:0<size)(v n F)(L:a.eval s=v)(p:w.ownsRow d e size v n F)(b)(O:a.eval x=.slice (af ⟨w.heap.size,0,ah⟩) 1 1)(J:b.length=size)(G:∀u∈b,u.oneCell'=ak)(r:n+1<=maxLen)(f:(n+1) *c<=140737488355328)(A:d<=w.heap.size)(h:∀m w',w'.ownsRow d e size m (n+1) (F++b)->(w.alloc (.cells b.toArray e)).grownBy w' v.ownBlock->(m.ownBlock=v.ownBlock\/m.ownBlock=af (w.heap.size+1))->wpList P q Q g (a.put o.dst m) w'):wpList P q Q (o::g) a (w.alloc (.cells b.toArray e)):=by refine wpList_append_own_at _ C s x t K d e i z size c M I R l B E D v n F L (p.alloc _) ⟨w.heap.size,0,ah⟩ 1 1 b O (by rw[J,je]) ?_ G r f (by simp;omega) ?_;intro j u N;rw[show(⟨w.heap.size,0,ah⟩:Addr).add j=⟨w.heap.size,j,ah⟩from by unfold Addr.add;split<;>simp_all];rw[cell_of_row _ w.heap.size j b.toArray e (0,0) (heap_alloc_new w _)];simpa using N;intro m w' k H _ y;exact h m w' k H (by simpa using y)
def ns{b:Type}{size}{f:b->List aB}(c:∀x,(f x).length=size)(l:List b):(l.flatMap f).length=l.length *size:=by
 induction l with|nil=>simp|cons a l d=>rw[bJ,bm,d,c,ax,kh];omega
def lz{c:Type}{size}{f:c->List aB}(b:∀x,(f x).length=size):∀(l:List c) k h,((l.flatMap f).drop (k *size)).take size=f l[k]|a::l,0,_=>by rw[bJ,Nat.zero_mul,List.drop_zero];rw[List.take_append_of_le_length (by rw[b];exact ao _),<-b a,cq];rfl|a::l,k+1,h=>by rw[bJ,kh,je,bM,<-b a,List.drop_append,List.drop_of_length_le (by omega),de,gV,b a];exact lz b l k (by simpa using h)
def np{a:Type}{size}{f:a->List aB}(b:∀x,(f x).length=size)(l:List a)(k j h)(c:j<size):(l.flatMap f)[k *size+j]? =(f l[k])[j]?:=by rw[<-lz b l k h,gF,if_pos c,List.getElem?_drop]
def oG{c:Type}{size f}(b:∀x,(f x).length=size):∀(l:List c) k j y(u:aB) h,j<size->f y=(f l[k]).set j u->(l.flatMap f).set (k *size+j) u=(l.set k y).flatMap f|a::l,0,j,y,u,_,hj,hy=>by simp only[List.getElem_cons_zero]at hy;rw[bJ,Nat.zero_mul,bN,List.set_append_left _ _ (by rw[b];exact hj),<-hy];rfl|a::l,k+1,j,y,u,h,hj,hy=>by rw[bJ,mD _ _ (by rw[b,kh];omega),b];rw[show(k+1) *size+j-size=k *size+j from by rw[kh];omega];rw[oG b l k j y u (by simpa using h) hj (by simpa using hy)];rfl
def lS{w w' B e size n v b}(h:w.ownsRow B e size v n b)(a:Below w.heap.size w w'):w'.ownsRow B e size v n b:=h.kept (row:=ah) ⟨a.os,a.tape,a.output,a.size,λk c _=>a.block k c⟩ (by cases v.ownBlock<;>simp)
def hC(h:Int×Int):List aB:=[.int .i64 h.1,.int .i64 h.2]
def xo(h):(hC h).length=2:=rfl
def hL(h:Int×Int):List Int:=[h.1,h.2]
def Yz(h):(hL h).length=2:=rfl
def jA{c:Type}(T E:cD)(size:Nat)(a:c->List aB)(w:ar)(p:Nat)(b:List c)(F:Nat->Prop):Prop:=∃v,di w p T #[v]/\w.ownsRow 0 E size v b.length (b.flatMap a)/\v.ownBlock≠af p/\F p/\∀k,v.ownBlock=af k->F k
section
variable{Z:Type} {T E:cD} {size:Nat} {Y:Z->List aB} {w w' X:ar} {p:Nat} {W:List Z} {F G:Nat->Prop}
def jA.only(h:jA T E size Y w p W F)(d:cT G w w')(c:∀k,F k->¬G k):jA T E size Y w' p W F:=by obtain⟨v,e,f,g,a,b⟩:=h;exact⟨v,d.blk e (c p a),d.own f λk i=>c k (b k i),g,a,b⟩
def jA.mono(h:jA T E size Y w p W F)(c:∀k,k<w.heap.size->F k->G k):jA T E size Y w p W G:=by obtain⟨v,a,b,e,f,g⟩:=h;exact⟨v,a,b,e,c p a.lt f,λk d=>c k (b.lt k d).2 (g k d)⟩
def jA.after(h:jA T E size Y w p W F)(a:Below w.heap.size w w'):jA T E size Y w' p W F:=by obtain⟨v,b,c,d,e,f⟩:=h;exact⟨v,b.after a,c.kept (row:=ah) ⟨a.os,a.tape,a.output,a.size,λk g _=>a.block k g⟩ (by cases v.ownBlock<;>simp),d,e,f⟩
def jA.slice(h:jA T E size Y w p W F):∃A c,w.cell? ⟨p,0,ah⟩=af (.slice A W.length c)/\w.frozen? ⟨p,0,ah⟩=aq/\W.length<=c/\c<=maxLen/\w.ownsRow 0 E size (.slice A W.length c) W.length (W.flatMap Y)/\(er A W.length c).ownBlock≠af p/\F p/\∀k,(er A W.length c).ownBlock=af k->F k:=by obtain⟨v,d,e,f,g,i⟩:=h;obtain⟨A,c,rfl,a,b,j⟩:=aP e;exact⟨A,c,d.cell 0,d.frozen 0,a,b,e,f,g,i⟩
end
def xR:(Tryz.prog.info? 172).map (·.size)=af 2:=by kernel_rfl
@[go_sem ↓] theorem Xm(v):eo 172 v=fG 172 v:=rfl
@[go_sem ↓] theorem Wn(p v):fg 172 p v=dq 172 p v:=rfl
@[go_sem] theorem Uc(w:ar)(g o:Nat):(fG 172 (.pointer (af ⟨g,o,ah⟩))).run ai w=match row? w g o 2 with|some a=>.ok (.agg a) w|none=>(iX 172 ⟨g,o,ah⟩).run ai w:=fV w _ g o 2 _ underlying172 rfl xR
def Pn(w:ar)(g o:Nat)(a b:aB):ar:=
 {w with heap:=w.heap.modify g λ
    |.cells c e d=>.cells ((c.setIfInBounds o a).setIfInBounds (o+1) b) e d|x=>x}
def I5(w g o a b):Pn w g o a b=(w.setCell ⟨g,o,ah⟩ a).setCell ⟨g,o+1,ah⟩ b:=by
 unfold Pn World.setCell;simp only;congr 1;apply Array.ext_getElem?;intro k;simp only[bp];split;cases w.heap[k]? with|none=>rfl|some x=>cases x<;>rfl
 rfl
def Wi(c:Array aB)(o a b)(h:o+2<=c.size):(List.take o c.toList++a::b::List.drop (o+2) c.toList).toArray=(c.setIfInBounds o a).setIfInBounds (o+1) b:=by
 apply oq;apply kM;intro j;have e:(List.take o c.toList).length=o:=by rw[cR];simp;omega
 rw[Array.toList_setIfInBounds,Array.toList_setIfInBounds,fE,fE,cx];simp only[Array.length_toList];rcases Nat.lt_trichotomy j o with d|d|d;rw[List.getElem?_append_left (by omega),if_neg (by omega),if_neg (by omega),gF,if_pos d];rw[nE (by omega),e,d,Nat.sub_self,if_neg (by omega),if_pos rfl,if_pos (by omega)];rfl;rw[nE (by omega),e];by_cases f:j=o+1;rw[f,if_pos rfl,if_pos (by omega),show o+1-o=1 from by omega];rfl;rw[if_neg (by omega),if_neg (by omega),show j-o=(j-o-2)+2 from by omega,eQ,eQ,List.getElem?_drop,show o+2+(j-o-2)=j from by omega]
@[go_sem] theorem Te(w g o x b):(dq 172 (.pointer (af ⟨g,o,ah⟩)) (.agg #[.int .i64 x,.bool b])).run ai w=if fits w g o 2=ak then .ok () (Pn w g o (.int .i64 x) (.bool b))else(ey 172 g o (.agg #[.int .i64 x,.bool b])).run ai w:=by
 split;rename_i c;unfold fits at c;split at c;rename_i d e j;have n:o+2<=d.size:=by simpa using c
 cases f:Tryz.prog.info? 172 with
 |none=>have:=xR;simp[f]at this|some i=>
  have p:i.size=2:=by have:=xR;simpa[f]using this
  have h:=run_storeCells_at ai g o e [.int .i64 x,.bool b] 0 d w j (by simp;omega) (by intro v l;simp at l;rcases l with rfl|rfl<;>rfl);have a:(#[aD .i64 x,.bool b]:Array aB).size=i.size:=by rw[p];rfl
  simp only[dq,fg,Instr.sureAddr,storeVar,eJ,sizeOf,typeInfo,run_program,gG,f,Sem.run_pure,Value.cells,a,ne_eq,not_true_eq_false,if_false,h];congr 1;unfold Pn World.setRow;congr 1;apply Array.ext_getElem?;intro k;rw[bp,bp];split;rename_i m;subst m;rw[j];simp;exact Wi d o _ _ n;rfl
 cases c;rfl
def Ri(a c b d w):(binOp .eql 172 (.agg #[.int .i64 a,.bool b]) (.agg #[.int .i64 c,.bool d])).run ai w=.ok (.bool (decide (a=c)&&decide (b=d))) w:=by
 have g:Tryz.prog.underlying 172=af (.struct (Tryz.prog.fieldsOf 172)):=by kernel_rfl
 have hp:Tryz.prog.stoodInHeld 172=aq:=by kernel_rfl
 have u3:=underlying3;have u4:=underlying4;have h:=Tryz.isAgg3;have j:=Tryz.sizeOf3;have i:=Tryz.isAgg4;have k:=Tryz.sizeOf4;rw[run_eql_struct,show(10000:Nat)=9999+1 from rfl,run_equalIn_agg w 9999 172 _ _ g hp];simp only[Program.fieldsOf,underlying172];go_simp;by_cases e:a=c<;>by_cases f:b=d<;>simp[e,f]
def uF(x:Int×Bool):List aB:=[.int .i64 x.1,.bool x.2]
def mR(x):(uF x).length=2:=rfl
def eG(w:ar)(p:Nat)(a:List (Int×Bool))(F:Nat->Prop):Prop:=∃v,di w p 170 #[v]/\w.ownsRow 0 172 2 v a.length (a.flatMap uF)/\v.ownBlock≠af p/\F p/\∀k,v.ownBlock=af k->F k
def eG.only{w w' p e F G}(h:eG w p e F)(d:cT G w w')(c:∀k,F k->¬G k):eG w' p e F:=by obtain⟨v,f,g,i,a,b⟩:=h;exact⟨v,d.blk f (c p a),d.own g λk j=>c k (b k j),i,a,b⟩
def eG.mono{w p e F G}(h:eG w p e F)(c:∀k,k<w.heap.size->F k->G k):eG w p e G:=by obtain⟨v,a,b,f,g,i⟩:=h;exact⟨v,a,b,f,c p a.lt g,λk d=>c k (b.lt k d).2 (i k d)⟩
def eG.lt{w p b F}(h:eG w p b F):p<w.heap.size:=by obtain⟨v,a,_⟩:=h;exact a.lt
def eG.facts{w p a F}(h:eG w p a F):∃A c,w.cell? ⟨p,0,ah⟩=af (.slice A a.length c)/\w.frozen? ⟨p,0,ah⟩=aq/\a.length<=c/\c<=maxLen/\w.ownsRow 0 172 2 (.slice A a.length c) a.length (a.flatMap uF)/\(er A a.length c).ownBlock≠af p/\∀k,k<a.length->∃g,A=af ⟨g,0,ah⟩/\g≠p/\F g/\g<w.heap.size/\w.frozen? ⟨g,k *2,ah⟩=aq/\w.frozen? ⟨g,k *2+1,ah⟩=aq/\fits w g (k *2) 2=ak/\row? w g (k *2) 2=af #[.int .i64 (a.getD k (0,aq)).1,.bool (a.getD k (0,aq)).2]/\w.cell? ⟨g,k *2,ah⟩=af (.int .i64 (a.getD k (0,aq)).1)/\w.cell? ⟨g,k *2+1,ah⟩=af (.bool (a.getD k (0,aq)).2):=by
 obtain⟨v,m,b,n,H,u⟩:=h;obtain⟨A,c,rfl,i,j,y⟩:=aP b;refine⟨A,c,m.cell 0,m.frozen 0,i,j,b,n,λk f=> ?_⟩;obtain⟨g,rfl⟩:=y (by omega);have l:a.getD k (0,aq)=a[k]:=by simp[bu,aj f]
 rw[l];have o:=lA b f;rw[lz mR a k f]at o;have C:k *2+2<=a.length *2:=by omega
 have z:fits w g (k *2) 2=ak:=by obtain⟨_,s|⟨G,q,r,d,_,B,t,_,x,_⟩⟩:=b;cases s.1;injection d with d D E;injection d with d;injection d with d;subst d;unfold fits;rw[B];simp;omega
 refine⟨g,rfl,λe=>n (by rw[e];rfl),u g rfl,(b.lt g rfl).2,b.frozenAt _,b.frozenAt _,z,o,?_,?_⟩;rw[b.cellAt (k *2) (by omega),<-j6 (k *2),np mR a k 0 f (by omega)];rfl;rw[b.cellAt (k *2+1) (by omega),np mR a k 1 f (by omega)];rfl
def eG.put{w p a F}(h:eG w p a F){g k c}(l:k<a.length)(o:w.cell? ⟨p,0,ah⟩=af (.slice (af ⟨g,0,ah⟩) a.length c))(x b):eG (Pn w g (k *2) (.int .i64 x) (.bool b)) p (a.set k (x,b)) F/\cT F w (Pn w g (k *2) (.int .i64 x) (.bool b)):=by
 obtain⟨v,i,m,j,n,f⟩:=h;have q:v=.slice (af ⟨g,0,ah⟩) a.length c:=by have:=i.cell 0;rw[o]at this;simpa using this.symm
 subst q;rw[I5];have r:=m.stored (k *2) (.int .i64 x);have s:=r.1.stored (k *2+1) (.bool b);have d:p≠g:=λe=>j (by rw[<-e];rfl)
 refine⟨⟨_,(i.Da d _ _).Da d _ _,?_,j,n,f⟩,(cT.refl.setCell (bq (f g rfl)) _ _).setCell (bq (f g rfl)) _ _⟩;have:=s.1;rw[<-j6 (k *2),oG mR a k 0 (x,a[k].2) (.int .i64 x) l (by omega) rfl,oG mR (a.set k (x,a[k].2)) k 1 (x,b) (.bool b) (by simpa using l) (by omega) (by simp[uF])]at this;rw[List.set_set]at this;rw[cx];exact this
def eG.live{w p a F}(h:eG w p a F){g k c}(m:k<a.length)(q:w.cell? ⟨p,0,ah⟩=af (.slice (af ⟨g,0,ah⟩) a.length c))(b):eG (w.setCell ⟨g,k *2+1,ah⟩ (.bool b)) p (a.set k ((a.getD k (0,aq)).1,b)) F/\cT F w (w.setCell ⟨g,k *2+1,ah⟩ (.bool b)):=by
 obtain⟨v,i,n,j,o,l⟩:=h;have r:v=.slice (af ⟨g,0,ah⟩) a.length c:=by have:=i.cell 0;rw[q]at this;simpa using this.symm
 subst r;have s:=n.stored (k *2+1) (.bool b);have f:p≠g:=λe=>j (by rw[<-e];rfl)
 have d:a.getD k (0,aq)=a[k]:=by simp[bu,aj m]
 refine⟨⟨_,i.Da f _ _,?_,j,o,l⟩,cT.refl.setCell (bq (l g rfl)) _ _⟩;have:=s.1;rw[oG mR a k 1 (a[k].1,b) (.bool b) m (by omega) rfl]at this;rw[cx,d];exact this
def E7(F:Nat->Prop)(w w':ar):Nat->Prop:=λk=>F k\/w.heap.size<=k/\k<w'.heap.size
structure cX where
 at_:ar->(Nat->Prop)->Prop
 frame:∀{w w':ar}{F G:Nat->Prop},at_ w F->cT G w w'->(∀k,F k->¬G k)->at_ w' F
 cut:∀{w:ar}{F G:Nat->Prop},at_ w F->(∀k,k<w.heap.size->F k->G k)->at_ w G
def Sep:List cX->ar->(Nat->Prop)->Prop
 |[],_,_=>True|A::l,w,F=>∃a b,A.at_ w a/\Sep l w b/\(∀k,a k->¬b k)/\∀k,a k\/b k->F k
section
variable{A A' B C D:cX} {l Z:List cX} {w w' w0:ar} {F G:Nat->Prop}
def Sep.frame:∀{l}{F},Sep l w F->cT G w w'->(∀k,F k->¬G k)->Sep l w' F|[],_,_,_,_=>trivial|A::l,F,⟨F1,F2,h1,h2,h3,h4⟩,ho,hd=>⟨F1,F2,A.frame h1 ho λk a=>hd k (h4 k (bq a)),Sep.frame h2 ho λk a=>hd k (h4 k (cc a)),h3,h4⟩
def Sep.cut:∀{l}{F G},Sep l w F->(∀k,k<w.heap.size->F k->G k)->Sep l w G|[],_,_,_,_=>trivial|A::l,F,G,⟨F1,F2,h1,h2,h3,h4⟩,hd=>⟨λk=>F1 k/\k<w.heap.size,λk=>F2 k/\k<w.heap.size,A.cut h1 λk c h=>⟨h,c⟩,Sep.cut h2 λk c h=>⟨h,c⟩,λk a b=>h3 k a.1 b.1,λk h=>by rcases h with h|h;exact hd k h.2 (h4 k (bq h.1));exact hd k h.2 (h4 k (cc h.1))⟩
def Sep.head(h:Sep (A::l) w F):A.at_ w F:=by obtain⟨d,e,a,f,g,b⟩:=h;exact A.cut a λk _ c=>b k (bq c)
def Sep.tail(h:Sep (A::l) w F):Sep l w F:=by obtain⟨d,e,f,a,g,b⟩:=h;exact a.cut λk _ c=>b k (cc c)
def Sep.swap(h:Sep (A::B::l) w F):Sep (B::A::l) w F:=by obtain⟨e,p,o,⟨i,f,j,m,n,c⟩,g,d⟩:=h;refine⟨i,λk=>e k\/f k,j,⟨e,f,o,m,λk a b=>g k a (c k (cc b)),λk h=>h⟩,λk a b=> ?_,λk h=> ?_⟩;rcases b with b|b;exact g k b (c k (bq a));exact n k a b;rcases h with h|h|h;exact d k (cc (c k (bq h)));exact d k (bq h);exact d k (cc (c k (cc h)))
def Sep.kE{l Z}(g:∀F,Sep l w F->Sep Z w F)(h:Sep (A::l) w F):Sep (A::Z) w F:=by obtain⟨a,b,c,d,e,f⟩:=h;exact⟨a,b,c,g _ d,e,f⟩
def Sep.perm(hp:l.Perm Z):∀{F},Sep l w F->Sep Z w F:=by
 induction hp with|nil=>exact λh=>h|cons a _ e=>exact λh=>h.kE λ_=>e|swap a b l=>exact λh=>h.swap|trans _ _ c d=>exact λh=>d (c h)
structure In(F:Nat->Prop) (w0:ar) (l:List cX) (w:ar):Prop where
 sep:Sep l w (λk=>(F k\/w0.heap.size<=k)/\k<w.heap.size)
 only:cT F w0 w
def In.mk'{F'}(h:Sep l w F')(b:∀k,k<w.heap.size->F' k->F k\/w0.heap.size<=k)(d:cT F w0 w):In F w0 l w:=⟨h.cut λk a c=>⟨b k a c,a⟩,d⟩
def In.nil(w F):In F w [] w:=⟨trivial,cT.refl⟩
def In.one(h:A.at_ w F):In F w [A] w:=⟨⟨λk=>F k/\k<w.heap.size,λ_=>False,A.cut h λk b a=>⟨a,b⟩,trivial,λ_ _ h=>h,λk h=>by rcases h with h|h;exact⟨bq h.1,h.2⟩;exact h.elim⟩,cT.refl⟩
def In.start(h:Sep l w F):In F w l w:=⟨h.cut λk b a=>⟨bq a,b⟩,cT.refl⟩
def In.perm(h:In F w0 l w)(hp:l.Perm Z):In F w0 Z w:=⟨h.sep.perm hp,h.only⟩
def In.swap(h:In F w0 (A::B::l) w):In F w0 (B::A::l) w:=⟨h.sep.swap,h.only⟩
def In.third(h:In F w0 (A::B::C::l) w):In F w0 (C::A::B::l) w:=⟨(h.sep.kE λ_=>Sep.swap).swap,h.only⟩
def In.fourth(h:In F w0 (A::B::C::D::l) w):In F w0 (D::A::B::C::l) w:=⟨((h.sep.kE λ_=>Sep.kE λ_=>Sep.swap).kE λ_=>Sep.swap).swap,h.only⟩
def In.drop(h:In F w0 (A::l) w):In F w0 l w:=⟨h.sep.tail,h.only⟩
def In.head(h:In F w0 (A::l) w):∃a,A.at_ w a:=⟨_,h.sep.head⟩
def In.size(h:In F w0 l w):w0.heap.size<=w.heap.size:=h.only.size
def In.open_(h:In F w0 (A::l) w):∃d,A.at_ w d/\(∀k,d k->(F k\/w0.heap.size<=k)/\k<w.heap.size)/\∀{w'}{A'},A'.at_ w' (E7 d w w')->cT d w w'->In F w0 (A'::l) w':=by obtain⟨⟨d,j,m,n,f,e⟩,i⟩:=h;refine⟨d,m,λk g=>e k (bq g),λ{w'}{A'} o c=> ?_⟩;refine⟨⟨_,j,o,n.frame c λk a b=>f k b a,λk a b=> ?_,λk h=> ?_⟩,i.trans' c λk g p=> ?_⟩;rcases a with a|a;exact f k a b;have:=(e k (cc b)).2;omega;have r:=c.size;have q:=i.size;rcases h with(h|h)|h;have:=e k (bq h);exact⟨this.1,by omega⟩;exact⟨cc (by omega),h.2⟩;have:=e k (cc h);exact⟨this.1,by omega⟩;have:=e k (bq p);rcases this.1 with h|h;exact h;omega
def In.new(h:In F w0 l w)(c:Below w.heap.size w w')(f:A.at_ w' (λk=>w.heap.size<=k)):In F w0 (A::l) w':=by obtain⟨j,d⟩:=h;have m:=c.size;have e:=d.size;refine⟨⟨λk=>w.heap.size<=k/\k<w'.heap.size,_,A.cut f λk i g=>⟨g,i⟩,j.frame (G:=λk=>w.heap.size<=k) ?_ λk a b=>by omega,λk a b=>by omega,λk h=> ?_⟩,d.trans (cT.fJ c)⟩;exact cT.fJ c;rcases h with h|h;exact⟨cc (by omega),h.2⟩;exact⟨h.1,by omega⟩
def In.below(h:In F w0 l w)(c:Below w.heap.size w w'):In F w0 l w':=by have e:=c.size;exact⟨(h.sep.frame (G:=λk=>w.heap.size<=k) (cT.fJ c) λk a b=>by omega).cut λk _ d=>⟨d.1,by omega⟩,h.only.trans (cT.fJ c)⟩
def In.drew(h:In F w0 l w):In F w0 l w.drew:=h.below (Below.refl _ _).drew
def In.done(h:In F w0 (A::l) w):A.at_ w (E7 F w0 w)/\cT F w0 w:=⟨A.cut h.sep.head λk _ a=>by rcases a.1 with h|h;exact bq h;exact cc ⟨h,a.2⟩,h.only⟩
def In.ko(h:In (λ_=>False) w0 l w):Below w0.heap.size w0 w:=h.only.below (ao _) λ_ _ h=>h.elim
def In.acw(h:In F w0 l w)(a:∀F,Sep l w F->Sep Z w F):In F w0 Z w:=⟨a _ h.sep,h.only⟩
def In.old(h:In F w0 l w){k}(b:k<w0.heap.size)(a:¬F k):w.heap[k]? =w0.heap[k]?:=h.only.block k b a
end
def aN(g:Nat)(t:cD)(a:Array aB):cX where
 at_ w F:=di w g t a/\F g
 frame h ho hd:=⟨ho.blk h.1 (hd _ h.2),h.2⟩
 cut h hd:=⟨h.1,hd _ h.1.lt h.2⟩
section
variable{l:List cX} {w Z:ar} {F:Nat->Prop} {g:Nat} {t:cD} {Y:Array aB}
def In.alloc(h:In F Z l w)(t Y):In F Z (aN w.heap.size t Y::l) (w.alloc (.cells Y t)):=h.new ((Below.refl _ _).alloc (ao _) _) ⟨di.new _ _ _,ao _⟩
def In.blk(h:In F Z (aN g t Y::l) w):di w g t Y:=h.sep.head.1
def In.set(h:In F Z (aN g t Y::l) w)(i v):In F Z (aN g t (Y.setIfInBounds i v)::l) (w.setCell ⟨g,i,ah⟩ v):=by obtain⟨d,⟨b,a⟩,e,c⟩:=h.open_;exact c (A':=aN g t (Y.setIfInBounds i v)) ⟨b.set i v,bq a⟩ (cT.refl.setCell (bq a) _ _)
def cT.putRow(w:ar)(g o:Nat)(a:List Int):cT (· =g) w (putRow w g o a):=⟨rfl,rfl,rfl,by rw[jD];exact ao _,λq _ b=>fF w g o a q b⟩
def In.put{b}(h:In F Z (aN g t (ints b)::l) w)(o a):In F Z (aN g t (ints (b.take o++a++b.drop (o+a.length)))::l) (putRow w g o a):=by obtain⟨i,⟨d,c⟩,j,f⟩:=h.open_;exact f (A':=aN g t _) ⟨d.put o a,bq c⟩ ((cT.putRow w g o a).mono λk _ e=>by rw[e];exact c)
def In.dY{ys}(h:In F Z (aN g t (ints ys)::l) w)(a)(b:a.length=ys.length):In F Z (aN g t (ints a)::l) (putRow w g 0 a):=by have:=h.put 0 a;rwa[List.take_zero,de,bN,b,List.drop_length,cK]at this
def In.struct(h:In F Z l w)(t b a)(c:a.length=b.length):In F Z (aN w.heap.size t (ints a)::l) (Go.Proofs.YtknejlcijdngoaaGreat.putRow (w.alloc (.cells (ints b) t)) w.heap.size 0 a):=(h.alloc t (ints b)).dY a c
end
def dN(E:cD)(size:Nat)(v:aB)(n:Nat)(b:List aB):cX where
 at_ w F:=w.ownsRow 0 E size v n b/\∀k,v.ownBlock=af k->F k
 frame h ho hd:=⟨ho.own h.1 λk a=>hd k (h.2 k a),h.2⟩
 cut h hd:=⟨h.1,λk a=>hd k (h.1.lt k a).2 (h.2 k a)⟩
def ZR{b:Type}(T E:cD)(size:Nat)(a:b->List aB)(p:Nat)(c:List b):cX where
 at_ w F:=jA T E size a w p c F
 frame h ho hd:=h.only ho hd
 cut h hd:=h.mono hd
section
variable{Z:Type} [DecidableEq Z] {l:List cX} {Y:List Z} {f:Z->cX} {F:Nat->Prop} {X w:ar}
def Ov{k g}(b:Y.Nodup)(A:cX):(Y.erase k).map (λj=>if j=k then A else g j)=(Y.erase k).map g:=by apply dF;intro j a;rw[if_neg];rintro rfl;exact(List.Nodup.not_mem_erase b) a
def In.FO(h:In F X (l++Y.map f) w)(m:Y.Nodup){k}(c:k∈Y):∃a,(f k).at_ w a/\(∀k,a k->(F k\/X.heap.size<=k)/\k<w.heap.size)/\∀w' A',A'.at_ w' (E7 a w w')->cT a w w'->In F X (l++Y.map (λj=>if j=k then A' else f j)) w':=by
 have hp:(l++Y.map f).Perm (f k::(l++(Y.erase k).map f)):=(dM l ((List.perm_cons_erase c).map f)).trans List.perm_middle
 obtain⟨a,d,e,g⟩:=(h.perm hp).open_;refine⟨a,d,e,λw' A' i n=>(g i n).perm ?_⟩;have b:(l++Y.map (λj=>if j=k then A' else f j)).Perm ((if k=k then A' else f k)::(l++(Y.erase k).map (λj=>if j=k then A' else f j))):=(dM l ((List.perm_cons_erase c).map (λj=>if j=k then A' else f j))).trans List.perm_middle
 rw[if_pos rfl,Ov m]at b;exact b.symm
def In.SY(h:In F X (l++Y.map f) w)(d:Y.Nodup){k}(c:k∈Y):∃a,(f k).at_ w a:=by obtain⟨a,b,_⟩:=h.FO d c;exact⟨a,b⟩
end
def Sep.join{w}:∀{e f}{c d},Sep e w c->Sep f w d->(∀k,c k->¬d k)->Sep (e++f) w (λk=>c k\/d k)|[],_,_,_,_,h2,_=>h2.cut λ_ _ h=>cc h|A::e,_,_,_,⟨G1,G2,g1,g2,g3,g4⟩,h2,hd=>⟨G1,_,g1,Sep.join g2 h2 (λk a b=>hd k (g4 k (cc a)) b),λk a b=>by rcases b with b|b;exact g3 k a b;exact hd k (g4 k (bq a)) b,λk h=>by rcases h with h|h|h;exact bq (g4 k (bq h));exact bq (g4 k (cc h));exact cc h⟩
def Sep.part{w}:∀{l1 l2}{F},Sep (l1++l2) w F->∃d e,Sep l1 w d/\Sep l2 w e/\(∀k,d k->¬e k)/\∀k,d k\/e k->F k
 |[],_,F,h=>⟨λ_=>False,F,trivial,h,λ_ h=>h.elim,λk h=>by rcases h with h|h;exact h.elim;exact h⟩|A::l1,l2,F,⟨G1,G2,g1,g2,g3,g4⟩=>by obtain⟨f,g,i,j,l,c⟩:=Sep.part g2;refine⟨λk=>G1 k\/f k,g,⟨G1,f,g1,i,λk a b=>g3 k a (c k (bq b)),λk h=>h⟩,j,λk a b=> ?_,λk h=> ?_⟩;rcases a with a|a;exact g3 k a (c k (cc b));exact l k a b;rcases h with(h|h)|h;exact g4 k (bq h);exact g4 k (cc (c k (bq h)));exact g4 k (cc (c k (cc h)))
def In.Rb{l F w0 w}(h:In F w0 l w):Sep l w (E7 F w0 w)/\cT F w0 w:=⟨h.sep.cut λk _ a=>by rcases a.1 with h|h;exact bq h;exact cc ⟨h,a.2⟩,h.only⟩
def BK(w:ar)(t c a b e):fits ((w.alloc (.cells (ints a) t)).alloc (.cells (ints b) c)) w.heap.size 0 a.length=ak/\fits (putRow ((w.alloc (.cells (ints a) t)).alloc (.cells (ints b) c)) w.heap.size 0 e) (w.heap.size+1) 0 b.length=ak:=by have d:=di.new (w.alloc (.cells (ints a) t)) c (ints b);rw[bZ]at d;exact⟨((di.new w t (ints a)).alloc _).fits 0 _ (by rw[aR];omega),(d.wA (g':=w.heap.size) 0 e (by omega)).fits 0 _ (by rw[aR];omega)⟩
def In.GC{F w0 w l}(h:In F w0 l w)(t c d e a b)(f:a.length=d.length)(i:b.length=e.length):In F w0 (aN (w.heap.size+1) c (ints b)::aN w.heap.size t (ints a)::l) (Go.Proofs.YtknejlcijdngoaaGreat.putRow (Go.Proofs.YtknejlcijdngoaaGreat.putRow ((w.alloc (.cells (ints d) t)).alloc (.cells (ints e) c)) w.heap.size 0 a) (w.heap.size+1) 0 b):=by have g:=(h.alloc t (ints d)).alloc c (ints e);rw[bZ]at g;exact((g.swap.dY a f).swap).dY b i
def In.fifth{F w0 w A B C D E l}(h:In F w0 (A::B::C::D::E::l) w):In F w0 (E::A::B::C::D::l) w:=⟨((h.sep.kE λ_=>Sep.kE λ_=>Sep.kE λ_=>Sep.swap).kE λ_=>Sep.kE λ_=>Sep.swap).kE (λ_=>Sep.swap)|>.swap,h.only⟩
def vF:(Tryz.prog.info? 43).map (λi=>(i.zero,i.size,i.bytes))=af (af (.agg #[.int .i64 0,.int .i64 0]),2,16):=by kernel_rfl
def yN(A n c g w B)(h:Reads w B 2 A n g)(y:∀u∈g,u.oneCell'=ak)(K:(A=ah/\n=0/\c=0)\/∃b o,A=af ⟨b,o,ah⟩)(R:n<=1000000):Calls ai 148 #[.slice A n c] w λe w'=>∃v,e=.returned v/\w'.ownsRow w.heap.size 43 2 v n g/\Below w.heap.size w w':=by
 have H:=ae h;have D:=ae y;clear h y;have z:=λw E L n c x l a=>Lib.run_eql_slice_nil (P:=ai) w 122 E a n c x l L
 have N:=λw n c x l a=>z w _ underlying122 n c x l a
 clear z;rcases K with⟨rfl,rfl,rfl⟩|⟨b,o,rfl⟩
 ·have S:Hid (g=[]):=by have:=H.out.1;exact dw (by omega)
  clear R;go_enter func148,ntmps148;go_wp2_with fail;go_ret;exact⟨_,rfl,by rw[S.out];exact eC _ _ _ _,Below.refl _ _⟩
 ·skip
  have d:Hid (∀j u,g[j]? =af u->w.cell? ⟨b,o+j,ah⟩=af u):=by unfold Hid;intro j u i;have q:=(bg.1 i).1;have Q:=H.out.1;obtain⟨U,W,e,_,M⟩:=H.out.2 (by rcases fP n with h|h;rw[h]at Q;omega;exact h);injection e with e;injection e with I J V;subst I;subst J;exact M j u i
  obtain⟨T,m,r,s,t⟩:=info_parts vF;go_enter func148,ntmps148;go_wp2_with (at_builtin;go_loud (refine wpList_append_own_at _ rfl _ _ _ rfl w.heap.size 43 T _ 2 16 underlying122 m r s t rfl (by decide) _ 0 [] rfl ?_ ⟨b,o,ah⟩ n c g rfl H.out.1 ?_ D.out (by unfold maxLen;omega) (by omega) (by simp) ?_))
  case refine_1=>exact⟨rfl,cc ⟨w.heap.size,0,#[],rfl,ao _,heap_alloc_new w _,ao _,by decide,rfl,rfl⟩⟩
  case refine_2=>intro j u i;have q:=d.out j u i;rw[Addr.add_lit];exact(((Below.refl w.heap.size w).alloc (ao _) _).cell (p:=⟨b,o+j,ah⟩) (World.block_lt_of_cell? _ _ q)).trans q
  intro X w' f C _ _;have F:Hid (Below w.heap.size w w'):=((Below.refl w.heap.size w).alloc (ao _) _).grown C (by simp) (λk O=>by simp[eB]at O;omega);have G:=ae f;clear f C;go_wp2_with fail;go_ret;exact⟨_,rfl,G.out,F.out⟩
def iu(x:Int×Bool):Bool:= !x.2&&decide (x.1<1000000)
def rz(a:List (Int×Bool)):Int:=if a.findIdx iu<a.length then(a.findIdx iu:Nat)else-1
def GF(x b w):Calls ai 173 #[.agg #[.int .i64 x,.bool b]] w λe w'=>e=.returned (.bool (iu (x,b)))/\Below w.heap.size w w':=by have a:Hid (iu (x,b)=(!b&&decide (x<1000000))):=rfl;cases b;all_goals go_enter func173,ntmps173;go_wp2_with fail;go_ret;exact⟨cG (by rw[a.out];simp),(Below.refl _ _).alloc (ao _) _⟩
def Nd(w):Calls ai 144 #[] w λe w'=>e=.returned (.pointer (af ⟨w.heap.size,0,ah⟩))/\eG w' w.heap.size [] (E7 (λ_=>False) w w')/\Below w.heap.size w w':=by go_enter func144,ntmps144;go_wp2_with fail;go_ret;exact⟨rfl,⟨.slice ah 0 0,di.new _ _ _,eC _ _ _ _,by simp[eB],cc ⟨ao _,by simp⟩,λk a=>by simp[eB]at a⟩,(Below.refl _ _).alloc (ao _) _⟩
def EM{w B A c}{a:List (Int×Bool)}(h:w.ownsRow B 172 2 (.slice A a.length c) a.length (a.flatMap uF)){k}(d:k<a.length):∃g,A=af ⟨g,0,ah⟩/\row? w g (k *2) 2=af #[.int .i64 (a.getD k (0,aq)).1,.bool (a.getD k (0,aq)).2]:=by
 obtain⟨A',o,e,l,m,j⟩:=aP h;obtain⟨g,n⟩:=j (by omega);injection e with i p q;subst i;subst n;have b:a.getD k (0,aq)=a[k]:=by simp[bu,aj d]
 have f:=lA h d;rw[lz mR a k d]at f;exact⟨g,rfl,by rw[b];exact f⟩
def Df(A c a w)(h:w.ownsRow 0 172 2 (.slice A a.length c) a.length (a.flatMap uF))(I:a.length<=1000000):Calls ai 172 #[.slice A a.length c,.func (.func 173) #[] #[]] w λe w'=>e=.returned (.int .i64 (rz a))/\Below w.heap.size w w':=by
 have H:=ae h;clear h;go_enter func172,ntmps172;go_wp2_with fail;go_loopw [8] (λi w'=>∃k:Nat,k<=a.length/\i=.int .i64 k/\(∀j,j<k->iu (a.getD j (0,aq))=aq)/\Below w.heap.size w w') (λi _=>a.length-(intOf i).toNat)
 case atStart=>exact⟨0,by omega,rfl,λj t=>by omega,Below.refl _ _⟩
 case round=>
  obtain⟨k,G,rfl,m,B⟩:=hrel;have d:=ae m;have f:=ae B;clear m B;by_cases l:k<a.length
  ·have F:(k:Int)<a.length:=by omega
   obtain⟨g,rfl,C⟩:=EM (lS H.out f.out) l;generalize D:a.getD k (0,aq)=x at *;obtain⟨x,b⟩:=x;have v:=ae D;clear D;go_wp2_with fail;refine(GF x b _).mono ?_;rintro e J ⟨rfl,q⟩;have p:=ae (f.out.trans (q.mono f.out.size));clear q;cases r:iu (x,b)
   ·have E:=ae r;clear r;go_wp2_with fail;go_roundw
    case rel=>refine⟨k+1,by omega,by go_num,λj t=> ?_,p.out⟩;by_cases u:j=k;rw[u,v.out];exact E.out;exact d.out j (by omega)
    simp[intOf];omega
   have o:Hid (rz a=(k:Int)):=by
    have:a.findIdx iu=k:=by
     rw[List.findIdx_eq l];have s:a.getD k (0,aq)=a[k]:=by simp[bu,aj l]
     refine⟨by rw[<-s,v.out];exact r,λj t=> ?_⟩;have:=d.out j t;simpa[bu,aj (show j<a.length by omega)]using this
    unfold Hid rz;rw[this,if_pos l]
   clear r;go_wp2_with fail;go_ret;exact⟨cZ o.out.symm,p.out⟩
  have o:Hid (rz a= -1):=by unfold Hid rz;rw[if_neg];intro n;have y:=List.findIdx_getElem (w:=n);have z:=d.out (a.findIdx iu) (by omega);simp only[bu,aj n,bT]at z;rw[z]at y;exact absurd y (by simp)
  go_wp2_with fail;go_ret;exact⟨cZ o.out.symm,f.out⟩
def j4{w w' g o n x}(b:Below w.heap.size w w')(h:row? w g o n=af x):row? w' g o n=af x:=by
 have a:g<w.heap.size:=by unfold row? at h;split at h;rename_i c;exact(aC.1 c).1;cases h
 rw[iP b a];exact h
def In.Sw{G w0 w l}(h:In G w0 l w)(E size n a)(b:a.length=n *size)(d:n<=maxLen):In G w0 (dN E size (.slice (af ⟨w.heap.size,0,ah⟩) n n) n a::l) (w.alloc (.cells a.toArray E)):=h.new (A:=dN E size (.slice (af ⟨w.heap.size,0,ah⟩) n n) n a) ((Below.refl _ _).alloc (ao _) _) ⟨⟨b,cc ⟨w.heap.size,n,a.toArray,rfl,bH _,heap_alloc_new w _,ao _,d,by simpa using b,by simp[<-b]⟩⟩,λk c=>by simp[eB]at c;omega⟩
def rJ{q:Type}{b f size w E v}{a:List q}(m:∀x,b x=(f x).map (aD .i64))(n:∀x,(f x).length=size)(h:w.ownsRow 0 E size v a.length (a.flatMap b)):∃A c,v=.slice A a.length c/\a.length<=c/\c<=maxLen/\fR w w.heap.size size A (a.map f)/\(0<a.length->∃g,A=af ⟨g,0,ah⟩):=by obtain⟨A,c,rfl,e,i,l⟩:=aP h;refine⟨A,c,rfl,e,i,⟨λr d=>by obtain⟨x,_,rfl⟩:=aA.1 d;exact n x,λj=> ?_⟩,l⟩;rw[aY]at j;obtain⟨g,rfl⟩:=l j;refine⟨g,0,rfl,(h.lt g rfl).2,λk r d=> ?_⟩;rw[dX]at d;obtain⟨x,p,rfl⟩:=aG.1 d;obtain⟨o,rfl⟩:=bg.1 p;have:=lA h o;rw[lz (λx=>by rw[m,aY,n]) a k o,m]at this;rw[bN];exact this
def IE{g k:Type}{f:g->k}(e:∀a b,f a=f b->a=b):∀{c d:List g},c.map f=d.map f->c=d
 |[],[],_=>rfl|[],_::_,h=>by simp at h|_::_,[],h=>by simp at h|x::c,y::d,h=>by rw[gg,gg]at h;injection h with i j;rw[e _ _ i,IE e j]
def JN{P f args w v}(h:Calls P f args w λe a=>e=.returned v/\w=a):Calls P f args w λe a=>e=.returned v/\a=w:=h.mono λ_ _ ⟨b,c⟩=>⟨b,c.symm⟩
def ML(n w):Calls ai 90 #[.int .i64 n] w λe b=>e=.returned (.int .i64 (k8 n))/\w=b:=by
 have a:Hid (k8 n=if n< -1000000000 then-1000000000 else if 1000000000<n then 1000000000 else n):=rfl;go_enter func90,ntmps90;go_wp2_with fail;all_goals go_ret
 all_goals refine⟨cZ ?_,rfl⟩
 all_goals rw[a.out]
 all_goals (split<;>(try split)<;>omega)
def Q6(n w):Calls ai 90 #[.int .i64 n] w λe a=>e=.returned (.int .i64 (k8 n))/\a=w:=(ML n w).mono λ_ _ h=>⟨h.1,h.2.symm⟩
def zw(w:ar)(g:Nat)(b:bw)(s:Sys)(a:ar):Prop:=di a g 48 (ints b.list)/\di a (g+1) 54 (ints s.list)/\di a (g+1+1) 48 (ints [0,0,0,0,0,0,0,0,0])/\Below g w a
def zw.after{w c d g b s}(h:zw w g b s c)(a:Below c.heap.size c d):zw w g b s d:=⟨h.1.after a,h.2.1.after a,h.2.2.1.after a,h.2.2.2.trans (a.mono (by have:=h.1.lt;omega))⟩
def zw.facts{w a g b s}(h:zw w g b s a)(c:b.v.length=8):a.cell? ⟨g,0,ah⟩=af (.int .i64 b.k)/\a.cell? ⟨g+1,3,ah⟩=af (.int .i64 s.read)/\a.cell? ⟨g+1,4,ah⟩=af (.int .i64 s.write)/\a.cell? ⟨g+1,5,ah⟩=af (.int .i64 s.act)/\a.cell? ⟨g+1,6,ah⟩=af (.int .i64 s.n)/\row? a (g+1) 0 3=af (ints s.q.list)/\row? a g 0 9=af (ints b.list)/\fits a (g+1+1) 0 9=ak:=⟨h.1.cell 0,h.2.1.cell 3,h.2.1.cell 4,h.2.1.cell 5,h.2.1.cell 6,h.2.1.dy 0 3 (by simp[Sys.list]),h.1.aL (by simp[bw.list,c]),h.2.2.1.fits 0 9 (by decide)⟩
def mS{s}(h:dH s=0):ck s.q.vd=ak/\ck s.q.nt=ak/\ck s.q.any=ak/\ck s.read=ak/\ck s.write=ak/\1<=s.act/\s.act<=3/\ -1000000<=s.n/\s.n<=1000000/\(s.act=3->s.n=0)/\(s.act≠2->s.read=0):=by
 unfold dH at h;split at h;omega;rename_i e;split at h;omega;split at h;omega;rename_i c d;have a:fX s.q=0:=by omega
 unfold fX at a;split at a;rename_i b;simp only[ay]at b;simp only[ej,kI,decide_eq_true_eq,ay,not_or,not_and]at c d;refine⟨b.1.1,b.1.2,b.2,by simpa using c.1.1.1.1.1,by simpa using c.1.1.1.1.2,by omega,by omega,by omega,by omega,?_,?_⟩;intro h;have:=d.1 h;omega;intro h;have:=d.2 h;omega;omega
def Ee{m}:ck m=ak↔0<=m/\m<=255:=by simp[ck]
def BL(b:bw)(d:∀j,j<8->(b.k.toNat.testBit j=aq->b.v.getD j 0=0)/\ -1000000000<=b.v.getD j 0/\b.v.getD j 0<=1000000000)(s:Sys)(l:List Nat)(c:∀k∈l,k<8):s.n-1000000000 *l.length<=kD b s l/\kD b s l<=s.n+1000000000 *l.length:=by
 have h:∀(l:List Nat)(a:Int),(∀k∈l,k<8)->a-1000000000 *l.length<=l.foldl (λa k=>a+b.v.getD k 0) a/\l.foldl (λa k=>a+b.v.getD k 0) a<=a+1000000000 *l.length:=by
  intro l
  induction l with
  |nil=>intro a _;simp|cons k l f=>
   intro a c;have g:=f (a+b.v.getD k 0) λq e=>c q (by simp[e])
   have i:=(d k (c k (by simp))).2;rw[List.foldl_cons,ax];omega
 exact h l s.n c
def Mi(b:bw)(s:Sys)(l:List Nat)(k:Nat):kD b s (l++[k])=kD b s l+b.v.getD k 0:=by simp[kD]
def nI(w:ar)(g c:Nat)(b:bw)(s:Sys)(A:Option Addr)(q:Nat)(l:List Int)(a:List Int)(d:ar):Prop:=zw w g b s d/\di d c 48 (ints (b.k::a))/\g+2<c/\nJ d c A q l
def nI.after{w d f g e b s A q l a}(h:nI w g e b s A q l a d)(c:Below d.heap.size d f):nI w g e b s A q l a f:=⟨h.1.after c,h.2.1.after c,h.2.2.1,Reads.below h.2.2.2 (c.mono (by have:=h.2.1.lt;omega))⟩
def nI.set{w d g c b s A q l a}(h:nI w g c b s A q l a d)(k x):nI w g c b s A q l (a.set k x) (d.setCell ⟨c,1+k,ah⟩ (.int .i64 x)):=by obtain⟨⟨i,j,m,n⟩,r,t,u⟩:=h;refine⟨⟨i.Da (by omega) _ _,j.Da (by omega) _ _,m.Da (by omega) _ _,n.setCell (p:=⟨c,1+k,ah⟩) (by show g<=c;omega) _⟩,?_,t,?_⟩;have:=r.set (1+k) (.int .i64 x);rwa[ints_set,bM 1 k,List.set_cons_succ,bM k 1]at this;exact Reads.keep u λf o v=>World.cell?_setCell_other d ⟨c,1+k,ah⟩ ⟨f,o,ah⟩ _ (λe=>by injection e;omega)
def nI.drew{w d g c b s A q l a}(h:nI w g c b s A q l a d):nI w g c b s A q l a d.drew:=h.after (Below.refl _ _).drew
def sW{w B A M j}(h:nJ w B A (kinds M).length (eK M))(a:j<(kinds M).length):∃b o k,A=af ⟨b,o,ah⟩/\w.cell? ⟨b,o+j,ah⟩=af (.int .i64 ((k:Nat):Int))/\Hid (k=(kinds M).getD j 0)/\k∈kinds M/\k<8/\Hid ((kinds M).take (j+1)=(kinds M).take j++[k]):=by
 obtain⟨b,o,d,_,f,c⟩:=h.at_ a;have e:(eK M)[j]=(((kinds M)[j]:Nat):Int):=by simp[eK]
 rw[e]at c;exact⟨b,o,(kinds M)[j],d,c,by simp[Hid,bu,aj a],aF a,((iM M _).1 (aF a)).1,aV a⟩
def Ra(b s)(hb:b.v.length=8)(he:bx b=0)(hs:dH s=0)(w):Calls ai 39 #[.agg (ints b.list),.agg (ints s.list)] w λe w'=>e=.returned (.agg (ints (bU b s).list))/\Below w.heap.size w w':=by
 obtain⟨hk,hv⟩:=jQ b he;obtain⟨_,_,_,hr,Y0,acA,acB,Xb,T5,hsw,hrd⟩:=mS hs;obtain⟨Xi,Vk⟩:=Aw b.k s.write hk (Ee.1 Y0);obtain⟨hr1,hr2⟩:=Aw b.k s.read hk (Ee.1 hr);have HW:=ae Xi;have HR:=ae hr1;have m:=ae hb;have HV:=ae hv;clear hb he hs hr Y0 Xi hr1 hsw hrd hv;have W:b.list.length=9:=by simp[bw.list,m.out]
 go_enter func39,ntmps39;go_upto_region 1 with(fail)
 refine a6 (zw w w.heap.size b s) ?_ ?_;obtain⟨h1,h2,h3⟩:=abL w 48 54 48 (ints b.list) (ints s.list) (ints [0,0,0,0,0,0,0,0,0]);exact⟨h1,h2,h3,(((Below.refl _ _).alloc (ao _) _).alloc (by simp) _).alloc (by simp;omega) _⟩;intro w1 hM;obtain⟨t,u,z,B,C,F,D,E⟩:=hM.facts m.out;have HM:=ae hM;clear hM;go_wp2_with fail;refine(Ax _ _ _).mono ?_;rintro e w2 ⟨rfl,sQ⟩;have p:=ae (HM.out.after sQ);clear t u z B C F D E sQ HM;obtain⟨t,u,z,B,C,F,D,E⟩:=p.out.facts m.out;by_cases G:eM b.k s.q=ak
 ·have hd:Hid (bU b s=⟨b.k,mO (gn b s (wl b s)) (wl b s) b.v (wl b s).length⟩):=by unfold Hid bU;rw[if_pos G]
  rw[G];clear G;have abS:Hid (m8 (bits .and .i64 b.k s.write)=b.k.toNat &&& s.write.toNat):=by unfold Hid;rw[HW.out];unfold m8;omega
  have abR:Hid (m8 (bits .and .i64 b.k s.read)=b.k.toNat &&& s.read.toNat):=by unfold Hid;rw[HR.out];unfold m8;omega
  have K:Hid (wl b s=kinds (b.k.toNat &&& s.write.toNat)):=rfl;have Vh:Hid (rl b s=kinds (b.k.toNat &&& s.read.toNat)):=rfl;generalize b.k.toNat &&& s.write.toNat=M at *;generalize b.k.toNat &&& s.read.toNat=N at *;go_wp2_with fail;refine(sZ _ _).mono ?_;rintro e r ⟨v,rfl,T,M1⟩;rw[abS.out]at T;obtain⟨A,c,rfl,hr⟩:=T.form;have h:(eK M).length=(kinds M).length:=by simp[eK]
  rw[h]at hr|-;clear h;have H:=ae (p.out.after M1);clear t u z B C F D E;obtain⟨t,u,z,B,C,F,D,E⟩:=H.out.facts m.out;have YJ:fits (r.alloc (.cells (ints [0,0,0,0,0,0,0,0,0]) 48)) r.heap.size 0 9=ak:=(di.new r 48 (ints [0,0,0,0,0,0,0,0,0])).fits 0 9 (by decide);have HO:=ae T;have HR3:=ae hr;clear T hr p M1;go_upto_region 5 with(fail)
  have hg6:w.heap.size+2<r.heap.size:=by have:=H.out.2.2.1.lt;omega
  refine a6 (nI w w.heap.size r.heap.size b s A (kinds M).length (eK M) b.v) ?_ ?_;have P:Below r.heap.size r (putRow (r.alloc (.cells (ints [0,0,0,0,0,0,0,0,0]) 48)) r.heap.size 0 b.list):=lP ((Below.refl _ _).alloc (ao _) _) (ao _) _ _
  exact⟨H.out.after P,(di.new r 48 (ints [0,0,0,0,0,0,0,0,0])).dY b.list W,hg6,Reads.below HR3.out P⟩;clear YJ HR3 HO;intro w4 YA;have U:=ae YA;clear YA H t u z B C F D E;generalize r.heap.size=g6 at *;obtain⟨t,u,z,B,C,F,D,E⟩:=U.out.1.facts m.out;go_wp2_with fail;refine(sZ _ _).mono ?_;rintro e w5 ⟨v,rfl,T,hb5⟩;rw[abR.out]at T;obtain⟨A5,c5,rfl,hr5⟩:=T.form;have h:(eK N).length=(kinds N).length:=by simp[eK]
  rw[h]at hr5|-;clear h;have I:=ae (U.out.after hb5);have HR5:=ae hr5;clear t u z B C F D E T hr5 U;obtain⟨t,u,z,B,C,F,D,E⟩:=I.out.1.facts m.out;clear hb5;have hn8:=oh N;go_wp2_with fail
  go_loop [7,35] (λsm i=>∃j:Nat,j<=(kinds N).length/\i=.int .i64 j/\sm=.int .i64 (kD b s ((kinds N).take j))) (λ_ i=>(kinds N).length-(intOf i).toNat)
  case atStart=>exact⟨0,bH _,rfl,rfl⟩
  obtain⟨j,hj,rfl,rfl⟩:=hrel;by_cases J:j<(kinds N).length
  ·obtain⟨bl,o,k,rfl,hc,_,W9,g,YX⟩:=sW HR5.out J;have hcv:w5.cell? ⟨w.heap.size,1+k,ah⟩=af (.int .i64 (b.v.getD k 0)):=by rw[I.out.1.1.cell,jT,bM];simp only[bw.list,eQ];rw[aj (by rw[m.out];exact g)];simp[bu,aj (show k<b.v.length by rw[m.out];exact g)]
   obtain⟨hv1,Xg⟩:=(HV.out k g).2;obtain⟨T6,YS⟩:=BL b HV.out s ((kinds N).take j) (λq G=>((iM N q).1 (nF G)).1);have CS:((kinds N).take j).length<=8:=by rw[cR];omega
   have hsn:Hid (kD b s ((kinds N).take (j+1))=kD b s ((kinds N).take j)+b.v.getD k 0):=by unfold Hid;rw[YX.out,Mi]
   clear YX;generalize b.v.getD k 0=x at *;generalize kD b s ((kinds N).take j)=S at *;generalize ((kinds N).take j).length=L at *
   go_wp2
   go_round
   case rel=>exact⟨j+1,by omega,by go_num,by rw[hsn.out]⟩
   simp[intOf];omega
  have X:j=(kinds N).length:=by omega
  subst X;have HS:Hid (kD b s ((kinds N).take (kinds N).length)=kD b s (rl b s)):=by unfold Hid;rw[cq,Vh.out]
  obtain⟨T6,YS⟩:=BL b HV.out s ((kinds N).take (kinds N).length) (λq G=>((iM N q).1 (nF G)).1);rw[cR,Nat.min_self]at T6 YS;generalize kD b s ((kinds N).take (kinds N).length)=S at *;clear J hj HR5;have hm8:=oh M;have hM5:=I.out;go_wp2_with fail;go_loopw [48] (λi wr=>∃j:Nat,j<=(kinds M).length/\i=.int .i64 j/\nI w w.heap.size g6 b s A (kinds M).length (eK M) (mO (gn b s (wl b s)) (wl b s) b.v j) wr) (λi _=>(kinds M).length-(intOf i).toNat)
  case atStart=>exact⟨0,bH _,rfl,hM5⟩
  clear t u z B C F D E hM5 I;obtain⟨j,hj,rfl,hMr⟩:=hrel;have a:=ae hMr;clear hMr;obtain⟨t,u,z,B,C,F,D,E⟩:=a.out.1.facts m.out;have hvl:Hid ((mO (gn b s (wl b s)) (wl b s) b.v j).length=8):=by unfold Hid;rw[qy,m.out]
  by_cases J:j<(kinds M).length
  ·obtain⟨bl,o,k,rfl,hc,Y,W9,g,YX⟩:=sW a.out.2.2.2 J;have hcv:wr.cell? ⟨w.heap.size,1+k,ah⟩=af (.int .i64 (b.v.getD k 0)):=by rw[a.out.1.1.cell,jT,bM];simp only[bw.list,eQ];rw[aj (by rw[m.out];exact g)];simp[bu,aj (show k<b.v.length by rw[m.out];exact g)]
   have hco:wr.cell? ⟨g6,1+k,ah⟩=af (.int .i64 ((mO (gn b s (wl b s)) (wl b s) b.v j).getD k 0)):=by rw[a.out.2.1.cell,jT,bM,eQ];rw[aj (by rw[hvl.out];exact g)];simp[bu,aj (show k<(mO (gn b s (wl b s)) (wl b s) b.v j).length by rw[hvl.out];exact g)]
   have hfo:wr.frozen? ⟨g6,1+k,ah⟩=aq:=a.out.2.1.frozen _;obtain⟨hv1,Xg⟩:=(HV.out k g).2;have l:Hid (∀x,x=gn b s (wl b s) j->nI w w.heap.size g6 b s (af ⟨bl,o,ah⟩) (kinds M).length (eK M) (mO (gn b s (wl b s)) (wl b s) b.v (j+1)) (wr.setCell ⟨g6,1+k,ah⟩ (.int .i64 x))):=by intro x hx;have:=a.out.set k x;rw[hx,Y.out]at this;unfold mO;rw[K.out]at this|-;rw[hx,K.out,Y.out];exact this
   have hnv:Hid (gn b s (wl b s) j=if s.act=1 then k8 (b.v.getD k 0+s.n)else if s.act=2 then k8 S else b.v.getD ((kinds M).getD ((j+1) % (kinds M).length) 0) 0):=by unfold Hid gn;rw[K.out,<-Y.out,HS.out]
   generalize (mO (gn b s (wl b s)) (wl b s) b.v j).getD k 0=y at *;generalize hx:b.v.getD k 0=x at *;have HX:=ae hx;clear hx;by_cases f:s.act=1
   ·have O:(s.act==1)=ak:=by simpa using f
    have d:Hid (k8 (x+s.n)=gn b s (wl b s) j):=by unfold Hid;rw[hnv.out,if_pos f]
    clear f;have acZ:(k:Int)<8:=by omega
    have YW:IntKind.i64.wrap (x+s.n)=x+s.n:=IntWalk.i64_in _ (by omega);go_upto_region 16 with(fail)
    go_still_tail 11,(by kernel_rfl)
    still_call (Q6 _ _)
    repeat still_step
    refine wpStill_nil ?_;change wpList _ _ _ _ _ wr.drew;rw[d.out];go_wp2_with fail;go_roundw
    case rel=>exact⟨j+1,by omega,by go_num,(l.out _ rfl).drew⟩
    simp[intOf];omega
   by_cases n:s.act=2
   ·have O:(s.act==1)=aq:=by simpa using f
    have abU:(s.act==2)=ak:=by simpa using n
    have d:Hid (k8 S=gn b s (wl b s) j):=by unfold Hid;rw[hnv.out,if_neg f,if_pos n]
    clear f n;go_wp2_with fail;refine(ML _ _).mono ?_;rintro e w' ⟨rfl,rfl⟩;rw[d.out];go_wp2_with fail;go_roundw
    case rel=>exact⟨j+1,by omega,by go_num,l.out _ rfl⟩
    simp[intOf];omega
   have O:(s.act==1)=aq:=by simpa using f
   have abU:(s.act==2)=aq:=by simpa using n
   have acS:(s.act==3)=ak:=by simp;omega
   have acb:(j+1) % (kinds M).length<(kinds M).length:=Nat.mod_lt _ (by omega);obtain⟨_,_,k',Va,hc',R,ab7,Q,acj⟩:=sW a.out.2.2.2 acb;simp only[dS,Addr.mk.injEq,and_true]at Va;obtain⟨rfl,rfl⟩:=Va;have d:Hid (b.v.getD k' 0=gn b s (wl b s) j):=by unfold Hid;rw[hnv.out,if_neg f,if_neg n,R.out]
   have ab0:wr.cell? ⟨w.heap.size,1+k',ah⟩=af (.int .i64 (b.v.getD k' 0)):=by rw[a.out.1.1.cell,jT,bM];simp only[bw.list,eQ];rw[aj (by rw[m.out];exact Q)];simp[bu,aj (show k'<b.v.length by rw[m.out];exact Q)]
   rw[d.out]at ab0;have hme:((j:Int)+1) % ((kinds M).length:Int)=(((j+1) % (kinds M).length:Nat):Int):=by push_cast;rfl
   clear f n R ab7 acj d;generalize (j+1) % (kinds M).length=i' at *;have h8i:(k':Int)<8:=by omega
   go_wp2_with fail;go_roundw
   case rel=>exact⟨j+1,by omega,by go_num,l.out _ rfl⟩
   simp[intOf];omega
  have X:j=(kinds M).length:=by omega
  subst X;have hd':Hid (bU b s=⟨b.k,mO (gn b s (wl b s)) (wl b s) b.v (kinds M).length⟩):=by unfold Hid;rw[hd.out];rw[K.out]
  have Z:(b.k::mO (gn b s (wl b s)) (wl b s) b.v (kinds M).length).length=9:=by rw[ax,hvl.out]
  have acN:row? wr g6 0 9=af (ints (b.k::mO (gn b s (wl b s)) (wl b s) b.v (kinds M).length)):=a.out.2.1.aL Z;generalize mO (gn b s (wl b s)) (wl b s) b.v (kinds M).length=V at *;go_wp2_with fail;refine bodyPost_ret (v:=.agg (ints (b.k::V))) (results_cell_row rfl _ _ (w.heap.size+1+1) 48 (ints (b.k::V)) (0,0) _ rfl (a.out.1.2.2.1.dY _ Z) underlying48 rfl (by rw[aR,Z];exact lI)) rfl ?_;exact⟨by rw[hd'.out];rfl,lP a.out.1.2.2.2 (by omega) _ _⟩
 ·have hd:Hid (bU b s=b):=by unfold Hid bU;rw[if_neg G]
  have Vg:eM b.k s.q=aq:=by simpa using G
  rw[Vg];clear G Vg;go_wp2_with fail;refine bodyPost_ret (v:=.agg (ints b.list)) (results_cell_row rfl _ _ (w.heap.size+1+1) 48 (ints b.list) (0,0) _ rfl (p.out.2.2.1.dY _ W) underlying48 rfl (by rw[aR,W];exact lI)) rfl ?_;exact⟨by rw[hd.out],lP p.out.2.2.2 (by omega) _ _⟩
def Od(s t w):Calls ai 87 #[.agg (ints s.list),.agg (ints t.list)] w λe c=>e=.returned (.bool (gi s t))/\Below w.heap.size w c:=by
 have h:Hid (gi s t=(bits .or .i64 (bits .and .i64 s.write (bits .or .i64 t.read t.write)) (bits .and .i64 t.write s.read) !=0)):=rfl;go_enter func87,ntmps87;go_upto_region 1 with(fail)
 obtain⟨a,b⟩:=abK w 54 54 (ints s.list) (ints t.list);refine a6 (λc=>di c w.heap.size 54 (ints s.list)/\di c (w.heap.size+1) 54 (ints t.list)/\Below w.heap.size w c) ⟨a,b,((Below.refl _ _).alloc (ao _) _).alloc (by simp) _⟩ ?_;rintro d ⟨a,b,f⟩;have g:=ae f;have i:d.cell? ⟨w.heap.size,3,ah⟩=af (.int .i64 s.read):=a.cell 3;have j:d.cell? ⟨w.heap.size,4,ah⟩=af (.int .i64 s.write):=a.cell 4;have k:d.cell? ⟨w.heap.size+1,3,ah⟩=af (.int .i64 t.read):=b.cell 3;have l:d.cell? ⟨w.heap.size+1,4,ah⟩=af (.int .i64 t.write):=b.cell 4;clear a b f;go_wp2_with fail;go_ret;exact⟨cG h.out.symm,g.out⟩
def After.row{W g n t b}(h:di W g t (ints b))(c:b.length=n)(a:After W):row? a.w g 0 n=af (ints b):=(h.after a.below).aL c
end
namespace Rel
open Go.Conc Go.ConcN
open Go.ConcR (KK WgAt rd wr Payload DC0 stA smA Bk)
def xi{e:Type}{p q}:∀{l:List e},(∀x∈l,p x=ak->q x=ak)->(∃y∈l,q y=ak/\p y=aq)->l.countP p<l.countP q
 |[],_,h=>by obtain⟨y,a,_⟩:=h;cases a|x::l,h,⟨y,a,h1,h2⟩=>by
  have c:l.countP p<=l.countP q:=List.countP_mono_left λz b=>h z (by simp[b])
  rcases b8.1 a with rfl|a;simp only[List.countP_cons,h1,h2,if_true,Bool.false_eq_true,if_false];omega;have:=xi (l:=l) (λz b=>h z (by simp[b])) ⟨y,a,h1,h2⟩;simp only[List.countP_cons];have d:=h x (by simp);cases hp:p x with|false=>cases f:q x<;>simp<;>omega|true=>rw[d hp];simp;omega
def IC(a:Array Oper):Bool:=(bB a.size).all λi=>((a[i]?).map λo=>o.after.all λe=>decide (e.on<i)).getD aq
def Dm{b}(h:IC b=ak){a}(p:a.size=b.size)(m:dZ .any b a=[]):∀i,i<b.size->a.getD i ak=ak:=by
 intro i
 induction i using Nat.strongRecOn with
 |_ i n=>
  intro f;cases l:a.getD i ak with
  |true=>rfl|false=>
   exfalso;have hm:i∈dZ .any b a:=by
    unfold dZ;refine b3.2 ⟨eS.2 f,?_⟩;have c:=lD.1 h i (eS.2 f);rw[l];cases g:b[i]? with
    |none=>rw[g]at c;cases c|some o=>
     rw[g]at c;simp only[fD,bT,Bool.not_false,Bool.true_and]at c|-;refine eP.2 λj k=> ?_
     have:=of_decide_eq_true (eP.1 c j k);have d:=n _ this (by omega);have e:o.after[j].on<a.size:=by omega
     rw[bF,aS e]at d|-;simp only[bT]at d|-;rw[d];simp
   rw[m]at hm;cases hm
section
variable [Payload] {φ:Ph} {b:dj} {k:List Item} {cs:List dj} {Z:Array Oper}
def Ph.WT.QK(I:Array Bool->Act->ar->Gh->Prop)(l:∀c a w f,I c a w f->dZ .any Z c=[]->φ.WT f (G (b.at a (.inRegion Z []::k)) cs) w)(o:∀c a w f,c.size=Z.size->I c a w f->∀i∈dZ .any Z c,∀m,(∀s y g,I (c.setIfInBounds i ak) s y g->φ.WT g (G (b.at s (.inRegion Z m::k)) cs) y)->φ.WT f (G (b.at a (.inRegion Z (i::m)::k)) cs) w):∀d t c a w f,c.size=Z.size->(bB Z.size).countP (λi=> !c.getD i ak)<=d->I c a w f->φ.WT f (G (b.at a (.inRegion Z (Region.linearise.go .any Z d t c [])::k)) cs) w:=by
 intro d
 induction d with
 |zero=>
  intro t c a w f A F u;refine l c a w f u ?_;have B:(bB Z.size).countP (λi=> !c.getD i ak)=0:=by omega
  rw[List.countP_eq_zero]at B;unfold dZ;refine List.filter_eq_nil_iff.2 λi p=> ?_
  have:=B i p;simp only[kI]at this;simp only[ay,kI,not_and];intro h;rw[h]at this;exact absurd rfl this
 |succ d H=>
  intro t c a w f A F u;simp only[Region.linearise.go];change φ.WT f (G (b.at a (.inRegion Z (match (dZ .any Z c)[t % (dZ .any Z c).length]? with
   |some i=>Region.linearise.go .any Z d (t / (dZ .any Z c).length) (c.setIfInBounds i ak) [i]|none=>[].reverse)::k)) cs) w
  cases p:(dZ .any Z c)[t % (dZ .any Z c).length]? with
  |none=>
   have r:dZ .any Z c=[]:=by
    cases v:dZ .any Z c with|nil=>rfl|cons x E=>rw[v]at p;have n:t % (x::E).length<(x::E).length:=Nat.mod_lt _ (by simp);simp at p;simp at n;omega
   exact l c a w f u r
  |some i=>
   simp only[];rw[linearise_go_acc,List.reverse_singleton,List.singleton_append];have hm:=kO p;refine o c a w f A u i hm _ λs y g z=>H _ _ s y g (by simpa using A) ?_ z
   have q:=hm;unfold dZ at q;obtain⟨v,hp⟩:=b3.1 q;have D:c.getD i ak=aq:=by simp only[ay,kI]at hp;exact hp.1
   have n:i<c.size:=by have:=eS.1 v;omega
   have:(bB Z.size).countP (λj=> !(c.setIfInBounds i ak).getD j ak)<(bB Z.size).countP (λj=> !c.getD j ak):=by refine xi (λj _ C=> ?_) ⟨i,v,by rw[D];rfl,?_⟩;by_cases e:i=j;subst e;rw[D];rfl;rw[bF,aH e,<-bF]at C;exact C;rw[bF,aQ n];rfl
   omega
def Ph.WT.drawn(O:φ.Ok){d w a}(hm:φ.P.follows .mixedOrders=ak){e}(h:∀n,φ.WT d (G (b.at a (.inRegion Z (Region.linearise .any Z n)::k)) cs) w):φ.WT d (G (b.at a (.code (.region e Z ak)::k)) cs) w:=by
 refine .step (λc=>G (b.at a (.inRegion Z (Region.linearise .any Z (c.tape c.drawn (.order b.fn e)))::k)) cs) (λc=>{c with drawn:=c.drawn+1}) (λ_=>#[]) rfl (λc _=>⟨?_,λ_ _ _ _=>rfl,λ_ _ _=>rfl,λ_ _=>rfl,ao _,rfl,rfl,rfl,by simp⟩) λc f=> ?_
 simp[G,stepG,stepG.exec,Frame.at,choose,Sem.run,Sem.runT,Question.forced,Question.cut,Region.schedule,hm];rw[Gh.D7 d (w:=c) (w':={c with drawn:=c.drawn+1}) rfl];exact(h _).rely O (f.trans ⟨λ_ _=>rfl,λ_ _=>rfl,λ_ _ _ _=>rfl,λ_ _=>rfl,λh=>h,ao _,rfl,rfl,rfl⟩)
end
end Rel
section
open Go.RowKit
def Gz{P p o a}{w:ar}{K Q X}(B:o.guard=ah)(s x t)(M:o.op=.call {callee:=.builtin .append,args:=#[s,x],argTypes:=#[t,t]})(d e i z size c)(R:P.underlying t=af (.slice e))(J:P.info? e=af i)(V:i.zero=af z)(k:i.size=size)(A:i.bytes=c)(D:z.cells.size=size)(C:0<size)(v n E)(O:a.eval s=v)(m:w.ownsRow d e size v n E)(b)(U:a.eval x=.slice (af ⟨w.heap.size,0,ah⟩) 1 1)(L:b.length=size)(F:∀u∈b,u.oneCell'=ak)(r:n+1<=maxLen)(f:(n+1) *c<=140737488355328)(y:d<=w.heap.size)(h:∀l q,q.ownsRow d e size l (n+1) (E++b)->(w.alloc (.cells b.toArray e)).grownBy q v.ownBlock->(l.ownBlock=v.ownBlock\/l.ownBlock=af (w.heap.size+1))->K (a.put o.dst l) q):if aW o (yielded p a.tmps)=ak then nV P o a (w.alloc (.cells b.toArray e)) K Q else X:=by
 have T:aW o (yielded p a.tmps)=ak:=by simp[aW,B]
 rw[if_pos T];have g:∀j u,b[j]? =af u->(w.alloc (.cells b.toArray e)).cell? ((⟨w.heap.size,0,ah⟩:Addr).add j)=af u:=by intro j u S;rw[show(⟨w.heap.size,0,ah⟩:Addr).add j=⟨w.heap.size,j,ah⟩from by unfold Addr.add;split<;>simp_all];rw[cell_of_row _ w.heap.size j b.toArray e (0,0) (heap_alloc_new w _)];simpa using S
 obtain⟨l,q,N,G,H,W,I⟩:=run_append_own_at (P:=P) (w.alloc (.cells b.toArray e)) d t o.type e i z size c R J V k A D C v n E (m.alloc _) ⟨w.heap.size,0,ah⟩ 1 1 b (by rw[L,je]) g F r f (by simp;omega);unfold nV;simp[execOp,M,resolve,invoke,builtin,O,U,N,dP];exact h l q G H (by simpa using I)
def vT(w:ar)(row):w.grownBy w row:=⟨rfl,rfl,rfl,ao _,λ_ _ _=>rfl⟩
section
variable{P:br} {w:ar}
def oU(t A E i z size a)(C:P.underlying t=af (.slice E))(B:P.info? E=af i)(R:i.zero=af z)(d:i.size=size)(q:i.bytes=a)(y:z.cells.size=size)(s:0<size){v u n m k news}(b:w.ownsRow 0 E size v n k)(e:w.ownsRow 0 E size u m news)(F:∀x∈news,x.oneCell'=ak)(p:n+m<=maxLen)(c:(n+m) *a<=140737488355328):∃v' f,(Builtin.append_ #[t,t] A #[v,u]).run P w=.ok v' f/\f.ownsRow 0 E size v' (n+m) (k++news)/\w.grownBy f v.ownBlock/\(v'.ownBlock=v.ownBlock\/v'.ownBlock=af w.heap.size):=by
 obtain⟨N,h|⟨g,l,o,rfl,_,M,J,K,L,r⟩⟩:=e;obtain⟨rfl,rfl⟩:=h;have O:news=[]:=dw (by omega);subst O;refine⟨v,w,run_append_owned_none (P:=P) (w:=w) 0 t A E i size C B v n k b,by simpa using b,vT _ _,bq rfl⟩;obtain⟨v',f,Q,G,H,_,I⟩:=run_append_own_at (P:=P) w 0 t A E i z size a C B R d q y s v n k b ⟨g,0,ah⟩ m l news N (λj x D=>by rw[show(⟨g,0,ah⟩:Addr).add j=⟨g,j,ah⟩from by unfold Addr.add;split<;>simp_all];rw[cell_of_row w g j o E (0,0) M,<-D,<-r,gF,if_pos];simp;have:=(bg.1 D).1;omega) F p c (bH _)
 exact⟨v',f,Q,G,H,I⟩
def wU{j d o a Q}(q:o.guard=ah)(s x t)(I:o.op=.call {callee:=.builtin .append,args:=#[s,x],argTypes:=#[t,t]})(E i z size b)(M:P.underlying t=af (.slice E))(H:P.info? E=af i)(O:i.zero=af z)(e:i.size=size)(p:i.bytes=b)(y:z.cells.size=size)(r:0<size){v u n m A news}(L:a.eval s=v)(N:a.eval x=u)(f:w.ownsRow 0 E size v n A)(g:w.ownsRow 0 E size u m news)(B:∀x∈news,x.oneCell'=ak)(l:n+m<=maxLen)(c:(n+m) *b<=140737488355328)(h:∀v' k,k.ownsRow 0 E size v' (n+m) (A++news)->w.grownBy k v.ownBlock->(v'.ownBlock=v.ownBlock\/v'.ownBlock=af w.heap.size)->wpList P j Q d (a.put o.dst v') k):wpList P j Q (o::d) a w:=by
 refine wpList_plain q λK G=> ?_
 obtain⟨v',k,J,C,D,F⟩:=oU (P:=P) (w:=w) t o.type E i z size b M H O e p y r f g B l c;unfold nV;simp[execOp,I,resolve,invoke,builtin,L,N,J,dP];exact G _ _ (h v' k C D F)
def rZ{g o a K Q X}(p:o.guard=ah)(s x t)(G:o.op=.call {callee:=.builtin .append,args:=#[s,x],argTypes:=#[t,t]})(E i z size b)(J:P.underlying t=af (.slice E))(F:P.info? E=af i)(N:i.zero=af z)(d:i.size=size)(l:i.bytes=b)(r:z.cells.size=size)(q:0<size){v u n m y news}(I:a.eval s=v)(M:a.eval x=u)(e:w.ownsRow 0 E size v n y)(f:w.ownsRow 0 E size u m news)(A:∀x∈news,x.oneCell'=ak)(k:n+m<=maxLen)(c:(n+m) *b<=140737488355328)(h:∀v' j,j.ownsRow 0 E size v' (n+m) (y++news)->w.grownBy j v.ownBlock->(v'.ownBlock=v.ownBlock\/v'.ownBlock=af w.heap.size)->K (a.put o.dst v') j):if aW o (yielded g a.tmps)=ak then nV P o a w K Q else X:=by
 have L:aW o (yielded g a.tmps)=ak:=by simp[aW,p]
 rw[if_pos L];obtain⟨v',j,H,B,C,D⟩:=oU (P:=P) (w:=w) t o.type E i z size b J F N d l r q e f A k c;unfold nV;simp[execOp,G,resolve,invoke,builtin,I,M,H,dP];exact h v' j B C D
end
section
variable{G:Nat->Prop} {Z w Y:ar} {l:List cX} {E:cD} {size n m:Nat} {v v':aB} {X news:List aB}
def In.l5(h:In G Z (dN E size v n X::l) w)(a:Y.ownsRow 0 E size v' (n+m) (X++news))(i:w.grownBy Y v.ownBlock)(d:v'.ownBlock=v.ownBlock\/v'.ownBlock=af w.heap.size):In G Z (dN E size v' (n+m) (X++news)::l) Y:=by obtain⟨g,⟨j,f⟩,_,b⟩:=h.open_;refine b (A':=dN E size v' (n+m) (X++news)) ⟨a,λk c=> ?_⟩ (cT.grown (F:=g) i λk c=>f k c);rcases d with e|e;exact bq (f k (by rw[<-e];exact c));rw[c]at e;injection e with e;exact cc ⟨by omega,(fa a k c).2⟩
def In.xB(h:In G Z l w)(E a):In G Z (dN E a.length (.slice (af ⟨w.heap.size,0,ah⟩) 1 1) 1 a::l) (w.alloc (.cells a.toArray E)):=h.new (A:=dN E a.length (.slice (af ⟨w.heap.size,0,ah⟩) 1 1) 1 a) ((Below.refl _ _).alloc (ao _) _) ⟨⟨by simp,cc ⟨w.heap.size,1,a.toArray,rfl,bH _,heap_alloc_new w _,ao _,by unfold maxLen;omega,by simp,by simp⟩⟩,λk b=>by simp[eB]at b;omega⟩
end
end
section
open Go.RowKit Go.Shelf Go.Sort
section
variable{Z:Type} [Inhabited Z] {Y:Z->List aB} {k:Nat}
def vQ(e:∀x,(Y x).length=k)(d):(flatK Y k d).toList=d.toList.flatMap Y:=by
 apply kM;intro t;have m:=ns e d.toList;by_cases c:t<d.size *k;have b:0<k:=by rcases fP k with h|h;subst h;simp at c;exact h
 have a:t / k<d.size:=(Nat.div_lt_iff_lt_mul b).2 c;have hm:=Nat.mod_lt t b;have l:=get_flatK Y k d t c;have i:(flatK Y k d).toList[t]? =af ((Y d[t / k]!)[t % k]!):=by rw[Array.getElem?_toList,aS (by simpa using c),<-l];rw[getElem!_pos (flatK Y k d) t (by simpa using c)]
 have f:=np e d.toList (t / k) (t % k) (by simpa using a) hm;rw[Nat.mul_comm,Nat.div_add_mod]at f;rw[i,f];have j:d[t / k]! =d.toList[t / k]'(by simpa using a):=by rw[getElem!_pos d (t / k) a];simp
 rw[j];have g:t % k<(Y (d.toList[t / k]'(by simpa using a))).length:=by rw[e];exact hm
 rw[aj g,getElem!_pos (Y (d.toList[t / k]'(by simpa using a))) _ g];rw[iD (by simp;omega),iD (by rw[m];simp;omega)]
def vX(e:∀x,(Y x).length=k){w E g c}{a:List Z}(h:w.ownsRow 0 E k (.slice (af ⟨g,0,ah⟩) a.length c) a.length (a.flatMap Y)):HoldsK Y k w g 0 a.toArray:=by
 intro j b;rw[size_flatK]at b;have d:j<a.length *k:=by simpa using b
 have i:=ns e a;have f:(flatK Y k a.toArray)[j]! =(a.flatMap Y)[j]'(by omega):=by rw[getElem!_pos (flatK Y k a.toArray) j (by simpa using b),<-Array.getElem_toList];simp only[vQ e]
 refine⟨?_,by rw[bN];exact h.frozenAt _⟩;rw[bN,World.ownsRow.cellAt h j d,f,aj (by omega)];rfl
def yx(w g m d b):cT (· =g) w (sortWorldK Y k w g 0 m d b):=by refine⟨rfl,rfl,rfl,?_,λq c a=> ?_⟩;show w.heap.size<=((w.heap.modify g _)++b).size;simp;show((w.heap.modify g _)++b)[q]? =_;rw[Array.getElem?_append_left (by simpa using c),bp,if_neg (λe=>a e.symm)]
def AO(l:∀x,(Y x).length=k){w E g c}{a:List Z}(h:w.ownsRow 0 E k (.slice (af ⟨g,0,ah⟩) a.length c) a.length (a.flatMap Y))(m d)(r:d.size=a.length)(s):(sortWorldK Y k w g 0 m d s).ownsRow 0 E k (.slice (af ⟨g,0,ah⟩) d.toList.length c) d.toList.length (d.toList.flatMap Y):=by
 have n:=(h.lt g rfl).2;obtain⟨H,y|⟨F,u,b,e,_,B,z,A,q,G⟩⟩:=h;cases y.1;injection e with f D v;injection f with f;injection f with f;subst f;subst v;have i:d.toList.length=a.length:=by simpa using r
 refine⟨ns l _,cc ⟨g,c,putCells id 0 (flatK Y k d) b,rfl,bH _,?_,by omega,A,by simpa[putCells]using q,?_⟩⟩;show((w.heap.modify g _)++s)[g]? =_;rw[Array.getElem?_append_left (by simpa using n),bp,if_pos rfl,B];rfl;rw[i];have C:a.length *k<=b.size:=by rw[q];exact fh k z
 apply kM;intro t;have j:=ns l d.toList;rw[i]at j;by_cases o:t<a.length *k;rw[gF,if_pos o,Array.getElem?_toList];unfold putCells;rw[Array.getElem?_mapIdx,aS (by omega)];simp only[fD];have p:t<(flatK Y k d).size:=by rw[size_flatK,r];exact o
 rw[if_pos ⟨bH _,by omega⟩,Nat.sub_zero,getElem!_pos (flatK Y k d) t p,<-Array.getElem_toList];simp only[vQ l,id];rw[aj];rw[gF,if_neg o,iD (by omega)]
end
section
variable{Z:Type} [Inhabited Z] {enc:Z->List aB} {k:Nat} {ρ:Ren} {G:Nat->Prop} {Y w:ar} {l:List cX} {v:aB} {X:List Z}
def Gx(L:SlLaysF0.n6 ai ρ)(N:∀w,(isAgg (ρ.t 24)).run ai w=.ok ak w)(zE:∀w,(Go.sizeOf (ρ.t 24)).run ai w=.ok k w)(C:∀x,(enc x).length=k)(S:∀x,∀u∈enc x,u.oneCell'=ak)(s)(T:SWO (ltOf s))(g:Nat)(Q:∀args w,(callFunc g args).run ai w=.ok (.enter g args) w)(o:∀blk H size w,CmpLays ai g #[] enc k s blk H size w)(E)(h:In G Y (dN E k v X.length (X.flatMap enc)::l) w)(hl:X.length<=1099511627776):Calls ai (ρ.f 6) #[v,.func (.func g) #[] #[]] w λe I=>e=.returned (.tuple #[])/\∃y:List Z,y.Perm X/\y.Pairwise (λa b=>decide (s b a<0)=aq)/\In G Y (dN E k v y.length (y.flatMap enc)::l) I:=by
 obtain⟨F1,⟨t,J⟩,_,m⟩:=h.open_;obtain⟨A,c,rfl,U,V,W⟩:=aP t;by_cases R:X.length=0;have hx:X=[]:=dw R;subst hx;exact(AnyF.slices_SortFunc_none L A c (.func (.func g) #[] #[]) w).mono λe I ⟨z,hw⟩=>⟨z,[],ot _,List.Pairwise.nil,by rw[hw];exact h⟩
 obtain⟨b,rfl⟩:=W (by omega);have D:=(t.lt b rfl).2;have p:=AnyQ.slices_SortFunc L k N zE enc C S s T g #[] b 0 c X.toArray w Q (o b 0 _ w) (vX C t) D (by simp;omega);refine p.mono ?_;rintro e I ⟨z,d,n,M,⟨F,_,hp⟩,f,rfl⟩;have r:d.size=X.length:=by simpa using F
 refine⟨z,d.toList,?_,?_,?_⟩;have O:d.extract 0 X.toArray.size=d:=by rw[<-F];exact Array.extract_size
 have P:X.toArray.extract 0 X.toArray.size=X.toArray:=Array.extract_size;rw[O,P]at hp;exact hp;rw[List.pairwise_iff_getElem];intro i j hi K B;have:=f i j (bH _) B (by rw[<-F];simpa using K);rw[getElem!_pos d j (by simpa using K),getElem!_pos d i (by simpa using hi)]at this;exact this;have hv:d.toList.length=X.length:=by simpa using r
 refine m (A':=dN E k (.slice (af ⟨b,0,ah⟩) X.length c) d.toList.length (d.toList.flatMap enc)) ⟨?_,λq hq=>bq (J q hq)⟩ ((yx w b n d M).mono λq _ e=>by subst e;exact J _ rfl);have:=AO C t n d r M;rw[hv]at this|-;exact this
end
end
section
open Go.RowKit Go.Shelf
def tq:Ren:=⟨λ|6=>141|14=>184|15=>150|28=>193|29=>194|20=>219|21=>220|22=>221|23=>222|24=>223|25=>224|26=>225|27=>226|46=>242|47=>228|48=>229|49=>243|50=>244|57=>249|n=>n,λ|22=>122|24=>43|25=>146|3=>3|39=>230|0=>0|53=>187|55=>184|4=>4|46=>257|45=>256|50=>261|5=>5|9=>9|66=>289|70=>292|76=>303|77=>304|n=>n,λn=>n⟩
def BD:SlLaysF0.n6 ai tq:={mixed:=by kernel_rfl,f6:=⟨f141.name,by decide,func141.trans (congrArg af (by kernel_rfl))⟩,f14:=⟨f184.name,by decide,func184.trans (congrArg af (by kernel_rfl))⟩,f15:=func150.trans (congrArg af (by kernel_rfl)),f20:=⟨f219.name,by decide,func219.trans (congrArg af (by kernel_rfl))⟩,f21:=⟨f220.name,by decide,func220.trans (congrArg af (by kernel_rfl))⟩,f22:=⟨f221.name,by decide,func221.trans (congrArg af (by kernel_rfl))⟩,f23:=⟨f222.name,by decide,func222.trans (congrArg af (by kernel_rfl))⟩,f24:=⟨f223.name,by decide,func223.trans (congrArg af (by kernel_rfl))⟩,f25:=⟨f224.name,by decide,func224.trans (congrArg af (by kernel_rfl))⟩,f26:=⟨f225.name,by decide,func225.trans (congrArg af (by kernel_rfl))⟩,f27:=⟨f226.name,by decide,func226.trans (congrArg af (by kernel_rfl))⟩,f28:=func193.trans (congrArg af (by kernel_rfl)),f29:=func194.trans (congrArg af (by kernel_rfl)),f46:=⟨f242.name,by decide,func242.trans (congrArg af (by kernel_rfl))⟩,f47:=func228.trans (congrArg af (by kernel_rfl)),f48:=func229.trans (congrArg af (by kernel_rfl)),f49:=⟨f243.name,by decide,func243.trans (congrArg af (by kernel_rfl))⟩,f50:=⟨f244.name,by decide,func244.trans (congrArg af (by kernel_rfl))⟩,f57:=⟨f249.name,by decide,func249.trans (congrArg af (by kernel_rfl))⟩,t0:=underlying0,a0:=Tryz.isAgg0,z0:=Tryz.sizeOf0,v0:=Tryz.zeroValue0,t3:=underlying3,a3:=Tryz.isAgg3,z3:=Tryz.sizeOf3,v3:=Tryz.zeroValue3,t4:=underlying4,a4:=Tryz.isAgg4,z4:=Tryz.sizeOf4,v4:=Tryz.zeroValue4,t5:=underlying5,a5:=Tryz.isAgg5,z5:=Tryz.sizeOf5,v5:=Tryz.zeroValue5,t9:=underlying9,a9:=Tryz.isAgg9,z9:=Tryz.sizeOf9,v9:=Tryz.zeroValue9,t22:=underlying122,a22:=Tryz.isAgg122,z22:=Tryz.sizeOf122,v22:=Tryz.zeroValue122,t25:=underlying146,a25:=Tryz.isAgg146,z25:=Tryz.sizeOf146,v25:=Tryz.zeroValue146,t39:=underlying230,a39:=Tryz.isAgg230,z39:=Tryz.sizeOf230,v39:=Tryz.zeroValue230,t45:=underlying256,a45:=Tryz.isAgg256,z45:=Tryz.sizeOf256,v45:=Tryz.zeroValue256,t46:=underlying257,a46:=Tryz.isAgg257,z46:=Tryz.sizeOf257,v46:=Tryz.zeroValue257,t50:=underlying261,a50:=Tryz.isAgg261,z50:=Tryz.sizeOf261,v50:=Tryz.zeroValue261,t53:=underlying187,a53:=Tryz.isAgg187,z53:=Tryz.sizeOf187,v53:=Tryz.zeroValue187,t55:=underlying184,a55:=Tryz.isAgg184,z55:=Tryz.sizeOf184,v55:=Tryz.zeroValue184,t66:=underlying289,a66:=Tryz.isAgg289,z66:=Tryz.sizeOf289,v66:=Tryz.zeroValue289,t70:=underlying292,a70:=Tryz.isAgg292,z70:=Tryz.sizeOf292,v70:=Tryz.zeroValue292,t76:=underlying303,a76:=Tryz.isAgg303,z76:=Tryz.sizeOf303,v76:=Tryz.zeroValue303,t77:=underlying304,a77:=Tryz.isAgg304,z77:=Tryz.sizeOf304,v77:=Tryz.zeroValue304}
def wO:Ren:=⟨λ|6=>100|14=>152|15=>150|28=>193|29=>194|20=>195|21=>196|22=>197|23=>198|24=>199|25=>200|26=>201|27=>202|46=>232|47=>228|48=>229|49=>233|50=>234|57=>246|n=>n,λ|22=>34|24=>45|25=>177|3=>3|39=>230|0=>0|53=>187|55=>184|4=>4|46=>257|45=>256|50=>261|5=>5|9=>9|66=>289|70=>292|76=>303|77=>304|n=>n,λn=>n⟩
def Gw:SlLaysF0.n6 ai wO:={mixed:=by kernel_rfl,f6:=⟨f100.name,by decide,func100.trans (congrArg af (by kernel_rfl))⟩,f14:=⟨f152.name,by decide,func152.trans (congrArg af (by kernel_rfl))⟩,f15:=func150.trans (congrArg af (by kernel_rfl)),f20:=⟨f195.name,by decide,func195.trans (congrArg af (by kernel_rfl))⟩,f21:=⟨f196.name,by decide,func196.trans (congrArg af (by kernel_rfl))⟩,f22:=⟨f197.name,by decide,func197.trans (congrArg af (by kernel_rfl))⟩,f23:=⟨f198.name,by decide,func198.trans (congrArg af (by kernel_rfl))⟩,f24:=⟨f199.name,by decide,func199.trans (congrArg af (by kernel_rfl))⟩,f25:=⟨f200.name,by decide,func200.trans (congrArg af (by kernel_rfl))⟩,f26:=⟨f201.name,by decide,func201.trans (congrArg af (by kernel_rfl))⟩,f27:=⟨f202.name,by decide,func202.trans (congrArg af (by kernel_rfl))⟩,f28:=func193.trans (congrArg af (by kernel_rfl)),f29:=func194.trans (congrArg af (by kernel_rfl)),f46:=⟨f232.name,by decide,func232.trans (congrArg af (by kernel_rfl))⟩,f47:=func228.trans (congrArg af (by kernel_rfl)),f48:=func229.trans (congrArg af (by kernel_rfl)),f49:=⟨f233.name,by decide,func233.trans (congrArg af (by kernel_rfl))⟩,f50:=⟨f234.name,by decide,func234.trans (congrArg af (by kernel_rfl))⟩,f57:=⟨f246.name,by decide,func246.trans (congrArg af (by kernel_rfl))⟩,t0:=underlying0,a0:=Tryz.isAgg0,z0:=Tryz.sizeOf0,v0:=Tryz.zeroValue0,t3:=underlying3,a3:=Tryz.isAgg3,z3:=Tryz.sizeOf3,v3:=Tryz.zeroValue3,t4:=underlying4,a4:=Tryz.isAgg4,z4:=Tryz.sizeOf4,v4:=Tryz.zeroValue4,t5:=underlying5,a5:=Tryz.isAgg5,z5:=Tryz.sizeOf5,v5:=Tryz.zeroValue5,t9:=underlying9,a9:=Tryz.isAgg9,z9:=Tryz.sizeOf9,v9:=Tryz.zeroValue9,t22:=underlying34,a22:=Tryz.isAgg34,z22:=Tryz.sizeOf34,v22:=Tryz.zeroValue34,t25:=underlying177,a25:=Tryz.isAgg177,z25:=Tryz.sizeOf177,v25:=Tryz.zeroValue177,t39:=underlying230,a39:=Tryz.isAgg230,z39:=Tryz.sizeOf230,v39:=Tryz.zeroValue230,t45:=underlying256,a45:=Tryz.isAgg256,z45:=Tryz.sizeOf256,v45:=Tryz.zeroValue256,t46:=underlying257,a46:=Tryz.isAgg257,z46:=Tryz.sizeOf257,v46:=Tryz.zeroValue257,t50:=underlying261,a50:=Tryz.isAgg261,z50:=Tryz.sizeOf261,v50:=Tryz.zeroValue261,t53:=underlying187,a53:=Tryz.isAgg187,z53:=Tryz.sizeOf187,v53:=Tryz.zeroValue187,t55:=underlying184,a55:=Tryz.isAgg184,z55:=Tryz.sizeOf184,v55:=Tryz.zeroValue184,t66:=underlying289,a66:=Tryz.isAgg289,z66:=Tryz.sizeOf289,v66:=Tryz.zeroValue289,t70:=underlying292,a70:=Tryz.isAgg292,z70:=Tryz.sizeOf292,v70:=Tryz.zeroValue292,t76:=underlying303,a76:=Tryz.isAgg303,z76:=Tryz.sizeOf303,v76:=Tryz.zeroValue303,t77:=underlying304,a77:=Tryz.isAgg304,z77:=Tryz.sizeOf304,v77:=Tryz.zeroValue304}
def yH:Ren:=⟨λ|6=>97|14=>149|15=>150|28=>193|29=>194|20=>185|21=>186|22=>187|23=>188|24=>189|25=>190|26=>191|27=>192|46=>227|47=>228|48=>229|49=>230|50=>231|57=>245|n=>n,λ|22=>33|24=>50|25=>167|3=>3|39=>230|0=>0|53=>187|55=>184|4=>4|46=>257|45=>256|50=>261|5=>5|9=>9|66=>289|70=>292|76=>303|77=>304|n=>n,λn=>n⟩
def JI:SlLaysF0.n6 ai yH:={mixed:=by kernel_rfl,f6:=⟨f97.name,by decide,func97.trans (congrArg af (by kernel_rfl))⟩,f14:=⟨f149.name,by decide,func149.trans (congrArg af (by kernel_rfl))⟩,f15:=func150.trans (congrArg af (by kernel_rfl)),f20:=⟨f185.name,by decide,func185.trans (congrArg af (by kernel_rfl))⟩,f21:=⟨f186.name,by decide,func186.trans (congrArg af (by kernel_rfl))⟩,f22:=⟨f187.name,by decide,func187.trans (congrArg af (by kernel_rfl))⟩,f23:=⟨f188.name,by decide,func188.trans (congrArg af (by kernel_rfl))⟩,f24:=⟨f189.name,by decide,func189.trans (congrArg af (by kernel_rfl))⟩,f25:=⟨f190.name,by decide,func190.trans (congrArg af (by kernel_rfl))⟩,f26:=⟨f191.name,by decide,func191.trans (congrArg af (by kernel_rfl))⟩,f27:=⟨f192.name,by decide,func192.trans (congrArg af (by kernel_rfl))⟩,f28:=func193.trans (congrArg af (by kernel_rfl)),f29:=func194.trans (congrArg af (by kernel_rfl)),f46:=⟨f227.name,by decide,func227.trans (congrArg af (by kernel_rfl))⟩,f47:=func228.trans (congrArg af (by kernel_rfl)),f48:=func229.trans (congrArg af (by kernel_rfl)),f49:=⟨f230.name,by decide,func230.trans (congrArg af (by kernel_rfl))⟩,f50:=⟨f231.name,by decide,func231.trans (congrArg af (by kernel_rfl))⟩,f57:=⟨f245.name,by decide,func245.trans (congrArg af (by kernel_rfl))⟩,t0:=underlying0,a0:=Tryz.isAgg0,z0:=Tryz.sizeOf0,v0:=Tryz.zeroValue0,t3:=underlying3,a3:=Tryz.isAgg3,z3:=Tryz.sizeOf3,v3:=Tryz.zeroValue3,t4:=underlying4,a4:=Tryz.isAgg4,z4:=Tryz.sizeOf4,v4:=Tryz.zeroValue4,t5:=underlying5,a5:=Tryz.isAgg5,z5:=Tryz.sizeOf5,v5:=Tryz.zeroValue5,t9:=underlying9,a9:=Tryz.isAgg9,z9:=Tryz.sizeOf9,v9:=Tryz.zeroValue9,t22:=underlying33,a22:=Tryz.isAgg33,z22:=Tryz.sizeOf33,v22:=Tryz.zeroValue33,t25:=underlying167,a25:=Tryz.isAgg167,z25:=Tryz.sizeOf167,v25:=Tryz.zeroValue167,t39:=underlying230,a39:=Tryz.isAgg230,z39:=Tryz.sizeOf230,v39:=Tryz.zeroValue230,t45:=underlying256,a45:=Tryz.isAgg256,z45:=Tryz.sizeOf256,v45:=Tryz.zeroValue256,t46:=underlying257,a46:=Tryz.isAgg257,z46:=Tryz.sizeOf257,v46:=Tryz.zeroValue257,t50:=underlying261,a50:=Tryz.isAgg261,z50:=Tryz.sizeOf261,v50:=Tryz.zeroValue261,t53:=underlying187,a53:=Tryz.isAgg187,z53:=Tryz.sizeOf187,v53:=Tryz.zeroValue187,t55:=underlying184,a55:=Tryz.isAgg184,z55:=Tryz.sizeOf184,v55:=Tryz.zeroValue184,t66:=underlying289,a66:=Tryz.isAgg289,z66:=Tryz.sizeOf289,v66:=Tryz.zeroValue289,t70:=underlying292,a70:=Tryz.isAgg292,z70:=Tryz.sizeOf292,v70:=Tryz.zeroValue292,t76:=underlying303,a76:=Tryz.isAgg303,z76:=Tryz.sizeOf303,v76:=Tryz.zeroValue303,t77:=underlying304,a77:=Tryz.isAgg304,z77:=Tryz.sizeOf304,v77:=Tryz.zeroValue304}
end
section
open Go.RowKit
end
section
open Go.RowKit Go.MapKept Go.ChangeMaps
structure lZ(P:br) (k:cD) {κ:Type} (ek:κ->aB) (good:κ->Prop):Prop where
 inj:∀{a b:κ},ek a=ek b->a=b
 check:∀(w:ar)(em:Bool)(x:κ),good x->(fH em 10000 k (ek x)).run P w=.ok () w
 find:∀(w:ar)(x:κ),good x->∀es:List MapEntry,(∀e∈es,∃y,good y/\e.key=ek y)->((jw k (ek x) es).run P w=.ok ah w/\∀e∈es,e.key≠ek x)\/∃j e,(jw k (ek x) es).run P w=.ok (af (j,e.val)) w/\es[j]? =af e/\e.key=ek x
 stays:∀(w:ar)(x:κ),(Instr.keyThatStays (ek x) (ek x)).run P w=.ok (ek x) w
def eE{f g:Type}(h:f->aB)(i:g->aB)(c:f->Prop)(w:ar)(b:Nat)(m:List (f×g)):Prop:=∃d a,w.heap[b]? =af (.map d a)/\Stamped d a/\d.toList.map (λe=>(e.key,e.val))=m.map (λp=>(h p.1,i p.2))/\∀p∈m,c p.1
section
variable{Z Y:Type} {P:br} {k:cD} {X:Z->aB} {W:Y->aB} {V:Z->Prop} {w w':ar} {b:Nat} {m:List (Z×Y)}
def eE.lt(h:eE X W V w b m):b<w.heap.size:=by obtain⟨d,a,c,_⟩:=h;exact(aC.1 c).1
def eE.block(h:eE X W V w b m)(f:w'.heap[b]? =w.heap[b]?):eE X W V w' b m:=by obtain⟨c,a,d,e⟩:=h;exact⟨c,a,f.trans d,e⟩
def eE.only{F}(h:eE X W V w b m)(c:cT F w w')(a:¬F b):eE X W V w' b m:=h.block (c.block b h.lt a)
def eE.below{B}(h:eE X W V w b m)(c:Below B w w')(a:b<B):eE X W V w' b m:=h.block (c.block b a)
def eE.after(h:eE X W V w b m)(a:Below w.heap.size w w'):eE X W V w' b m:=h.below a h.lt
def eE.new(w:ar)(X)(W:Y->aB)(V:Z->Prop):eE X W V (w.alloc (.map #[] 0)) w.heap.size []:=⟨#[],0,(MapKept.heap_alloc w _).1,stamped_empty 0,rfl,by simp⟩
def zg{b:List MapEntry}(h:b.map (λe=>(e.key,e.val))=m.map (λp=>(X p.1,W p.2)))(f:∀p∈m,V p.1):∀e∈b,∃y,V y/\e.key=X y:=by
 intro e d;have:(e.key,e.val)∈m.map (λp=>(X p.1,W p.2)):=by rw[<-h];exact aA.2 ⟨e,d,rfl⟩
 obtain⟨p,hp,a⟩:=aA.1 this;injection a with c g;exact⟨p.1,f p hp,c.symm⟩
def eE.nodup(K:lZ P k X V)(h:eE X W V w b m):(bI m).Nodup:=by
 obtain⟨g,c,_,l,j,_⟩:=h;have i:g.toList.map (·.key)=(bI m).map X:=by have:=congrArg (List.map Prod.fst) j;simpa[bI,Function.comp_def]using this
 have f:=l.2.2;rw[i]at f;exact(List.Pairwise.of_map X (λa b d e=>d (by rw[e])) f)
def find_spec(K:lZ P k X V){b:List MapEntry}(f:b.map (λe=>(e.key,e.val))=m.map (λp=>(X p.1,W p.2))){x}:(∀e∈b,e.key≠X x)↔x∉bI m:=by
 have d:b.map (·.key)=(bI m).map X:=by have:=congrArg (List.map Prod.fst) f;simpa[bI,Function.comp_def]using this
 constructor;intro h i;have:X x∈b.map (·.key):=by rw[d];exact aA.2 ⟨x,i,rfl⟩
 obtain⟨e,a,c⟩:=aA.1 this;exact h e a c;intro h e a g;have:e.key∈b.map (·.key):=aA.2 ⟨e,a,rfl⟩;rw[d]at this;obtain⟨y,j,c⟩:=aA.1 this;exact h (by rw[<-K.inj (c.trans g)];exact j)
def za(K:lZ P k X V){b:List MapEntry}(f:b.map (λe=>(e.key,e.val))=m.map (λp=>(X p.1,W p.2))){x}{j:Nat}{e}(g:b[j]? =af e)(h:e.key=X x):∃v,m[j]? =af (x,v)/\e.val=W v:=by have:=congrArg (·[j]?) f;simp only[dX,g,fD]at this;obtain⟨p,hp,a⟩:=aG.1 this.symm;injection a with c d;have:p.1=x:=K.inj (c.trans h);refine⟨p.2,?_,d.symm⟩;rw[hp,<-this]
def ic(w b o):cT (· =b) w (setBlock w b o):=⟨rfl,rfl,rfl,by simp[setBlock],λi _ a=>by simp[setBlock,Array.getElem?_setIfInBounds,Ne.symm a]⟩
def dz{Z Y:Type}(X:Z->aB)(W:Y->aB)(V:Z->Prop)(w:ar)(b r:Nat)(m left:List (Z×Y)):Prop:=
 ∃f c a d g,w.heap[b]? =af (.map f c)/\Stamped f c/\f.toList.map (λe=>(e.key,e.val))=m.map (λp=>(X p.1,W p.2))/\(∀p∈m,V p.1)/\
  w.heap[r]? =af (.mapIter (af b) a d g)/\(∀x∈f.toList,x.born<a)/\a<=g/\a<=c/\
  (f.toList.filter λe=> !d.contains e.born).map (λe=>(e.key,e.val))=left.map (λp=>(X p.1,W p.2))/\∀p∈left,p∈m
def dz.map{r left}(h:dz X W V w b r m left):eE X W V w b m:=by obtain⟨e,a,c,d,k,f,g,i,j,_⟩:=h;exact⟨e,a,f,g,i,j⟩
def dz.lt{r left}(h:dz X W V w b r m left):r<w.heap.size:=by obtain⟨g,a,c,d,f,i,j,k,l,e,_⟩:=h;exact(aC.1 e).1
def dz.ne{r left}(h:dz X W V w b r m left):r≠b:=by obtain⟨j,a,c,f,i,g,k,l,n,d,_⟩:=h;intro e;rw[e,g]at d;cases d
def dz.block{r left}(h:dz X W V w b r m left)(o:w'.heap[b]? =w.heap[b]?)(p:w'.heap[r]? =w.heap[r]?):dz X W V w' b r m left:=by obtain⟨f,a,c,d,e,g,i,j,k,l,n⟩:=h;exact⟨f,a,c,d,e,o.trans g,i,j,k,p.trans l,n⟩
def dz.only{F r left}(h:dz X W V w b r m left)(a:cT F w w')(c:¬F b)(d:¬F r):dz X W V w' b r m left:=h.block (a.block b h.map.lt c) (a.block r h.lt d)
def dz.count{r left}(h:dz X W V w b r m left):w.rangeLeft b r=left.length:=by obtain⟨j,a,c,d,i,e,k,l,n,f,o,p,q,g,_⟩:=h;unfold World.rangeLeft;rw[e,f];have:=congrArg List.length g;simp only[aY]at this;rw[<-this];simp only[leftOf];rw[<-Array.length_toList,Array.toList_filter]
def eE.range(h:eE X W V w b m){t e}(l:P.underlying t=af (.map k e)):∃w',(Instr.range t (.map (af b))).run P w=.ok (.pointer (af ⟨w.heap.size,0,ah⟩)) w'/\dz X W V w' b w.heap.size m m/\Below w.heap.size w w'/\w'.heap.size=w.heap.size+1:=by
 have d:=h.lt;obtain⟨c,a,f,i,g,j⟩:=h;refine⟨_,run_range_map w t k e b c a l f,⟨c,a,a,#[],a,((MapKept.heap_alloc w _).2 b d).trans f,i,g,j,(MapKept.heap_alloc w _).1,i.1,ao _,ao _,?_,λp hp=>hp⟩,(Below.refl _ _).alloc (ao _) _,by simp⟩;have:(c.toList.filter λe=> !(#[]:Array Nat).contains e.born)=c.toList:=List.filter_eq_self.2 λe _=>by simp
 rw[this];exact g
section
variable [DecidableEq Z]
def eE.look(K:lZ P k X V)(h:eE X W V w b m){t e}(p:P.underlying t=af (.map k e)){z}(A:(zeroValue e).run P w=.ok z w){x}(n:V x)(c):(lC t (.map (af b)) (X x) c).run P w=.ok (if c then .tuple #[(eI m x).elim z W,.bool (eI m x).isSome]else(eI m x).elim z W) w:=by have u:=h.nodup K;obtain⟨q,a,o,C,i,s⟩:=h;rcases K.find w x n q.toList (zg i s)with⟨d,f⟩|⟨j,B,d,f,r⟩;have g:eI m x=ah:=oi.2 ((find_spec K i).1 f);simp[lC,run_underlying p,km o,K.check w _ x n,d,A,dP,g];obtain⟨v,y,l⟩:=za K i f r;have g:eI m x=af v:=nu u (kO y);simp[lC,run_underlying p,km o,K.check w _ x n,d,dP,g,l]
def Ll{es:List MapEntry}{x v u j}(h:(bI m).Nodup)(b:m[j]? =af (x,u)):m.map (λp=>if p.1=x then(x,v)else p)=m.set j (x,v):=by
 apply kM;intro i;rw[dX,fE];by_cases a:j=i;subst a;have c:=(bg.1 b).1;rw[if_pos rfl,if_pos c,b];simp;rw[if_neg a];cases d:m[i]? with
 |none=>rfl|some p=>
  have:p.1≠x:=by
   intro e;have g:(bI m)[i]? =af x:=by simp[bI,d,e]
   have f:(bI m)[j]? =af x:=by simp[bI,b]
   have c:=(bg.1 f).1;exact a ((List.getElem?_inj c h).1 (f.trans g.symm))
  simp[this]
def eE.store(K:lZ P k X V)(h:eE X W V w b m){t e}(D:P.underlying t=af (.map k e)){x}(n:V x)(v):∃w',(Instr.mapUpdate t (.map (af b)) (X x) (W v)).run P w=.ok () w'/\eE X W V w' b (jK m x v)/\cT (· =b) w w'/\w'.heap.size=w.heap.size:=by
 have J:=h.nodup K;have s:=h.lt;obtain⟨es,a,l,C,g,A⟩:=h;have c:∀p∈jK m x v,V p.1:=λp hp=>by rcases Sg hp with rfl|⟨hp,_⟩;exact n;exact A p hp
 have d:∀o,(setBlock w b o).heap[b]? =af o:=λo=>by simp[setBlock,s]
 rcases K.find w x n es.toList (zg g A)with⟨q,f⟩|⟨j,F,q,f,r⟩;have y:=(find_spec K g).1 f;refine⟨setBlock w b (.map (es.push ⟨X x,W v,a⟩) (a+1)),?_,⟨_,_,d _,stamped_push C f,?_,c⟩,ic _ _ _,by simp[setBlock]⟩;simp[Instr.mapUpdate,run_underlying D,km l,K.check w aq x n,q,MapKept.run_setObj_map _ l,dP,setBlock];unfold jK;rw[if_neg,Array.toList_push,en,g,en];rfl;intro H;obtain⟨p,hp,G⟩:=nS.1 H;exact y (aA.2 ⟨p,hp,by simpa using G⟩);obtain⟨u,E,I⟩:=za K g f r;have B:es[j]? =af F:=by simpa using f
 refine⟨setBlock w b (.map (es.modify j (λz=>{z with key:=X x,val:=W v})) a),?_,⟨_,_,d _,stamped_modify C _ _ (λ_ _=>rfl) (λz _ i=>by rw[B]at i;cases i;exact r.symm),?_,c⟩,ic _ _ _,by simp[setBlock]⟩;simp[Instr.mapUpdate,run_underlying D,km l,K.check w aq x n,q,B,r,K.stays w x,MapKept.run_setObj_map _ l,dP,setBlock];unfold jK;rw[if_pos (nS.2 ⟨(x,u),kO E,by simp⟩),Ll (es:=es.toList) J E,Array.toList_modify,modify_eq_set _ _ _ _ f,jG,g,jG]
def uZ{x u j}(e:(bI m).Nodup)(d:m[j]? =af (x,u)):dB m x=m.eraseIdx j:=by have hp:m.Pairwise (λp q=>p.1≠q.1):=List.pairwise_map.1 e;exact filter_eq_eraseIdx (λp:Z×Y=>decide (p.1=x)) m j (x,u) d (by simp) (hp.imp λa ⟨b,c⟩=>a (by rw[of_decide_eq_true b,of_decide_eq_true c]))
def M'{x}(h:x∉bI m):dB m x=m:=by
 unfold dB;rw[List.filter_eq_self];intro p hp;have:p.1≠x:=λe=>h (by rw[<-e];exact aA.2 ⟨p,hp,rfl⟩)
 simp[this]
def eE.drop(K:lZ P k X V)(h:eE X W V w b m){t e}(C:P.underlying t=af (.map k e)){x}(z:V x)(H):∃w',(kJ #[t,k] H #[.map (af b),X x]).run P w=.ok (.tuple #[]) w'/\eE X W V w' b (dB m x)/\cT (· =b) w w'/\w'.heap.size=w.heap.size:=by
 have F:=h.nodup K;have v:=h.lt;obtain⟨f,a,n,B,g,A⟩:=h;have c:∀p∈dB m x,V p.1:=λp hp=>A p (fI.1 hp).1
 have d:∀o,(setBlock w b o).heap[b]? =af o:=λo=>by simp[setBlock,v]
 rcases K.find w x z f.toList (zg g A)with⟨q,l⟩|⟨j,I,q,l,D⟩;have y:=(find_spec K g).1 l;refine⟨setBlock w b (.map f a),?_,⟨_,_,d _,B,?_,c⟩,ic _ _ _,by simp[setBlock]⟩;simp[kJ,run_underlying C,km n,K.check w _ x z,q,MapKept.run_setObj_map _ n,dP,setBlock];rw[M' y];exact g;obtain⟨u,G,E⟩:=za K g l D;have r:j<f.toList.length:=(bg.1 l).1;have s:j<f.size:=by simpa using r
 have i:(f.eraseIdxIfInBounds j).toList=f.toList.eraseIdx j:=by unfold Array.eraseIdxIfInBounds;rw[dif_pos s];simp
 refine⟨setBlock w b (.map (f.eraseIdxIfInBounds j) a),?_,⟨_,_,d _,stamped_erase B j,?_,c⟩,ic _ _ _,by simp[setBlock]⟩;simp[kJ,run_underlying C,km n,K.check w _ x z,q,MapKept.run_setObj_map _ n,dP,setBlock];rw[i,uZ F G,map_eraseIdx,map_eraseIdx,g]
def dz.step(K:lZ P k X V){r left}(h:dz X W V w b r m left)(ty):(left=[]/\(Instr.next (.pointer (af ⟨r,0,ah⟩)) aq ty).run P w=.ok (.tuple #[.bool aq]) w)\/∃x v w',(x,v)∈left/\(Instr.next (.pointer (af ⟨r,0,ah⟩)) aq ty).run P w=.ok (.tuple #[.bool ak,X x,W v]) w'/\dz X W V w' b r m (dB left x)/\cT (· =r) w w'/\w'.heap.size=w.heap.size/\(dB left x).length<left.length/\(Instr.entry (.pointer (af ⟨r,0,ah⟩))).run P w'=.ok (.tuple #[X x,W v]) w':=by
 classical
 have U:=h.ne;have E:=h.map.lt;have F:=h.lt;obtain⟨i,c,f,d,c0,h1,t,h3,h4,h5,h6,h7,h8,Q,O⟩:=h;rcases run_next_at (P:=P) w ty r b f c0 d i c h5 h1 h6 h7 with⟨N,n⟩|⟨e,L,J,I,n⟩;refine bq ⟨?_,n⟩;have:=congrArg List.length Q;simp only[aY]at this;unfold leftOf at N;rw[<-Array.length_toList,Array.toList_filter]at N;rw[N]at this;exact dw this.symm;right;unfold leftOf at L;rw[Array.toList_filter]at L;obtain⟨q,hse⟩:=b3.1 L;have G:(e.key,e.val)∈left.map (λp=>(X p.1,W p.2)):=by rw[<-Q];exact aA.2 ⟨e,L,rfl⟩
 obtain⟨⟨x,v⟩,hp,YR⟩:=aA.1 G;injection YR with j s;simp only at j s;have A:J.heap=w.heap:=by rcases I with rfl|rfl<;>rfl
 have u:cT (· =r) w (setBlock J r (.mapIter (af b) f (d.push e.born) c)):=by have:=ic J r (.mapIter (af b) f (d.push e.born) c);rcases I with rfl|rfl;exact this;exact⟨this.os,this.tape,this.output,this.size,this.block⟩
 have H:(setBlock J r (.mapIter (af b) f (d.push e.born) c)).heap[r]? =af (.mapIter (af b) f (d.push e.born) c):=by simp[setBlock,A,F]
 have z:(setBlock J r (.mapIter (af b) f (d.push e.born) c)).heap[b]? =af (.map i c):=(u.block b E (λg=>U g.symm)).trans h1;have B:(i.toList.filter λg=> !(d.push e.born).contains g.born).map (λe=>(e.key,e.val))=(dB left x).map (λp=>(X p.1,W p.2)):=by
  have S:(i.toList.filter λg=> !(d.push e.born).contains g.born)=(i.toList.filter λg=> !d.contains g.born).filter λg=> !decide (g.key=X x):=by
   rw[List.filter_filter];apply List.filter_congr;intro g C;have D:(g.born=e.born)↔(g.key=X x):=by
    constructor;intro R;have:g=e:=by have f1:=find_born g _ t.2.1 C;have f2:=find_born e _ t.2.1 q;rw[R]at f1;exact aX (f1.symm.trans f2)
    rw[this,j];intro T;have:=entry_eq_of_key ((stamped_iff i c).1 t).2.2 C q (T.trans j);rw[this]
   have:(d.push e.born).contains g.born=(d.contains g.born||decide (g.key=X x)):=by rw[fj];simp only[Array.contains_iff_mem,Array.mem_push,ej,decide_eq_true_eq];rw[D]
   rw[this,Bool.not_or,Bool.and_comm]
  rw[S];unfold dB;have gen:∀(i:List MapEntry)(l:List (Z×Y)),i.map (λe=>(e.key,e.val))=l.map (λp=>(X p.1,W p.2))->
   (i.filter λg=> !decide (g.key=X x)).map (λe=>(e.key,e.val))=(l.filter λp=> !decide (p.1=x)).map (λp=>(X p.1,W p.2)):=by
   intro i
   induction i with
   |nil=>intro l o;cases l with|nil=>rfl|cons a l=>simp at o
   |cons a i ih=>intro l o;cases l with
    |nil=>simp at o|cons p l=>
     simp only[gg,List.cons.injEq]at o;have y:(a.key=X x)↔(p.1=x):=by have:=congrArg Prod.fst o.1;simp only at this;rw[this];exact⟨λe=>K.inj e,λe=>by rw[e]⟩
     rw[List.filter_cons,List.filter_cons];by_cases M:p.1=x;rw[decide_eq_true (y.2 M),decide_eq_true M];simpa using ih l o.2;rw[decide_eq_false (λe=>M (y.1 e)),decide_eq_false M];simp only[Bool.not_false,if_true,gg];rw[o.1,ih l o.2]
  exact gen _ _ Q
 refine⟨x,v,_,hp,by rw[j,s];exact n,⟨i,c,f,_,c,z,t,h3,h4,H,h6,h8,h8,B,λp hp=>O p (fI.1 hp).1⟩,u,by simp[setBlock,A],?_,?_⟩;unfold dB;exact List.length_filter_lt_length_iff_exists.2 ⟨(x,v),hp,by simp⟩;rw[j,s];exact run_entry_at _ r b f d i c e H z q t.2.1
def xy{left:List (Z×Y)}(c:(bI left).Nodup){x v}(h:(x,v)∈left):left.Perm ((x,v)::dB left x):=by
 obtain⟨j,b⟩:=List.mem_iff_getElem?.1 h;rw[uZ c b];clear h c
 induction left generalizing j with
 |nil=>simp at b|cons a l d=>
  cases j with|zero=>simp at b;subst b;exact ot _|succ j=>rw[List.eraseIdx_cons_succ];exact((d j (by simpa using b)).cons a).trans (cz _ _ _)
def dz.drop(K:lZ P k X V){r left}(h:dz X W V w b r m left){t e}(ht:P.underlying t=af (.map k e)){x}(T:V x)(F:x∉bI left)(ty):∃w',(kJ #[t,k] ty #[.map (af b),X x]).run P w=.ok (.tuple #[]) w'/\dz X W V w' b r (dB m x) left/\cT (· =b) w w'/\w'.heap.size=w.heap.size:=by
 have hn:=h.map.nodup K;have O:=h.map.lt;have S:=h.ne;obtain⟨q,d,f,c,H,G,hs,A,hg,Y,Z,h7,h8,L,J⟩:=h;have g:∀p∈dB m x,V p.1:=λp hp=>hg p (fI.1 hp).1
 have i:∀o,(setBlock w b o).heap[b]? =af o:=λo=>by simp[setBlock,O]
 have E:∀o,(setBlock w b o).heap[r]? =af (.mapIter (af b) f c H):=λo=>((ic w b o).block r (aC.1 Y).1 S).trans Y
 have C:∀p∈left,p∈dB m x:=λp hp=>fI.2 ⟨J p hp,λe=>F (by rw[<-e];exact aA.2 ⟨p,hp,rfl⟩)⟩
 rcases K.find w x T q.toList (zg A hg)with⟨I,z⟩|⟨j,s,I,z,U⟩;have Q:=(find_spec K A).1 z;refine⟨setBlock w b (.map q d),?_,⟨q,d,f,c,H,i _,hs,?_,g,E _,Z,h7,h8,L,C⟩,ic _ _ _,by simp[setBlock]⟩;simp[kJ,run_underlying ht,km G,K.check w _ x T,I,MapKept.run_setObj_map _ G,dP,setBlock];rw[M' Q];exact A;obtain⟨u,hu,heu⟩:=za K A z U;have M:j<q.toList.length:=(bg.1 z).1;have N:j<q.size:=by simpa using M
 have n:(q.eraseIdxIfInBounds j).toList=q.toList.eraseIdx j:=by unfold Array.eraseIdxIfInBounds;rw[dif_pos N];simp
 refine⟨setBlock w b (.map (q.eraseIdxIfInBounds j) d),?_,⟨_,d,f,c,H,i _,stamped_erase hs j,?_,g,E _,?_,h7,h8,?_,C⟩,ic _ _ _,by simp[setBlock]⟩;simp[kJ,run_underlying ht,km G,K.check w _ x T,I,MapKept.run_setObj_map _ G,dP,setBlock];rw[n,uZ hn hu,map_eraseIdx,map_eraseIdx,A];intro y hy;rw[n]at hy;exact Z y ((List.eraseIdx_sublist _ _).subset hy);rw[<-L,n];congr 1;have v:c.contains s.born=ak:=by
  cases hc:c.contains s.born;exfalso;have D:s∈q.toList.filter λe=> !c.contains e.born:=b3.2 ⟨kO z,by rw[hc];rfl⟩
  have:(s.key,s.val)∈left.map (λp=>(X p.1,W p.2)):=by rw[<-L];exact aA.2 ⟨s,D,rfl⟩
  obtain⟨p,hp,R⟩:=aA.1 this;injection R with q1 q2;have:p.1=x:=K.inj (q1.trans U);exact F (by rw[<-this];exact aA.2 ⟨p,hp,rfl⟩);rfl
 have gen:∀(l:List MapEntry)(j:Nat),l[j]? =af s->(l.eraseIdx j).filter (λe=> !c.contains e.born)=l.filter (λe=> !c.contains e.born):=by
  intro l
  induction l with
  |nil=>intro j B;simp at B|cons a l ih=>
   intro j B;cases j with|zero=>simp at B;subst B;simp only[List.eraseIdx_cons_zero];rw[List.filter_cons,v];simp|succ j=>simp only[List.eraseIdx_cons_succ,List.filter_cons];rw[ih j (by simpa using B)]
 exact gen _ _ z
def yI(K:lZ P k X V){i f o a Q}(l:o.guard=ah)(q r t e c)(p:o.op=Op.lookup t q r c)(u:P.underlying t=af (.map k e))(z)(y:(zeroValue e).run P w=.ok z w)(b m)(hm:a.eval q=.map (af b))(h:eE X W V w b m)(x)(v:a.eval r=X x)(n:V x)(val)(g:(if c then .tuple #[(eI m x).elim z W,.bool (eI m x).isSome]else(eI m x).elim z W)=val)(s:wpList P i Q f (a.put o.dst val) w):wpList P i Q (o::f) a w:=by
 refine wpList_plain l λA j=> ?_
 have d:=h.look K u y n c;rw[g]at d;unfold nV;simp[execOp,p,hm,v,d,dP];exact j _ _ s
def kW(K:lZ P k X V){f c o a Q}(i:o.guard=ah)(n q p t e)(l:o.op=Op.mapUpdate t n q p)(z:P.underlying t=af (.map k e))(b m)(hm:a.eval n=.map (af b))(h:eE X W V w b m)(x)(B:a.eval q=X x)(j:V x)(v)(A:a.eval p=W v)(y:∀w',eE X W V w' b (jK m x v)->cT (· =b) w w'->w'.heap.size=w.heap.size->wpList P f Q c (a.put o.dst undef) w'):wpList P f Q (o::c) a w:=by
 refine wpList_plain i λC g=> ?_
 obtain⟨w',d,r,s,u⟩:=h.store K z j v;unfold nV;simp[execOp,l,hm,B,A,d,dP];exact g _ _ (y w' r s u)
def tB(K:lZ P k X V){f c o a Q}(i:o.guard=ah)(n p t e)(l:o.op=Op.call {callee:=Callee.builtin Builtin.delete,args:=#[n,p],argTypes:=#[t,k]})(v:P.underlying t=af (.map k e))(b m)(hm:a.eval n=.map (af b))(h:eE X W V w b m)(x)(y:a.eval p=X x)(j:V x)(u:∀w',eE X W V w' b (dB m x)->cT (· =b) w w'->w'.heap.size=w.heap.size->wpList P f Q c (a.put o.dst (.tuple #[])) w'):wpList P f Q (o::c) a w:=by
 refine wpList_plain i λz g=> ?_
 obtain⟨w',d,q,r,s⟩:=h.drop K v j o.type;unfold nV;simp[execOp,l,resolve,invoke,builtin,hm,y,d,dP];exact g _ _ (u w' q r s)
def j5(K:lZ P k X V){g d o a Q}(n:o.guard=ah)(p)(l:o.op=Op.next p aq)(b r m left)(j:a.eval p=.pointer (af ⟨r,0,ah⟩))(h:dz X W V w b r m left)(e:left=[]->wpList P g Q d (a.put o.dst (.tuple #[.bool aq])) w)(f:∀x v w',(x,v)∈left->dz X W V w' b r m (dB left x)->cT (· =r) w w'->w'.heap.size=w.heap.size->(dB left x).length<left.length->(Instr.entry (.pointer (af ⟨r,0,ah⟩))).run P w'=.ok (.tuple #[X x,W v]) w'->wpList P g Q d (a.put o.dst (.tuple #[.bool ak,X x,W v])) w'):wpList P g Q (o::d) a w:=by
 refine wpList_plain n λB i=> ?_
 unfold nV;rcases h.step K o.type with⟨q,c⟩|⟨x,v,w',A,c,s,t,u,y,z⟩;simp[execOp,l,j,c,dP];exact i _ _ (e q);simp[execOp,l,j,c,dP];exact i _ _ (f x v w' A s t u y z)
end
def ij{f c o a Q}(i:o.guard=ah)(l t e)(j:o.op=Op.range t l)(s:P.underlying t=af (.map k e))(b m)(hm:a.eval l=.map (af b))(h:eE X W V w b m)(r:∀w',dz X W V w' b w.heap.size m m->Below w.heap.size w w'->w'.heap.size=w.heap.size+1->wpList P f Q c (a.put o.dst (.pointer (af ⟨w.heap.size,0,ah⟩))) w'):wpList P f Q (o::c) a w:=by
 refine wpList_plain i λu g=> ?_
 obtain⟨w',d,n,p,q⟩:=h.range s;unfold nV;simp[execOp,j,hm,d,dP];exact g _ _ (r w' n p q)
end
def Y3{P:br}{k:cD}(a:P.underlying k=af (.int .i64)):lZ P k (aD .i64) (λx=>(Lit.int .i64 x).wf=ak)where
 inj h:=by injection h
 check w em x hx:=(Maps.int_keyed a).check w em (Maps.keyOf_int_mk a hx)
 find w x hx es hes:=(Maps.int_keyed a).find w (Maps.keyOf_int_mk a hx) es λe c=>by obtain⟨y,d,b⟩:=hes e c;rw[b];exact⟨_,Maps.keyOf_int_mk a d⟩
 stays w x:=by simp[Instr.keyThatStays,Instr.sameBits]
def UZ{P:br}{k:cD}{I:Array Field}{n:Nat}(d:Nat)(R:d<=9999)(A:P.underlying k=af (.struct I))(N:qg P d k=ak)(K:P.cellsOf k=n)(D:∀(w:ar)(M:Bool)(u:List Int),u.length=n->(fH M 10000 k (.agg (ints u))).run P w=.ok () w):lZ P k (λu:List Int=>.agg (ints u)) (λu=>u.length=n)where
 inj h:=by injection h with h;exact Iv h
 check:=D
 find w x hx c f:=by
  have t:∀(c:List MapEntry)(i:Nat),c≠ []->(∀e∈c,∃y:List Int,y.length=n/\e.key=.agg (ints y))->Instr.findNow (.struct I) (.agg (ints x)) c i=ah:=by
   intro c i E f;cases c with|nil=>exact absurd rfl E|cons e c=>obtain⟨y,_,v⟩:=f e (by simp);simp[Instr.findNow,v,Instr.sameNow]
  have z:∀(c:List MapEntry)(i:Nat),(∀e∈c,∃y:List Int,y.length=n/\e.key=.agg (ints y))->
   ((Instr.findAsking k (.agg (ints x)) c i).run P w=.ok ah w/\∀e∈c,e.key≠.agg (ints x))\/∃j e,(Instr.findAsking k (.agg (ints x)) c i).run P w=.ok (af (i+j,e.val)) w/\c[j]? =af e/\e.key=.agg (ints x):=by
   intro c
   induction c with
   |nil=>intro i _;exact bq ⟨by simp[Instr.findAsking],by simp⟩|cons e c F=>
    intro i f;obtain⟨y,Q,v⟩:=f e (by simp);have m:(Op.equal k (.agg (ints x)) e.key).run P w=.ok (decide (x=y)) w:=by
     rw[v];have:=tM (P:=P) d (10000-d) k x y w N (by rw[K];exact hx) (by rw[K];exact Q);rw[show 10000-d+d=10000 from by omega]at this;have L:∀G:List Int,valOf P k G=.agg (ints G):=λG=>by simp[valOf,A]
     rw[L,L]at this;exact this
    by_cases o:x=y;right;refine⟨0,e,?_,rfl,by rw[v,o]⟩;rw[decide_eq_true o]at m;simp[Instr.findAsking,m];rw[decide_eq_false o]at m;rcases F (i+1) (λe O=>f e (by simp[O]))with⟨p,r⟩|⟨j,B,p,r,C⟩;left;refine⟨by simp[Instr.findAsking,m,p],λB s=> ?_⟩;rcases b8.1 s with rfl|s;rw[v];intro h;injection h with h;exact o (Iv h).symm;exact r B s;right;exact⟨j+1,B,by simp[Instr.findAsking,m,p];omega,by simpa using r,C⟩
  cases c with
  |nil=>left;simp[jw,run_underlying A,Instr.findNow]|cons H c=>have J:=t (H::c) 0 (by simp) f;rcases z (H::c) 0 f with⟨p,r⟩|⟨j,e,p,r,C⟩;left;exact⟨by simp only[jw,eJ,run_underlying A,gG,J];exact p,r⟩;right;exact⟨j,e,by simp only[jw,eJ,run_underlying A,gG,J];simpa using p,r,C⟩
 stays w x:=by
  have:Instr.sameBits 10000 (.agg (ints x)) (.agg (ints x))=ak:=by
   show((ints x).size==(ints x).size&&((ints x).toList.zip (ints x).toList).all λ(a,b)=>Instr.sameBits 9999 a b)=ak;simp only[beq_self_eq_true,Bool.true_and,lD];rintro⟨a,b⟩ g;rw[ib]at g;have:a=b/\∃q,a=.int .i64 q:=by
    generalize x=l at g
    induction l with
    |nil=>simp at g|cons q l F=>simp at g;rcases g with⟨rfl,rfl⟩|h;exact⟨rfl,q,rfl⟩;exact F (by simpa using h)
   obtain⟨rfl,q,rfl⟩:=this;simp[Instr.sameBits]
  simp[Instr.keyThatStays,this]
end
section
open Go.RowKit
def r9{c d:Type}(e:c->aB)(f:d->aB)(a:c->Prop)(b:Nat)(m:List (c×d)):cX where
 at_ w F:=eE e f a w b m/\F b
 frame h ho hd:=⟨h.1.only ho (hd _ h.2),h.2⟩
 cut h hd:=⟨h.1,hd _ h.1.lt h.2⟩
def gT{c d:Type}(e:c->aB)(f:d->aB)(a:c->Prop)(b r:Nat)(m left:List (c×d)):cX where
 at_ w F:=dz e f a w b r m left/\F b/\F r
 frame h ho hd:=⟨h.1.only ho (hd _ h.2.1) (hd _ h.2.2),h.2⟩
 cut h hd:=⟨h.1,hd _ h.1.map.lt h.2.1,hd _ h.1.lt h.2.2⟩
section
variable{Z Y:Type} {X:Z->aB} {W:Y->aB} {V:Z->Prop} {b r:Nat} {m U left T:List (Z×Y)} {F:Nat->Prop} {S w R:ar} {l:List cX}
def In.iV(h:In F S (r9 X W V b m::l) w):eE X W V w b m:=h.sep.head.1
def In.rF(h:In F S (r9 X W V b m::l) w)(d:eE X W V R b U)(f:cT (· =b) w R):In F S (r9 X W V b U::l) R:=by obtain⟨g,c,i,a⟩:=h.open_;exact a (A':=r9 X W V b U) ⟨d,bq c.2⟩ (f.mono λk _ e=>by rw[e];exact c.2)
def In.FK(h:In F S l w)(X)(W:Y->aB)(V:Z->Prop):In F S (r9 X W V w.heap.size []::l) (w.alloc (.map #[] 0)):=h.new (A:=r9 X W V w.heap.size []) ((Below.refl _ _).alloc (ao _) _) ⟨eE.new _ _ _ _,ao _⟩
def In.rangeAt(h:In F S (gT X W V b r m left::l) w):dz X W V w b r m left:=h.sep.head.1
def In.Bf(h:In F S (r9 X W V b m::l) w)(e:dz X W V R b w.heap.size m left)(d:Below w.heap.size w R)(i:R.heap.size=w.heap.size+1):In F S (gT X W V b w.heap.size m left::l) R:=by obtain⟨f,c,g,a⟩:=h.open_;exact a (A':=gT X W V b w.heap.size m left) ⟨e,bq c.2,cc ⟨ao _,by omega⟩⟩ (cT.fJ d)
def In.mj(h:In F S (gT X W V b r m left::l) w)(f:dz X W V R b r m T)(d:cT (· =r) w R):In F S (gT X W V b r m T::l) R:=by obtain⟨g,c,i,a⟩:=h.open_;exact a (A':=gT X W V b r m T) ⟨f,bq c.2.1,bq c.2.2⟩ (d.mono λk _ e=>by rw[e];exact c.2.2)
def In.Ge(h:In F S (gT X W V b r m left::l) w)(f:dz X W V R b r U T)(d:cT (· =b) w R):In F S (gT X W V b r U T::l) R:=by obtain⟨g,c,i,a⟩:=h.open_;exact a (A':=gT X W V b r U T) ⟨f,bq c.2.1,bq c.2.2⟩ (d.mono λk _ e=>by rw[e];exact c.2.1)
def In.tw(h:In F S (gT X W V b r m left::l) w):In F S (r9 X W V b m::l) w:=by obtain⟨d,c,e,a⟩:=h.open_;exact a (A':=r9 X W V b m) ⟨c.1.map,bq c.2.1⟩ cT.refl
def dz.sub(h:dz X W V w b r m left):∀p∈left,p∈m:=by obtain⟨g,a,d,e,f,_,_,_,_,_,_,_,_,_,c⟩:=h;exact c
end
def In.add0{A F a w l}(h:In F a l w)(b:A.at_ w (λ_=>False)):In F a (A::l) w:=⟨⟨λ_=>False,_,b,h.sep,λ_ h=>h.elim,λk h=>by rcases h with h|h;exact h.elim;exact h⟩,h.only⟩
abbrev ei(v:aB)(a:List Int):cX:=dN 3 1 v a.length (a.map (aD .i64))
def In.lJ{F b w l v a}(h:In F b (ei v a::l) w):∃A c,v=.slice A a.length c/\nJ w w.heap.size A a.length a:=by have:nX w 0 v a:=h.sep.head.1;exact this.form
def qz{w:ar}{B e size n v c}(h:w.ownsRow B e size v n c):w.ownsRow 0 e size v n c:=⟨h.1,by rcases h.2 with h|⟨g,a,b,e,_,r⟩;exact bq h;exact cc ⟨g,a,b,e,bH _,r⟩⟩
def In.tU{F b w w' l v c}(h:In F b l w)(a:nX w' w.heap.size v c)(d:Below w.heap.size w w'):In F b (ei v c::l) w':=h.new d ⟨qz a,λk e=>(fa a k e).1⟩
def jV{x}(h: -1000000000000<=x/\x<=1000000000000):(Lit.int .i64 x).wf=ak:=WalkArith.wf_i64 (by omega)
def sU:lZ ai 3 (aD .i64) (λx=>(Lit.int .i64 x).wf=ak):=Y3 underlying3
abbrev mA(x:Int):Prop:=(Lit.int .i64 x).wf=ak
def Oc(n a v w):(fH a (n+1) 3 v).run ai w=.ok () w:=by unfold fH;rw[eJ,run_underlying underlying3];rfl
def Fc(w b a)(h:a.length=2):(fH b 10000 43 (.agg (ints a))).run ai w=.ok () w:=by
 have d:(part 3 (ints a) 0).run ai w=.ok (.int .i64 (a.getD 0 0)) w:=by have:=oj (P:=ai) w 1 3 a 0 (by kernel_rfl) (by rw[show Tryz.prog.cellsOf 3=1 from by kernel_rfl];omega);rw[this,show Tryz.prog.cellsOf 3=1 from by kernel_rfl];simp[valOf,underlying3,o4,bu]
 have e:(part 3 (ints a) 1).run ai w=.ok (.int .i64 (a.getD 1 0)) w:=by have:=oj (P:=ai) w 1 3 a 1 (by kernel_rfl) (by rw[show Tryz.prog.cellsOf 3=1 from by kernel_rfl];omega);rw[this,show Tryz.prog.cellsOf 3=1 from by kernel_rfl];simp[valOf,underlying3,o4,bu]
 have c:=λv=>Oc 9998 b v w
 rw[show(10000:Nat)=(9998+1)+1 from rfl];unfold fH;rw[eJ,run_underlying underlying43];simp[d,e,c]
def Vo:lZ ai 43 (λa:List Int=>.agg (ints a)) (λa=>a.length=2):=UZ 3 (by omega) underlying43 (by kernel_rfl) (by kernel_rfl) Fc
def iU(h:Hd):aB:=.agg (ints (hL h))
@[go_sem] theorem j7(a b):iU (a,b)=.agg #[.int .i64 a,.int .i64 b]:=rfl
def KY{a b:Hd}(h:hL a=hL b):a=b:=by unfold hL at h;injection h with d c;injection c with c _;exact Prod.ext d c
def An:lZ ai 43 iU (λ_=>True)where
 inj h:=KY (Vo.inj h)
 check w em x _:=Vo.check w em (hL x) rfl
 find w x _ es he:=Vo.find w (hL x) rfl es (λe h=>by obtain⟨y,_,a⟩:=he e h;exact⟨hL y,rfl,a⟩)
 stays w x:=Vo.stays w (hL x)
def J8(w):(zeroValue 43).run ai w=.ok (iU (0,0)) w:=by kernel_rfl
abbrev wZ(b:Nat)(m:lF):cX:=r9 iU iU (λ_=>True) b m
abbrev e9(v:aB)(a:List Hd):cX:=dN 43 2 v a.length (a.flatMap hC)
def mf{w v}{a:List Hd}(h:w.ownsRow 0 43 2 v a.length (a.flatMap hC)):∃A c,v=.slice A a.length c/\a.length<=c/\c<=maxLen/\∀k,(e:k<a.length)->∃g,A=af ⟨g,0,ah⟩/\row? w g (k *2) 2=af (ints [a[k].1,a[k].2]):=by obtain⟨A,c,rfl,b,d,i⟩:=aP h;refine⟨A,c,rfl,b,d,λk e=> ?_⟩;obtain⟨g,rfl⟩:=i (by omega);have f:=lA h e;rw[lz xo a k e]at f;exact⟨g,rfl,f⟩
section
variable{G:Nat->Prop} {Z w Y:ar} {l:List cX}
def In.o6{E size n v f g a o}(h:In G Z (dN E size v n g::l) w)(b:Y.ownsRow 0 E size f (n+1) (g++a))(p:(w.alloc o).grownBy Y v.ownBlock)(i:f.ownBlock=v.ownBlock\/f.ownBlock=af (w.heap.size+1)):In G Z (dN E size f (n+1) (g++a)::l) Y:=by obtain⟨m,⟨q,j⟩,_,c⟩:=h.open_;refine c (A':=dN E size f (n+1) (g++a)) ⟨b,λk d=> ?_⟩ ((cT.refl.alloc o).trans' (cT.grown (F:=m) p λk d=>j k d) λk _ d=>d);rcases i with e|e;exact bq (j k (by rw[<-e];exact d));rw[d]at e;injection e with e;exact cc ⟨by omega,(fa b k d).2⟩
def In.vC{v b cs x o}(h:In G Z (e9 v cs::l) w)(a:Y.ownsRow 0 43 2 b (cs.length+1) (cs.flatMap hC++[.int .i64 x.1,.int .i64 x.2]))(d:(w.alloc o).grownBy Y v.ownBlock)(c:b.ownBlock=v.ownBlock\/b.ownBlock=af (w.heap.size+1)):In G Z (e9 b (cs++[x])::l) Y:=by have:=h.o6 a d c;unfold e9;rw[bm,bS];exact this
def In.rowAt{E size n v a}(h:In G Z (dN E size v n a::l) w):w.ownsRow 0 E size v n a:=h.sep.head.1
def In.kz(h:In G Z l w)(E size):In G Z (dN E size (.slice ah 0 0) 0 []::l) w:=h.add0 ⟨eC _ _ _ _,λk a=>by simp[eB]at a⟩
end
def ia:(Tryz.prog.info? 43).map (λi=>(i.zero,i.size,i.bytes))=af (af (.agg #[.int .i64 0,.int .i64 0]),2,16):=by kernel_rfl
def ja(p:Nat)(m:lF):cX where
 at_ w F:=il m/\∃b,Sep [aN p 175 #[.map (af b)],wZ b m] w F
 frame h ho hd:=by obtain⟨a,b,c⟩:=h;exact⟨a,b,c.frame ho hd⟩
 cut h hd:=by obtain⟨a,b,c⟩:=h;exact⟨a,b,c.cut hd⟩
section
variable{G:Nat->Prop} {Z w:ar} {l:List cX} {p b:Nat} {m:lF}
def In.tV(h:In G Z (ja p m::l) w):il m/\∃b,In G Z (aN p 175 #[.map (af b)]::wZ b m::l) w:=by obtain⟨⟨i,j,⟨hm,b,g⟩,a,c,d⟩,f⟩:=h;exact⟨hm,b,(Sep.join g a c).cut λk _ e=>d k e,f⟩
def In.oc(hm:il m)(h:In G Z (aN p 175 #[.map (af b)]::wZ b m::l) w):In G Z (ja p m::l) w:=by obtain⟨j,i⟩:=h;obtain⟨a,c,d,e,f,g⟩:=Sep.part (l1:=[aN p 175 #[.map (af b)],wZ b m]) (l2:=l) j;exact⟨⟨a,c,⟨hm,b,d⟩,e,f,g⟩,i⟩
def In.Rr(h:In G Z (ja p m::l) w):il m:=h.tV.1
end
def o9(a:List Sys)(n i:Nat)(x:Int):List Int:=cm a i++x::cj (n-i-1) 0
def KX(a n i)(h:i<n):cm a i++cj (n-i) 0=o9 a n i 0:=by unfold o9;rw[show n-i=(n-i-1)+1 from by omega,List.replicate_succ];simp
def RE(a n i):o9 a n i (gq a (cm a i) (a.getD i cW) i)=cm a (i+1)++cj (n-(i+1)) 0:=by unfold o9;rw[cm,b9,show n-(i+1)=n-i-1 from by omega];rfl
def RG(a n i x y):(o9 a n i x).set i y=o9 a n i y:=by unfold o9;rw[mD _ _ (by rw[eZ];omega),eZ,Nat.sub_self];rfl
def U5(a n i x):(ints (o9 a n i x))[i]? =af (.int .i64 x):=by rw[jT];simp[o9,List.getElem?_append,eZ]
def RF(a n i k x)(b:k<i):(ints (o9 a n i x))[k]? =af (.int .i64 ((cm a i).getD k 0)):=by
 rw[jT];have:k<(cm a i).length:=by rw[eZ];exact b
 simp[o9,List.getElem?_append,eZ,b,bu,aj this]
def qE{v n m}(h:n=m):Ending.returned (.tuple #[v,.int .i64 n])=.returned (.tuple #[v,.int .i64 m]):=by rw[h]
def I2(A c a w)(h:pT w w.heap.size A a)(hn:a.length<=maxLen):Calls ai 36 #[.slice A a.length c] w λe w'=>∃v,e=.returned (.tuple #[v,.int .i64 (dL a).2])/\nX w' w.heap.size v (dL a).1/\Below w.heap.size w w':=by
 have H:=ae h;have hnm:(a.length:Int)<=9223372036854775807:=by unfold maxLen at hn;omega
 clear h;go_enter func36,ntmps36;by_cases L:20<a.length
 ·have hd:(decide (20<(a.length:Int)))=ak:=by simp;omega
  have I:Hid (dL a=([],2)):=by unfold Hid dL;rw[if_pos L]
  go_wp2_with fail
  go_ret2
  exact⟨_,qE (by rw[I.out]),by rw[I.out];exact nX.nil _ _,Below.refl _ _⟩
 have hd:(decide (20<(a.length:Int)))=aq:=by simp;omega
 go_wp2_with fail;go_loopw [16] (λi w'=>∃k:Nat,k<=a.length/\i=.int .i64 k/\(∀j,j<k->dH (a.getD j cW)=0)/\Below w.heap.size w w') (λi _=>a.length-(intOf i).toNat)
 case atStart=>exact⟨0,by omega,rfl,λj hj=>by omega,Below.refl _ _⟩
 case round=>
  obtain⟨k,hk,rfl,J,D⟩:=hrel;have l:=ae J;have d:=ae D;clear J D;by_cases z:k<a.length
  ·have G:(k:Int)<a.length:=by omega
   obtain⟨b,o,rfl,Ki,f⟩:=(H.out.below d.out).at_ z;generalize T:a.getD k cW=s at *;have Q:=ae T;clear T;go_upto_region 6 with(fail)
   refine a6 (λw'=>di w' wr.heap.size 54 (ints s.list)/\Below wr.heap.size wr w') ⟨iT wr 54 [0,0,0,0,0,0,0] _ rfl,fy wr 54 [0,0,0,0,0,0,0] _⟩ ?_;rintro w1 ⟨T6,u⟩;have fs:row? w1 wr.heap.size 0 7=af (ints s.list):=T6.aL rfl;have m:=ae (d.out.trans (u.mono d.out.size));clear T6 u;go_wp2_with fail;refine(Ob s _).mono ?_;rintro e w2 ⟨rfl,x⟩;have q:=ae (m.out.trans (x.mono m.out.size));clear x fs;by_cases F:dH s=0
   ·have HE:=ae F;rw[F];clear F;go_wp2_with fail;go_roundw
    case rel=>refine⟨k+1,by omega,by go_num,λj hj=> ?_,q.out⟩;by_cases GZ:j=k;rw[GZ,Q.out];exact HE.out;exact l.out j (by omega)
    simp[intOf];omega
   have I:Hid (dL a=([],dH s)):=by
    have h1:fS (a.map dH)=dH s:=by rw[<-Q.out];exact yn z l.out (by rw[Q.out];exact F)
    unfold Hid dL;rw[if_neg L,h1,if_neg F]
   have Va:(dH s !=0)=ak:=by simpa using F
   clear F;generalize dH s=E at *;go_wp2_with fail
   go_ret2
   exact⟨_,qE (by rw[I.out]),by rw[I.out];exact nX.nil _ _,q.out⟩
  have Y:k=a.length:=by omega
  subst Y;have I:Hid (dL a=(cm a a.length,0)):=by unfold Hid dL;rw[if_neg L,if_pos (uu l.out)]
  have hmk:∀W,(Instr.makeSlice 32 (.int .i64 (a.length:Int)) (.int .i64 (a.length:Int))).run ai W=.ok (.slice (af ⟨W.heap.size,0,ah⟩) a.length a.length) (W.alloc (.cells (ints (cj a.length 0)) 3)):=Dp a.length (by omega);go_upto_region 11 with(fail)
  refine a6 (λw'=>di w' wr.heap.size 3 (ints (cm a 0++cj (a.length-0) 0))/\Below w.heap.size w w') ⟨di.new _ _ _,d.out.alloc d.out.size _⟩ ?_;rintro w1 ⟨Z,u⟩;have X:w.heap.size<=wr.heap.size:=d.out.size;have O:=ae Z;have m:=ae u;clear Z u d l;generalize wr.heap.size=B at *;go_wp2_with fail;go_loopw [31] (λi w'=>∃k:Nat,k<=a.length/\i=.int .i64 k/\di w' B 3 (ints (cm a k++cj (a.length-k) 0))/\Below w.heap.size w w') (λi _=>a.length-(intOf i).toNat)
  case atStart=>exact⟨0,by omega,rfl,O.out,m.out⟩
  clear O m;obtain⟨i,hi,rfl,M,D⟩:=hrel;have d:=ae D;by_cases z:i<a.length
  ·rw[KX a _ i z]at M;have N:=ae M;clear M D;have G:(i:Int)<a.length:=by omega
   obtain⟨b,o,rfl,Ki,f⟩:=(H.out.below d.out).at_ z;generalize T:a.getD i cW=s at *;have Q:=ae T;clear T;go_upto_region 14 with(fail)
   refine a6 (λw'=>di w' wr.heap.size 54 (ints s.list)/\di w' B 3 (ints (o9 a a.length i 0))/\Below w.heap.size w w') ?_ ?_;have D:=fy wr 54 [0,0,0,0,0,0,0] s.list;exact⟨iT wr 54 [0,0,0,0,0,0,0] _ rfl,N.out.after D,d.out.trans (D.mono d.out.size)⟩;rintro w2 ⟨YS,ho2,x⟩;have hg9:B<wr.heap.size:=N.out.lt;have R:=ae YS;have P:=ae ho2;have q:=ae x;clear YS ho2 x N d f;generalize wr.heap.size=g9 at *;go_wp2_with fail;go_loopw [37] (λj w'=>∃k:Nat,k<=i/\j=.int .i64 k/\di w' g9 54 (ints s.list)/\di w' B 3 (ints (o9 a a.length i (gq a (cm a i) s k)))/\Below w.heap.size w w') (λj _=>i-(intOf j).toNat)
   case atStart=>exact⟨0,by omega,rfl,R.out,P.out,q.out⟩
   clear R P q;obtain⟨k,hk,rfl,hs3,ho3,U⟩:=hrel;have K:=ae hs3;have C:=ae ho3;have r:=ae U;clear hs3 ho3 U;by_cases G:k<i
   ·have hkI:(k:Int)<i:=by omega
    have Y:(k:Int)<a.length:=by omega
    obtain⟨b',o',F,abY,f⟩:=(H.out.below r.out).at_ (show k<a.length by omega);cases F;have hP:Hid (gq a (cm a i) s (k+1)=if gi s (a.getD k cW)then max (gq a (cm a i) s k) ((cm a i).getD k 0+1)else gq a (cm a i) s k):=rfl;generalize a.getD k cW=s2 at *;have c1:=λn:After wr=>n.row (n:=7) K.out rfl
    have c2:∀n:After wr,row? n.w b (o+k *7) 7=af (ints s2.list):=λn=>(iP n.below (by have:=C.out.lt;omega) _ _).trans f
    go_upto_region 17 with(fail)
    refine bK (by kernel_rfl) (by kernel_rfl) ?_;repeat(go_big_quiet_step (first|(go_at_call 87;with_reducible exact eN (Od _ _ _))))
    refine wpQuiet_nil ?_;rintro _ ⟨n,rfl⟩;have V:Hid (Below w.heap.size w n.w):=r.out.trans (n.below.mono r.out.size);have S:=ae (K.out.after n.below);have g:=ae (C.out.after n.below);clear c1 c2 f K C r;have bnd:=zi a i k G;cases hC:gi s s2
    ·have t:gq a (cm a i) s (k+1)=gq a (cm a i) s k:=by rw[hP.out,hC];rfl
     rw[<-t]at g;clear hP t hC;go_wp2_with fail;go_roundw
     case rel=>exact⟨k+1,by omega,by go_num,S.out,g.out,V.out⟩
     simp[intOf];omega
    have t:gq a (cm a i) s (k+1)=max (gq a (cm a i) s k) ((cm a i).getD k 0+1):=by rw[hP.out,hC];rfl
    have k1:n.w.cell? ⟨B,i,ah⟩=af (.int .i64 (gq a (cm a i) s k)):=by rw[g.out.cell];exact U5 _ _ _ _
    have k2:n.w.cell? ⟨B,k,ah⟩=af (.int .i64 ((cm a i).getD k 0)):=by rw[g.out.cell];exact RF _ _ _ _ _ G
    have k3:n.w.frozen? ⟨B,i,ah⟩=aq:=g.out.frozen i;have HOs:Hid (∀y,di (n.w.setCell ⟨B,i,ah⟩ (.int .i64 y)) B 3 (ints (o9 a a.length i y))):=λy=>by have:=g.out.set i (.int .i64 y);rwa[ints_set,RG]at this
    have HP:=ae t;clear hP t hC g;generalize hpk:(cm a i).getD k 0=pk at *;generalize YD:gq a (cm a i) s k=ac at *;have YW:IntKind.i64.wrap (pk+1)=pk+1:=IntWalk.i64_in _ (by omega);go_upto_region 18 with(fail)
    go_still_tail 13,(by kernel_rfl)
    repeat still_step
    change wpList _ _ _ _ _ n.w.drew;go_wp2_with fail;go_roundw
    case rel=>exact⟨k+1,by omega,by go_num,(S.out.Da (by omega) _ _),by rw[HP.out];exact HOs.out _,(V.out.setCell (p:=⟨B,i,ah⟩) X _).drew⟩
    simp[intOf];omega
   have:k=i:=by omega
   subst this;go_wp2_with fail;go_roundw
   case rel=>refine⟨k+1,by omega,by go_num,?_,r.out⟩;have:=C.out;rwa[<-Q.out,RE]at this
   simp[intOf];omega
  have:i=a.length:=by omega
  subst this;rw[Nat.sub_self,List.replicate_zero,cK]at M;have N:=ae M;clear M D;go_wp2_with fail
  go_ret2
  refine⟨_,qE (by rw[I.out]),?_,d.out⟩;rw[I.out];have:=nX.AF N.out X (by rw[eZ];exact hn);rwa[eZ]at this
end
namespace Rel
open Go.Conc Go.ConcN
open Go.ConcR (KK WgAt rd wr Payload DC0 stA smA Bk)
section
variable{P:br} {main:Bool} {b:dj} {a:Act} {k:List Item} {Z:List dj} {Y:Array Oper} {i:Nat} {X:List Nat} {o:Oper} {f:eu} {fn:Func} {c:Code} {w:ar}
def nQ(f:eu)(a args:Array aB):Deferred:={target:=.fn (.func f) a,args:=args}
def Gp{u args d b}(e:o.op=.call {callee:=.value u,args,argTypes:=d})(j:a.eval u=.func (.func f) #[] b)(i:P.funcs[f]? =af fn)(c:(fn.name== "runtime.NumGoroutine")=aq)(k:fn.body.isNone=aq)(w):(execOp a.eval o).run P w=.ok (.enter f (args.map a.eval++b)) w:=by
 have g:¬fn.name= "runtime.NumGoroutine" :=by simpa using c
 have h:¬fn.body=ah:=by cases l:fn.body<;>simp_all
 unfold execOp;simp[e,resolve,gE,invoke,callFunc,i,g,h,j]
def yO{u args d c}(e:o.op=.call {callee:=.value u,args,argTypes:=d})(j:a.eval u=.func (.func f) #[] c)(i:P.funcs[f]? =af fn)(b:(fn.name== "runtime.NumGoroutine")=aq)(k:fn.body.isNone=aq)(w):(execOp a.eval o).events P w #[]=#[]:=by
 have g:¬fn.name= "runtime.NumGoroutine" :=by simpa using b
 have h:¬fn.body=ah:=by cases l:fn.body<;>simp_all
 unfold execOp;simp[e,resolve,gE,invoke,callFunc,i,g,h,j]
def JK{u args j d}(q:Y[i]? =af o)(r:aW o (yielded Y a.tmps)=ak)(p:b.kind≠.early)(h:o.op=.call {callee:=.value u,args,argTypes:=j})(n:a.eval u=.func (.func f) #[] d)(l:P.funcs[f]? =af fn)(e:(fn.name== "runtime.NumGoroutine")=aq)(m:fn.body=af c):stepG P main (G (b.at a (.inRegion Y (i::X)::k)) Z) w=.go (G ((base f).at {tmps:=(args.map a.eval++d)++dE (fn.ntmps-(args.map a.eval++d).size) undef,defers:=[]} [.code c]) (b.at a (.inRegion Y (i::X)::k)::Z)) w #[]:=by
 have g:fn.body.isNone=aq:=by rw[m];rfl
 rw[stepG_enter q r p (Gp h n l e g w),enter_at _ l m];unfold listed;rw[yO h n l e g w,seen_none]
def Gy{u args h c}(l:Y[i]? =af o)(q:aW o (yielded Y a.tmps)=ak)(p:b.kind≠.early)(e:o.op=.defer {callee:=.value u,args,argTypes:=h})(m:a.eval u=.func (.func f) #[] c)(r:b.roundOf=ah):stepG P main (G (b.at a (.inRegion Y (i::X)::k)) Z) w=.go (G (b.at (dW ⟨a.tmps,nQ f c (args.map a.eval)::a.defers⟩ o.dst undef) (.inRegion Y X::k)) Z) w #[]:=by
 have g:(execOp a.eval o).run P w=.ok (.defer (nQ f c (args.map a.eval))) w:=by unfold execOp;simp[e,resolve,gE,m,nQ]
 have n:(execOp a.eval o).events P w #[]=#[]:=by unfold execOp;simp[e,resolve,gE,m]
 have d:(b.at ⟨a.tmps,nQ f c (args.map a.eval)::a.defers⟩ (.inRegion Y (i::X)::k)).finish undef=b.at (dW ⟨a.tmps,nQ f c (args.map a.eval)::a.defers⟩ o.dst undef) (.inRegion Y X::k):=by rw[lU,l];rfl
 have j:(b.kind==CallKind.early)=aq:=by simpa using p
 rw[stepG_oper l q,<-d];simp[stepG.apply,g,n,G,Frame.at,j,GStep.after,seen_none]
def Dt{e h d args}(l:a.defers=nQ f d args::h)(j:P.funcs[f]? =af fn)(g:(fn.name== "runtime.NumGoroutine")=aq)(i:fn.body=af c):stepG P main (G {b.at a e with mode:=.returning} Z) w=.go (G ((baseD f).at {tmps:=(args++d)++dE (fn.ntmps-(args++d).size) undef,defers:=[]} [.code c]) ({b.at ⟨a.tmps,h⟩ e with mode:=.returning}::Z)) w #[]:=by
 have k:¬fn.name= "runtime.NumGoroutine" :=by simpa using g
 rw[<-enter_atD (args++d) j i];simp[G,stepG,unwind,callDeferred,Frame.at,l,nQ,invoke,callFunc,j,k,i,GStep.after,seen_none]
def Hh(P:br):dj:={(default:dj)with fn:=P.funcs.size,defers:=[],mode:=.panicking [goexitEntry]}
def Mg{a args}(e:P.funcs[f]? =af fn)(b:(fn.name== "runtime.NumGoroutine")=aq)(d:fn.body=af c):stepG P main (born P (nQ f a args)) w=.go (G ((baseD f).at {tmps:=(args++a)++dE (fn.ntmps-(args++a).size) undef,defers:=[]} [.code c]) [Hh P]) w #[]:=by
 have g:¬fn.name= "runtime.NumGoroutine" :=by simpa using b
 rw[<-enter_atD (args++a) e d];simp[G,born,stepG,unwind,callDeferred,nQ,invoke,callFunc,e,g,d,GStep.after,seen_none,Hh,goexitEntry]
def y3{f g}(j:Y[i]? =af o)(q:aW o (yielded Y a.tmps)=ak)(h:b.kind=.deferred)(d:o.op=.call {callee:=.builtin .recover,args:=#[],argTypes:=f})(l:g.mode=.returning)(p:b.roundOf=ah):stepG P main (G (b.at a (.inRegion Y (i::X)::k)) (g::Z)) w=.go (G (b.at (a.put o.dst .nilIface) (.inRegion Y X::k)) (g::Z)) w #[]:=by
 have e:(execOp a.eval o).run P w=.ok .recover w:=by unfold execOp;simp[d,resolve,invoke,builtin]
 have m:(execOp a.eval o).events P w #[]=#[]:=by unfold execOp;simp[d,resolve,invoke,builtin]
 have c:(b.at a (.inRegion Y (i::X)::k)).finish .nilIface=b.at (a.put o.dst .nilIface) (.inRegion Y X::k):=by rw[lU,j];rfl
 have n:(b.kind==CallKind.early)=aq:=by rw[h];rfl
 rw[stepG_oper j q,<-c];simp[stepG.apply,e,m,G,Frame.at,h,p,GStep.after,seen_none,tryRecover,l]
end
section
variable{P:br} {b:dj} {a:Act} {Z:List Item} {F:Func}
def F4(e:b.kind=.deferred)(d:a.defers=[])(c:P.funcs[b.fn]? =af F)(f:F.results=#[]):QuitsD P 2 0 (G {b.at a Z with mode:=.returning} [Hh P]):=by refine QuitsD.ctl (g':=G (Hh P) []) rfl (λw=> ?_) ?_;simp[G,stepG,unwind,doReturn,results,Frame.at,e,d,Hh,c,f,seen,GStep.after,goexitEntry];refine QuitsD.ctl (g':={G (Hh P) []with status:=.finished}) rfl (λw=> ?_) ⟨rfl,rfl⟩;simp[G,stepG,unwind,Hh,goexitEntry,Frame.catches];rfl
end
section
variable [Payload] {Z:Ph} {Y:Gh} {w:ar} {b:dj} {a:Act} {k:List Item} {X:List dj} {W:Array Oper} {i:Nat} {V:List Nat} {o:Oper} {x y:Code} {c:Operand} {U:Nat}
def lh(O:Z.Ok)(h:Z.WT Y (G (b.at a (.code x::.code y::k)) X) w):Z.WT Y (G (b.at a (.code (.seq x y)::k)) X) w:=.ctl O rfl (λ_=>stepG_seq) h
def GU(O:Z.Ok)(h:Z.WT Y (G (b.at a k) X) w):Z.WT Y (G (b.at a (.code .skip::k)) X) w:=.ctl O rfl (λ_=>stepG_skip) h
def wV(O:Z.Ok)(h:Z.WT Y (G (b.at a (.code x::.inBlock U::k)) X) w):Z.WT Y (G (b.at a (.code (.block U x)::k)) X) w:=.ctl O rfl (λ_=>stepG_block) h
def BU(O:Z.Ok)(h:Z.WT Y (G (b.at a k) X) w):Z.WT Y (G (b.at a (.inBlock U::k)) X) w:=.ctl O rfl (λ_=>stepG_inBlock) h
def NM(O:Z.Ok)(h:Z.WT Y (G (b.at a (.code x::.inLoop x::k)) X) w):Z.WT Y (G (b.at a (.code (.loop x)::k)) X) w:=.ctl O rfl (λ_=>stepG_loop) h
def E1(O:Z.Ok)(h:Z.WT Y (G (b.at a (.code x::.inLoop x::k)) X) w):Z.WT Y (G (b.at a (.inLoop x::k)) X) w:=.ctl O rfl (λ_=>stepG_inLoop) h
def gO(O:Z.Ok)(h:Z.WT Y (G (b.at a (.inRegion W (bB W.size)::k)) X) w):Z.WT Y (G (b.at a (.code (.region U W aq)::k)) X) w:=.ctl O rfl (λ_=>stepG_region) h
def lN(O:Z.Ok)(h:Z.WT Y (G (b.at a k) X) w):Z.WT Y (G (b.at a (.inRegion W []::k)) X) w:=.ctl O rfl (λ_=>stepG_region_end) h
def J5(O:Z.Ok)(d:a.eval c=.bool ak)(h:Z.WT Y (G (b.at a (.code x::k)) X) w):Z.WT Y (G (b.at a (.code (.cond c x y)::k)) X) w:=.ctl O rfl (λ_=>stepG_cond d) h
def BT(O:Z.Ok)(d:a.eval c=.bool aq)(h:Z.WT Y (G (b.at a (.code y::k)) X) w):Z.WT Y (G (b.at a (.code (.cond c x y)::k)) X) w:=.ctl O rfl (λ_=>stepG_cond d) h
def NL(O:Z.Ok){c}(d:exitTo U k=af c)(h:Z.WT Y (G (b.at a c) X) w):Z.WT Y (G (b.at a (.code (.exit U)::k)) X) w:=.ctl O rfl (λ_=>stepG_exit d) h
def GN(O:Z.Ok)(h:Z.WT Y (G {b.at a []with mode:=.returning} X) w):Z.WT Y (G (b.at a []) X) w:=.ctl O rfl (λ_=>stepG_end) h
def kH(O:Z.Ok)(v)(m:W[i]? =af o)(n:aW o (yielded W a.tmps)=ak)(l:b.kind≠.early)(d:∀c,Z.eT Y w c->(execOp a.eval o).run Z.P c=.ok (.value v) c)(g:∀c,Z.eT Y w c->(execOp a.eval o).events Z.P c #[]=#[])(h:Z.WT Y (G (b.at (a.put o.dst v) (.inRegion W V::k)) X) w):Z.WT Y (G (b.at a (.inRegion W (i::V)::k)) X) w:=.pure O v m n l d (λc f e j=>by rw[g c f]at j;simp at j) h
def pB(O:Z.Ok)(v){ad}(n:W[i]? =af o)(p:aW o (yielded W a.tmps)=ak)(j:b.kind≠.early)(m:Y.own ad.block\/Z.mX ad.block)(d:∀c,Z.eT Y w c->(execOp a.eval o).run Z.P c=.ok (.value v) c)(g:∀c,Z.eT Y w c->∀e∈(execOp a.eval o).events Z.P c #[],e=⟨.cell ad,aq,aq⟩)(h:Z.WT Y (G (b.at (a.put o.dst v) (.inRegion W V::k)) X) w):Z.WT Y (G (b.at a (.inRegion W (i::V)::k)) X) w:=.pure O v n p j d (λc f e l=>by rw[g c f e l];exact .inr ⟨rfl,ad.block,rfl,m.imp id λx=>.inr ⟨rfl,x⟩⟩) h
variable{f:eu} {T:Func} {z:Code}
def BS(O:Z.Ok){u args d caps}(m:W[i]? =af o)(p:aW o (yielded W a.tmps)=ak)(l:b.kind≠.early)(e:o.op=.call {callee:=.value u,args,argTypes:=d})(n:a.eval u=.func (.func f) #[] caps)(j:Z.P.funcs[f]? =af T)(c:(T.name== "runtime.NumGoroutine")=aq)(g:T.body=af z)(h:Z.WT Y (G ((base f).at {tmps:=(args.map a.eval++caps)++dE (T.ntmps-(args.map a.eval++caps).size) undef,defers:=[]} [.code z]) (b.at a (.inRegion W (i::V)::k)::X)) w):Z.WT Y (G (b.at a (.inRegion W (i::V)::k)) X) w:=.ctl O rfl (λ_=>JK m p l e n j c g) h
def Qc(O:Z.Ok){u args d c}(j:W[i]? =af o)(n:aW o (yielded W a.tmps)=ak)(g:b.kind≠.early)(e:o.op=.defer {callee:=.value u,args,argTypes:=d})(m:a.eval u=.func (.func f) #[] c)(l:b.roundOf=ah)(h:Z.WT Y (G (b.at (dW ⟨a.tmps,nQ f c (args.map a.eval)::a.defers⟩ o.dst undef) (.inRegion W V::k)) X) w):Z.WT Y (G (b.at a (.inRegion W (i::V)::k)) X) w:=.ctl O rfl (λ_=>Gy j n g e m l) h
def Mv(O:Z.Ok){d g c args}(j:a.defers=nQ f c args::g)(k:Z.P.funcs[f]? =af T)(e:(T.name== "runtime.NumGoroutine")=aq)(i:T.body=af z)(h:Z.WT Y (G ((baseD f).at {tmps:=(args++c)++dE (T.ntmps-(args++c).size) undef,defers:=[]} [.code z]) ({b.at ⟨a.tmps,g⟩ d with mode:=.returning}::X)) w):Z.WT Y (G {b.at a d with mode:=.returning} X) w:=.ctl O rfl (λ_=>Dt j k e i) h
def Wz(O:Z.Ok){a args}(d:Z.P.funcs[f]? =af T)(b:(T.name== "runtime.NumGoroutine")=aq)(c:T.body=af z)(h:Z.WT Y (G ((baseD f).at {tmps:=(args++a)++dE (T.ntmps-(args++a).size) undef,defers:=[]} [.code z]) [Hh Z.P]) w):Z.WT Y (born Z.P (nQ f a args)) w:=.ctl O rfl (λ_=>Mg d b c) h
def GQ(O:Z.Ok){c d}(j:W[i]? =af o)(m:aW o (yielded W a.tmps)=ak)(g:b.kind=.deferred)(e:o.op=.call {callee:=.builtin .recover,args:=#[],argTypes:=c})(f:d.mode=.returning)(l:b.roundOf=ah)(h:Z.WT Y (G (b.at (a.put o.dst .nilIface) (.inRegion W V::k)) (d::X)) w):Z.WT Y (G (b.at a (.inRegion W (i::V)::k)) (d::X)) w:=.ctl O rfl (λ_=>y3 j m g e f l) h
def WB{t u}(h:W[i]? =af o)(s:aW o (yielded W a.tmps)=ak)(n:b.kind≠.early)(r:o.op=.recv t u ak)(y:a.eval u=.chan (af Z.Ch))(x:∀w,(execOp a.eval o).run Z.P w=.ok (.comm #[rcase Z.Ch Z.z] ak (.recv ak)) w)(q:∀w,(execOp a.eval o).events Z.P w #[]=#[])(f:∀c p,Z.eT Y w c->p<Z.nj->¬Y.held p->Z.J0 p c->Z.WT (Y.hold p) (G (b.at (a.put o.dst (.tuple #[Z.jv p,.bool ak])) (.inRegion W V::k)) X) c)(e:∀c,Z.eT Y w c->Z.WT Y.close (G (b.at (a.put o.dst (.tuple #[Z.z,.bool aq])) (.inRegion W V::k)) X) c):Z.WT Y (G (b.at a (.inRegion W (i::V)::k)) X) w:=by
 have d:∀v,Go.Conc.served (G (b.at a (.inRegion W (i::V)::k)) X) v=G (b.at (a.put o.dst v) (.inRegion W V::k)) X:=λv=>by unfold Go.Conc.served;show({frame:=(b.at a (.inRegion W (i::V)::k)).finish v,callers:=X,status:=.running,dying:=ah}:aw)=_;rw[lU,h];rfl
 refine .recv rfl (λc _=> ?_) (λc p g j l m=> ?_) λc g=> ?_
 rw[stepG_comm h s n (x c)];unfold listed;rw[q c,seen_none];unfold Ph.got;rw[d];exact f c p g j l m;unfold Ph.got;rw[d];exact e c g
end
end Rel
namespace Rel
open Go.Conc Go.ConcN Go.RowKit Go.Conc.Lib Go.ConcR.Gen Go.ConcN.Gen
open Go.ConcR (KK WgAt rd wr mk Payload DC0 stA smA wgBlock Aside2)
section
variable [Payload] {Z:Ph} {L:WgLink} {Y:Gh} {w:ar}
def aaz{P}(H:WgLib P L){i l h C n g k val}{d:dj}{c a e b f m qt}(p:QuitsD P qt 0 (G (d.at (c.put ((a[e]?).bind (·.dst)) (.tuple #[])) (.inRegion a b::f)) m))(w)(j:WgLive L.tWg h w/\Has C (k-1) val w):Goes P aq (RW L.tWg h C n g (k-1)) (DWs h i l C n k) (AtR0 P L.tWg h C n g k val) 23 (G ((base L.done).at ⟨#[.pointer (af ⟨h,0,ah⟩),undef,undef,undef],[]⟩ [.code (body_done L)]) (d.at c (.inRegion a (e::b)::f)::m)) w:=by
 lib_facts
 have o:= @addNegN _ L P H i l h C n g k val;simp only[body_done,body_add,doneFn,addFn,bT]at o|-
 u_reg kn_rely j
 u_op kn_rely j
 u_in kn_rely j
 refine goes_call rfl rfl (by k_ne) rfl H.f_add (nm_add L) rfl ⟨by u_nil,?_⟩;walk_nrmf addFn;refine o (qt:=qt+3) ?_ _ j;refine QuitsD.ctl rfl (λ_=>stepG_region_end) ?_;refine QuitsD.ctl rfl (λ_=>stepG_end) ?_;exact QuitsD.leave0 rfl rfl H.f_done rfl p
def WA(H:WgLib Z.P L)(j:Z.ty=L.tWg){C v}{e:dj}{d a f c g l qt}(h:Y.over)(hC:Y.own C)(o:PayAt C 1 w)(q:Has C 0 v w)(m:WgLive Z.ty Z.Wg w)(n:∀i,Y.held i->Z.JP (λb=>Y.own b/\b≠C) i w)(p:QuitsD Z.P qt 0 (G (e.at (d.put ((a[f]?).bind (·.dst)) (.tuple #[])) (.inRegion a c::g)) l)):Z.WT Y (G ((base L.done).at ⟨#[.pointer (af ⟨Z.Wg,0,ah⟩),undef,undef,undef],[]⟩ [.code (body_done L)]) (e.at d (.inRegion a (f::c)::g)::l)) w:=by refine .tail ⟨C,v,23,h,hC,n,o,?_⟩;rw[j]at m|-;exact aaz (k:=1) H p w ⟨m,q⟩
end
end Rel
namespace Rel
open Go.Conc Go.ConcN
open Go.ConcR (KK WgAt rd wr Payload DC0 stA smA Bk)
section
variable{P:br}
def IV(V):Sub (only V):=λ_ _ h=>h.1
def zh{V}:Ren.Ok P (only V):=⟨λ_ _ _ h k=>h.1.symm.trans k.1,λ_ _ _ h k=>h.1.trans k.1.symm,λ_ _ h=>by rw[h.1]⟩
def cg.qw{S V w c}(h:cg P S (only V) w w)(g:w.heap.size<=c.heap.size)(e:∀b,V b->c.heap[b]? =w.heap[b]?)(f:∀a x,S.mem a=af x->c.heap[a.block]? =w.heap[a.block]?):cg P S (only V) c c:=h.keeps (IV V) g (λb d=>e b d.2) f
def sub_eq{a}(s:Sub a):a=only (λr=>a r r):=by funext l r;exact propext ⟨λh=>⟨s _ _ h,(s _ _ h)▸h⟩,λh=>h.1▸h.2⟩
def wu{c}(D:c.Fits P){V w}(C:cg P c.sig (only V) w w){a:Act}{o}(u:∀t,c.kc t=.any)(v:n9 c o.op=ak)(s:lY c (only V) a.eval a.eval){x b}(g:(execOp a.eval o).run P w=.ok x b):∃k:Nat->Prop,(∀r,V r->k r)/\(∀r,k r->V r\/(w.heap.size<=r/\r<b.heap.size))/\cg P c.sig (only k) b b/\NQ c (only k) x x/\(∀r,r<w.heap.size->¬V r->b.heap[r]? =w.heap[r]?)/\w.heap.size<=b.heap.size/\b.tape=w.tape/\b.os=w.os/\b.output=w.output/\∀e∈(execOp a.eval o).events P w #[],zy c.sig (only k) e:=by
 have i:=(AY D zh s ⟨λ_=>⟨rfl,rfl⟩,λt _=>.inr ⟨rfl,by rw[u t];trivial⟩⟩ o v).run C #[] #[];have n:(execOp a.eval o).runT P w #[]=(.ok x b,(execOp a.eval o).events P w #[]):=by rw[Sem.runT_eq,g]
 rw[n]at i;obtain⟨_,_,p⟩:=i;obtain⟨y,J,H,I,e,q,m,j,d,_,f⟩:=p λ_ _ _=>rfl
 rw[n,jF]at q;simp only[Prod.mk.injEq,Result.ok.injEq]at q;obtain⟨⟨A,B⟩,p⟩:=q;subst A;subst B;have G:=(IV V).TU d rfl;rw[sub_eq G]at m j f;refine⟨λr=>y r r,λr g=>d.le _ _ ⟨rfl,g⟩,λr g=> ?_,j,m,λr g F=>d.rest r g λl z=>F (z.1▸z.2),d.size,d.tape,d.os,d.output,λe E=>f e (by rw[<-p];exact E)⟩;rcases d.new r r g with h|⟨h,_⟩;exact .inl h.2;exact .inr ⟨h,(j.lt (l:=r) (r:=r) ⟨rfl,g⟩).1⟩
end
section
variable [Payload] {Z:Ph} {Y:Gh} {w:ar} {b:dj} {a:Act} {k:List Item} {X:List dj} {W:Array Oper} {i:Nat} {U:List Nat} {o:Oper}
def Ij{c:h9}(k:∀a x,c.mem a=af x->Z.mX a.block){V l:Nat->Prop}{w d t}(m:∀r,V r->Y.own r)(i:∀r,Y.own r->¬Z.CB r)(o:∀r,Z.CB r->r<w.heap.size)(n:∀r,l r->V r\/(w.heap.size<=r/\r<d.heap.size))(b:∀r,r<w.heap.size->¬V r->d.heap[r]? =w.heap[r]?)(q:w.heap.size<=d.heap.size)(v:d.tape=w.tape)(y:d.os=w.os)(z:d.output=w.output)(p:∀e∈t,zy c.sig (only l) e):Z.yK Y w d t:=by
 have f:∀r,Z.CB r->d.heap[r]? =w.heap[r]?:=λr g=>b r (o r g) λs=>i r (m r s) g
 refine⟨λr g B _=>b r g λs=>B (m r s),λC i _=> ?_,λr g=> ?_,q,v,y,z,λe A=> ?_⟩;unfold da;rw[f _ i];unfold ft;rw[f _ g];have u:∀r,l r->(Y.grow w d).own r:=λr g=>(n r g).elim (λh=>.inl (m r h)) .inr
 cases p e A with|cell wr j=>exact .inr ⟨rfl,_,rfl,.inl (u _ (j.1▸j.2))⟩|obj wr j=>exact .inr ⟨rfl,_,rfl,.inl (u _ (j.1▸j.2))⟩|room=>exact .inl ⟨_,rfl,.inl rfl⟩|ext _=>exact .inl ⟨_,rfl,.inr ⟨_,rfl⟩⟩|old hm=>exact .inr ⟨rfl,_,rfl,.inr (.inr ⟨rfl,k _ _ hm⟩)⟩
def Mw{c:h9}(I:c.Fits Z.P){V:Nat->Prop}(H:∀r,V r->Y.own r)(E:∀r,Y.own r->¬Z.CB r)(F:∀r,Z.CB r->r<w.heap.size)(P:cg Z.P c.sig (only V) w w)(S:W[i]? =af o)(T:aW o (yielded W a.tmps)=ak)(R:b.kind≠.early)(q:n9 c o.op=ak)(n:lY c (only V) a.eval a.eval)(Q:ar->aB->ar->Prop)(f:∀d,Z.eT Y w d->∃v g,(execOp a.eval o).run Z.P d=.ok (.value v) g/\Q d v g)(K:∀d v g(m:Nat->Prop),Z.eT Y w d->Q d v g->(∀r,V r->m r)->(∀r,m r->V r\/(d.heap.size<=r/\r<g.heap.size))->cg Z.P c.sig (only m) g g->bz c.sig (only m) v v->(∀r,r<d.heap.size->¬V r->g.heap[r]? =d.heap[r]?)->d.heap.size<=g.heap.size->Z.WT (Y.grow d g) (G (b.at (a.put o.dst v) (.inRegion W U::k)) X) g)(p:∀t,c.kc t=.any:=by intro t;rfl)(l:∀a x,c.mem a=af x->Z.mX a.block:=by intro a x h;cases(show(ah:Option Int)=af x from h)):Z.WT Y (G (b.at a (.inRegion W (i::U)::k)) X) w:=by
 classical
 let y:ar->aB:=λd=>if r:Z.eT Y w d then(f d r).choose else undef
 let u:ar->ar:=λd=>if r:Z.eT Y w d then(f d r).choose_spec.choose else d
 have e:∀d,Z.eT Y w d->(execOp a.eval o).run Z.P d=.ok (.value (y d)) (u d)/\Q d (y d) (u d):=λd r=>by have:=(f d r).choose_spec.choose_spec;simp only[y,u,dif_pos r];exact this
 have j:∀d,Z.eT Y w d->cg Z.P c.sig (only V) d d:=λd r=>P.qw r.size (λx s=>r.own x (H x s)) λa x s=>r.rd _ (l a x s)
 refine .op y u S T R (λd r=>(e d r).1) (λd r=> ?_) λd r=> ?_
 obtain⟨m,_,A,_,_,C,D,M,N,O,z⟩:=wu I (j d r) p q n (e d r).1;exact Ij l H E (λx s=>bQ (F x s) r.size) A C D M N O z;obtain⟨m,J,A,L,B,C,D,_⟩:=wu I (j d r) p q n (e d r).1;cases B with|value B=>exact K d _ _ m r (e d r).2 J A L B C D
def WC{c:h9}(C:c.Fits Z.P){V:Nat->Prop}(B:∀r,V r->Y.own r)(z:∀r,Y.own r->¬Z.CB r)(A:∀r,Z.CB r->r<w.heap.size)(J:cg Z.P c.sig (only V) w w)(M:W[i]? =af o)(N:aW o (yielded W a.tmps)=ak)(L:b.kind≠.early)(n:n9 c o.op=ak)(l:lY c (only V) a.eval a.eval)(u:ar->ar)(e:∀d,Z.eT Y w d->(execOp a.eval o).run Z.P d=.ok .skip (u d))(K:∀d(j:Nat->Prop),Z.eT Y w d->(∀r,V r->j r)->(∀r,j r->V r\/(d.heap.size<=r/\r<(u d).heap.size))->cg Z.P c.sig (only j) (u d) (u d)->(∀r,r<d.heap.size->¬V r->(u d).heap[r]? =d.heap[r]?)->d.heap.size<=(u d).heap.size->Z.WT (Y.grow d (u d)) (G (b.at (a.put o.dst undef) (.inRegion W U::k)) X) (u d))(m:∀t,c.kc t=.any:=by intro t;rfl)(g:∀a x,c.mem a=af x->Z.mX a.block:=by intro a x h;cases(show(ah:Option Int)=af x from h)):Z.WT Y (G (b.at a (.inRegion W (i::U)::k)) X) w:=by
 have f:∀d,Z.eT Y w d->cg Z.P c.sig (only V) d d:=λd r=>J.qw r.size (λx p=>r.own x (B x p)) λa x p=>r.rd _ (g a x p)
 refine .opN u M N L e (λd r=> ?_) λd r=> ?_
 obtain⟨j,_,s,_,_,v,y,F,H,I,q⟩:=wu C (f d r) m n l (e d r);exact Ij g B z (λx p=>bQ (A x p) r.size) s v y F H I q;obtain⟨j,D,s,E,_,v,y,_⟩:=wu C (f d r) m n l (e d r);exact K d j r D s E v y
def Sd(U:List Tmp):List Tmp:=(bB 128).filter λt=> !U.contains t
def Fl{c d U}{a:Act}(m:c.bad=Sd U)(i:a.tmps.size<=128)(h:∀t∈U,bz c.sig d (a.tmps.getD t undef) (a.tmps.getD t undef)):lY c d a.eval a.eval:=by
 intro o b;cases o with
 |tmp t=>
  have k:t∉c.bad:=by simpa[ew]using b
  rw[m]at k;show bz c.sig d (a.tmps.getD t undef) (a.tmps.getD t undef);by_cases j:t<128;by_cases l:t∈U;exact h t l;exact absurd (b3.2 ⟨eS.2 j,by simpa using l⟩) k;have e:128<=t:=Nat.le_of_not_lt j;have:a.tmps.getD t undef=undef:=by rw[bF,Array.getElem?_eq_none (bD i e)];rfl
  rw[this];exact .tuple rfl (by simp)
 |const v=>exact tN 4 v b d|global g=>cases b|func f=>exact .func (.func b) rfl (by simp) rfl (by simp)
end
end Rel
namespace Rel
open Go.Conc
variable{P:br}
def qd(a):∀n i acc w c,(∀j,j<n->(w.cell? (a.add (i+j))).isSome)->∀b∈(loadCellsFrom a i n acc).events P w c,b∈c\/∃e:Addr,b=⟨.cell e,aq,aq⟩/\e.block=a.block
 |0,_,_,_,_,_=>λb h=>.inl (by simpa[loadCellsFrom]using h)|n+1,i,acc,w,c,hc=>λb h=>by
  simp only[loadCellsFrom,Sem.events_bind]at h;obtain⟨u,d⟩:=Option.isSome_iff_exists.1 (hc 0 (by omega));simp only[j6]at d;have f:(load (a.add i)).run P w=.ok u w:=by simp[d]
  rw[f]at h;rcases qd a n (i+1) (acc.push u) w _ (λj g=>by have:=hc (j+1) (by omega);rwa[show i+(j+1)=i+1+j by omega]at this) b h with h|h;rw[events_load,d]at h;rcases Array.mem_push.1 h with h|rfl;exact .inl h;exact .inr ⟨a.add i,rfl,by unfold Addr.add;split<;>rfl⟩;exact .inr h
def Ox{t g o n w}(c:∀w,(isAgg t).run P w=.ok ak w)(b:∀w a,(isAgg t).events P w a=a)(f:∀w,(sizeOf t).run P w=.ok n w)(d:∀w a,(sizeOf t).events P w a=a)(l:∀j,j<n->(w.cell? ⟨g,o+j,ah⟩).isSome):∀e∈(eo t (.pointer (af ⟨g,o,ah⟩))).events P w #[],∃i:Addr,e=⟨.cell i,aq,aq⟩/\i.block=g:=by
 intro e k;have h:(eo t (.pointer (af ⟨g,o,ah⟩))).events P w #[]=(loadCells ⟨g,o,ah⟩ n).events P w #[]:=by simp[eo,Instr.sureAddr,loadVar,c,b,f,d]
 rw[h]at k;rcases qd ⟨g,o,ah⟩ n 0 #[] w #[] (λj m=>by have:=l j m;rw[bN,show(⟨g,o,ah⟩:Addr).add j=⟨g,o+j,ah⟩from by unfold Addr.add;split<;>simp_all];exact this) e k with h|h;simp at h;exact h
def oE{t g o n w f}(c:P.underlying t=af (.struct f))(l:(P.info? t).map (·.size)=af n)(k:∀j,j<n->(w.cell? ⟨g,o+j,ah⟩).isSome):∀e∈(eo t (.pointer (af ⟨g,o,ah⟩))).events P w #[],∃a:Addr,e=⟨.cell a,aq,aq⟩/\a.block=g:=by obtain⟨i,b,h⟩:=aG.1 l;refine Ox (n:=n) (λw=> ?_) (λw d=> ?_) (λw=> ?_) (λw d=> ?_) k;simp[isAgg,Go.underlying,c];simp[isAgg,Go.underlying,c];simp[sizeOf,typeInfo,b,h];simp[sizeOf,typeInfo,b]
end Rel
namespace Rel
open Go.Conc Go.ConcN
open Go.ConcR (KK WgAt rd wr Payload DC0 stA smA Bk)
def Ro{a}:Sem a->Prop
 |.pure _=>True|.load _ _ k=>∀v,Ro (k v)
 |.program k=>∀p,Ro (k p)
 |.halt _=>True|_=>False
def Ro.bind{d e s}(h:Ro s){f:d->Sem e}(c:∀a,Ro (f a)):Ro (s.bind f):=by
 induction s with|pure a=>exact c a|load m a k b=>exact λv=>b v (h v)|program k b=>exact λp=>b p (h p)|halt=>exact trivial|_=>exact h.elim
def Ro.bind'{c d s}(h:Ro s){f:c->Sem d}(b:∀a,Ro (f a)):Ro (s >>= f):=h.bind b
def Ro.run{P e s}(h:Ro s){w d}{v:e}(b:s.run P w=.ok v d):d=w:=by
 induction s with|pure a=>cases b;rfl|load m a k c=>simp only[Sem.run]at b;split at b;exact c _ (h _) b;split at b;exact c _ (h _) b;cases b|program k c=>exact c _ (h _) b|halt=>cases b|_=>exact h.elim
def zp{b}(a):Ro (pure a:Sem b):=trivial
def Jp(t):Ro (typeInfo t):=by unfold typeInfo;intro p;show Ro ((match p.info? t with|some i=>Sem.pure i|none=>stuck "no such type" :Sem TypeInfo));split<;>exact trivial
def Dn(t):Ro (underlying t):=by unfold underlying;intro p;show Ro ((match p.underlying t with|some d=>Sem.pure d|none=>stuck "no such type" :Sem TypeDesc));split<;>exact trivial
def S2(a):∀n i acc,Ro (loadCellsFrom a i n acc):=by
 intro n
 induction n with|zero=>intro i acc;exact trivial|succ n b=>intro i acc v;exact b _ _
def LX(t a):Ro (loadVar t a):=by
 unfold loadVar isAgg;refine Ro.bind' (Ro.bind' (Dn t) λd=> ?_) λb=> ?_
 split<;>exact trivial;split;exact Ro.bind' (Ro.bind' (Jp t) λ_=>zp _) λn=>Ro.bind' (S2 a _ _ _) λ_=>zp _
 exact λv=>trivial
def PK(v):Ro (asAddr v):=by
 unfold asAddr;split;exact trivial;exact λp=>trivial
 exact trivial
def LY(F t):Ro (results F t):=by
 unfold results;refine Ro.bind' ?_ λvs=> ?_
 rw[Array.mapM_eq_mapM_toList];generalize F.results.toList=l;refine Ro.bind' ?_ λ_=>zp _
 induction l with
 |nil=>exact trivial|cons a l d=>
  rw[List.mapM_cons];refine Ro.bind' ?_ λb=>Ro.bind' d λc=>zp _
  cases a with|tmp t=>exact trivial|cell a t=>exact Ro.bind' (PK _) λ_=>LX _ _
 split<;>exact trivial
def Jn{P c n L R}(f:cg P c.sig n L R){F p s}(j:c.bad=[])(H:pW c n p s){v}{g:Tape}{d}(G:(results F p).run P (dG L g d)=.ok v (dG L g d)):∃a m o,(results F s).runT P R #[]=(.ok m R,o)/\bz c.sig a v m/\∀e∈o,zy c.sig n e:=by
 have z:cg P c.sig n (dG L g d) R:=⟨f.ok,f.obj,f.mG,f.rm,f.old⟩;have b:=(vf f.ok F (xC j F) H).run z #[] #[];have y:(results F p).runT P (dG L g d) #[]=(.ok v (dG L g d),(results F p).events P (dG L g d) #[]):=by rw[Sem.runT_eq,G]
 rw[y]at b;obtain⟨_,_,C⟩:=b;obtain⟨a,m,B,o,e,t,I,A,D,E,w⟩:=C λi q K=>by omega
 rw[jF]at t;have u:(results F s).run P R=.ok m B:=by have:=t;rw[Sem.runT_eq]at this;exact(Prod.mk.inj this).1
 obtain rfl:=(LY F s).run u;have k:∀l r,a l r->n l r:=λl r h=>(D.new l r h).elim id λx=>by have:=(A.lt h).2;omega
 refine⟨a,m,o,t,I,λx J=> ?_⟩;cases w x J with|cell wr j=>exact .cell wr (k _ _ j)|obj wr j=>exact .obj wr (k _ _ j)|room=>exact .room|ext h=>exact .ext h|old h=>exact .old h
section
variable [Payload] {Z:Ph} {γ:Gh} {w:ar} {b:dj} {a:Act} {k:List Item} {Y:List dj} {X:Array Oper} {i:Nat} {W:List Nat} {o:Oper}
def Ph.WT.aa0(O:Z.Ok){c:h9}(hc:c.Fits Z.P){f:eu}{args:Array Operand}{ats:Array cD}{R:Ending->ar->Prop}{St:Nat->Prop}{F:Func}{x:Code}(ho:X[i]? =af o)(hw:aW o (yielded X a.tmps)=ak)(N:b.kind≠.early)(hop:o.op=.call {callee:=.value (.func f),args,argTypes:=ats})(hf:c.fn f=ak)(hbd:c.bd f=[])(hF:Z.P.funcs[f]? =af F)(t:(F.name== "runtime.NumGoroutine")=aq)(q:F.body=af x)(C:∀v∈args.map a.eval,xZ c.sig v)(hg:Z.P.globals.size<=w.heap.size)(D:∀tp d,Calls Z.P f (args.map a.eval) (dG w tp d) R)(hR:∀e L,R e L->∃v,e=.returned v/\Plain c.sig v)(hcb:∀r,γ.own r->¬Z.CB r)(OL:∀r,Z.CB r->r<w.heap.size)(hrd:∀r,Z.mX r->r<w.heap.size/\¬γ.own r)(OP:∀r,St r->γ.own r/\r<w.heap.size)(hWg:Z.Wg<w.heap.size/\¬γ.own Z.Wg)(K:∀v L(n:Gh) H,R (.returned v) L->(∀r,γ.own r->n.own r)->n.held=γ.held->n.over=γ.over->(∀r,n.own r->γ.own r\/(w.heap.size<=r/\r<H.heap.size))->Kept Z γ St w H->Z.WT n (G (b.at (a.put o.dst v) (.inRegion X W::k)) Y) H)(p:∀a x,c.mem a=af x->Z.mX a.block/\w.cell? a=af (.int .i64 x):=by intro a x h;cases(show(ah:Option Int)=af x from h)):Z.WT γ (G (b.at a (.inRegion X (i::W)::k)) Y) w:=by
 have P:F.body.isNone=aq:=by rw[q];rfl
 refine .enter O ho hw N (λ_=>run_call_body hop hF t P) (λw=>events_call_body hop hF t P _) ?_;have ha:∀I,cH c.sig I (args.map a.eval) (args.map a.eval):=λI=>⟨rfl,λj u v hu hv=>by rw[hu]at hv;obtain rfl:=aX hv;exact C u (qN hu) I⟩
 have h0:cg Z.P c.sig (λ_ _=>False) w w:=⟨⟨λ_ _ _ h=>h.elim,λ_ _ _ h=>h.elim,λ_ _ h=>h.elim⟩,λ_ _ h=>h.elim,hg,hg,λa x q=>⟨λ_ h=>h,λ_ h=>h,(p a x q).2,(p a x q).2⟩⟩;have hT:=uG hc hf (R:=R) (λ_ _ h=>h.elim) h0 (.of (ha _)) (λe L h=>let⟨v,e,_⟩:=hR e L h;⟨v,e⟩) D;refine Ph.WT.tree O (hc.at f) (St:=St) (w0:=w) (γ:=γ) (bot:=b.at a (.inRegion X (i::W)::k)::Y) hWg (λa x q=>(p a x q).1) ?_ hT _ w γ _ ⟨rfl,rfl,.one (pQ.enter hc hf (.of (ha (λ_ _=>False)))) rfl⟩ h0 (λ_ _ h=>h.elim) (λ_ h=>h) rfl rfl hcb OL hrd (λr hr=>⟨(OP r hr).1,(OP r hr).2,λ_ h=>h⟩) (λ_ h=>.inl h) (.refl _ _ _ _);intro gL L g H n I hH hg' z h1 h2 h3 h4 h6 h5;obtain⟨Q,V,v,t',d',hr,hm,hd,hk,F',M,uU⟩:=hH;obtain⟨e1,e2,B⟩:=hg';rw[Q]at B;obtain⟨hFr,S,hro⟩:=BG B;obtain⟨f1,f2,f3,f4,f5,f6,f7,f8,f9,_,_⟩:=hFr;rw[V,hF]at M;obtain rfl:=aX M;obtain⟨v2,ev2,Kj⟩:=hR _ _ hr;obtain rfl:v=v2:=by injection ev2
 have acg:∀m,Z.eT n H m->∃J,(results F g.frame.tmps).runT Z.P m #[]=(.ok v m,J)/\∀e∈J,zy c.sig I e:=λm r=>by
  have Vk:cg Z.P c.sig I L m:=⟨z.ok,λl x q=>by obtain⟨o,o',e1,e2,e3⟩:=z.obj l x q;exact⟨o,o',e1,(r.own x (h1 l x q)).trans e2,e3⟩,z.mG,bD z.rm r.size,λa x q=>by obtain⟨g1,g2,g3,g4⟩:=z.old a x q;exact⟨g1,g2,g3,(l6 (r.rd _ (p a x q).1)).trans g4⟩⟩
  obtain⟨NV,v',J,A,hv,E⟩:=Jn (c:=c.at f) Vk hbd f2 uU;obtain rfl:=Kj.2 NV _ hv;exact⟨J,A,E⟩
 have s:g.frame.mode=.returning:=f5.trans hm;have T:g.frame.defers=[]:=by rw[hd]at f4;generalize g.frame.defers=y at f4;cases f4;rfl
 have U:(b.at a (.inRegion X (i::W)::k)).finish v=b.at (a.put o.dst v) (.inRegion X W::k):=by rw[lU,ho];rfl
 have hgf:g.frame.fn=f:=f1.trans V;refine .step (λ_=>G (b.at (a.put o.dst v) (.inRegion X W::k)) Y) id (λm=>seen Z.P g.frame.fn ((results F g.frame.tmps).runT Z.P m #[]).2++#[]) (by rw[e2]) (λm r=> ?_) λm r=> ?_
 obtain⟨J,A,E⟩:=acg m r;refine⟨?_,D8 λe he=> ?_⟩;rw[e2,S,hU aq g.frame _ _ (by rw[s];simp),mV aq g.frame _ _ T s,hgf,hF];simp only[phase,A];have:doReturn Z.P aq g.frame (b.at a (.inRegion X (i::W)::k)::Y) ah v m=.go (iZ ((b.at a (.inRegion X (i::W)::k)).finish v) Y) m #[]:=by unfold doReturn;simp only[f8]
 rw[this,U];rfl;rw[A,Array.append_empty]at he;cases E e (jq _ _ e he)with|cell wr N=>exact .inr ⟨rfl,_,rfl,.inl (h1 _ _ N)⟩|obj wr N=>exact .inr ⟨rfl,_,rfl,.inl (h1 _ _ N)⟩|room=>exact .inl ⟨_,rfl,.inl rfl⟩|ext _=>exact .inl ⟨_,rfl,.inr ⟨_,rfl⟩⟩|old hm=>exact .inr ⟨rfl,_,rfl,.inr (.inr ⟨rfl,(p _ _ hm).1⟩)⟩
 show Z.WT (n.grow m m) _ m;rw[Gh.tP];exact(K v _ n H hr h2 h3 h4 h6 h5).rely O r
end
end Rel
section
open Go.RowKit Go.ChangeShapes Go.WideShapes Go.ChangeAt Go.Deep
def Sys.Fit(s:Sys):Prop:=∀x∈s.list,Fits x
end
section
open Go.RowKit
def dt(c:List (Int×Bool))(a b:Int):Bool:=decide (0<=a)&&decide (a<c.length)&&(decide ((c.getD a.toNat (0,aq)).1=b)&&(c.getD a.toNat (0,aq)).2)
def ql(p d F a b w)(h:eG w p d F):Calls ai 72 #[.pointer (af ⟨p,0,ah⟩),.agg #[.int .i64 a,.int .i64 b]] w λe t=>e=.returned (.bool (dt d a b))/\Below w.heap.size w t:=by
 obtain⟨A,c,I,N,X,Y,O,P,J⟩:=h.facts;have hp:=h.lt;have s:Hid (dt d a b=(decide (0<=a)&&decide (a<d.length)&&(decide ((d.getD a.toNat (0,aq)).1=b)&&(d.getD a.toNat (0,aq)).2))):=rfl;have K:=ae I;have L:=ae J;clear I N O P J h;go_enter func72,ntmps72;go_upto_region 1 with(fail)
 have o:di (w.alloc (.cells #[.int .i64 a,.int .i64 b] 43)) w.heap.size 43 #[.int .i64 a,.int .i64 b]:=di.new _ _ _;refine a6 (λt=>di t w.heap.size 43 #[.int .i64 a,.int .i64 b]/\Below w.heap.size w t) ⟨o,(Below.refl _ _).alloc (ao _) _⟩ ?_;rintro u ⟨i,l⟩;have f:=ae l;have T:∀n:After u,n.w.cell? ⟨w.heap.size,0,ah⟩=af (.int .i64 a):=λn=>n.cell (i.cell 0)
 have U:∀n:After u,n.w.cell? ⟨w.heap.size,1,ah⟩=af (.int .i64 b):=λn=>n.cell (i.cell 1)
 have V:∀n:After u,n.w.cell? ⟨p,0,ah⟩=af (.slice A d.length c):=λn=>n.cell ((l.cell (p:=⟨p,0,ah⟩) hp).trans K.out)
 clear o i l;by_cases j:0<=a;rotate_left
 ·have v:decide (0<=a)=aq:=by simpa using j
  have m:Hid (dt d a b=aq):=by unfold Hid;rw[s.out,v];rfl
  refine bK (by kernel_rfl) (by kernel_rfl) ?_;repeat(go_big_quiet_step (fail))
  refine wpQuiet_nil ?_;rintro _ ⟨n,rfl⟩;go_wp2_with fail;go_ret;exact⟨cG m.out.symm,f.out.trans (n.below.mono f.out.size)⟩
 by_cases q:a<d.length;rotate_left
 ·have v:decide (0<=a)=ak:=by simpa using j
  have z:decide (a<d.length)=aq:=by simpa using q
  have m:Hid (dt d a b=aq):=by unfold Hid;rw[s.out,v,z];rfl
  refine bK (by kernel_rfl) (by kernel_rfl) ?_;repeat(go_big_quiet_step (fail))
  refine wpQuiet_nil ?_;rintro _ ⟨n,rfl⟩;go_wp2_with fail;go_ret;exact⟨cG m.out.symm,f.out.trans (n.below.mono f.out.size)⟩
 obtain⟨k,rfl⟩:∃k:Nat,a=k:=⟨a.toNat,by omega⟩;obtain⟨g,rfl,R,S,B,C,D,E,r,G,H⟩:=L.out k (by omega);have M:∀n:After u,row? n.w g (k *2) 2=af #[.int .i64 (d.getD k (0,aq)).1,.bool (d.getD k (0,aq)).2]:=λn=>(iP n.below (by have:=f.out.size;omega) _ _).trans ((iP f.out B _ _).trans r)
 rw[bP]at s;clear C D E r G H;have z:decide ((k:Int)<d.length)=ak:=by simpa using q
 have Q:∀W x y,(binOp .eql 172 (.agg #[.int .i64 x,.bool y]) (.agg #[.int .i64 b,.bool ak])).run ai W=.ok (.bool (decide (x=b)&&y)) W:=λW x y=>by rw[Ri];simp
 have m:Hid (dt d k b=(decide ((d.getD k (0,aq)).1=b)&&(d.getD k (0,aq)).2)):=by unfold Hid;rw[s.out,z,decide_eq_true j];rfl
 generalize d.getD k (0,aq)=x at *;obtain⟨x,y⟩:=x;simp only at m M;refine bK (by kernel_rfl) (by kernel_rfl) ?_;repeat(go_big_quiet_step (fail))
 refine wpQuiet_nil ?_;rintro _ ⟨n,rfl⟩;go_wp2_with fail;go_ret;exact⟨cG m.out.symm,f.out.trans (n.below.mono f.out.size)⟩
def eY(c:List (Int×Bool))(a b:Int):List (Int×Bool)×Int:=if dt c a b then(c.set a.toNat (b+1,aq),0)else(c,7)
def Ko(a:List (Int×Bool)):Prop:=∀x∈a,0<=x.1/\x.1<=1000000
def jY{c a b}(h:dt c a b=ak):∃k:Nat,a=k/\k<c.length/\c.getD k (0,aq)=(b,ak):=by simp only[dt,ay,decide_eq_true_eq]at h;obtain⟨⟨f,g⟩,d,e⟩:=h;refine⟨a.toNat,by omega,by omega,Prod.ext d e⟩
def Rx(p d F a b w)(h:eG w p d F)(W:Ko d):Calls ai 177 #[.pointer (af ⟨p,0,ah⟩),.agg #[.int .i64 a,.int .i64 b]] w λe x=>e=.returned (.int .i64 (eY d a b).2)/\eG x p (eY d a b).1 F/\cT F w x:=by
 have H:=ae h;have D:Hid (eY d a b=if dt d a b then(d.set a.toNat (b+1,aq),0)else(d,7)):=rfl;clear h;go_enter func177,ntmps177;go_upto_region 1 with(fail)
 have u:di (w.alloc (.cells #[.int .i64 a,.int .i64 b] 43)) w.heap.size 43 (ints [a,b]):=di.new _ _ _;refine a6 (λx=>di x w.heap.size 43 (ints [a,b])/\Below w.heap.size w x) ⟨u,(Below.refl _ _).alloc (ao _) _⟩ ?_;rintro z ⟨m,n⟩;have j:Hid (eG z p d (λk=>F k/\k<w.heap.size)):=(H.out.mono (G:=λk=>F k/\k<w.heap.size) λk o V=>⟨V,o⟩).only (G:=λk=>w.heap.size<=k) (cT.fJ n) (λk o=>by omega);have q:=ae m;have f:Hid (Below w.heap.size w z):=n;have t:row? z w.heap.size 0 2=af (ints [a,b]):=m.aL rfl;clear u m n;go_wp2_with fail;refine(ql p d _ a b _ j.out).mono ?_;rintro e y ⟨rfl,i⟩;have l:Hid (eG y p d (λk=>F k/\k<w.heap.size)):=j.out.only (G:=λk=>z.heap.size<=k) (cT.fJ i) (λk o=>by have:=f.out.size;omega);have r:=ae (q.out.after i);have s:Hid (Below w.heap.size w y):=f.out.trans (i.mono f.out.size);clear i j q f t;cases hL:dt d a b
 ·have B:Hid (eY d a b=(d,7)):=by unfold Hid;rw[D.out,hL];rfl
  clear hL;go_wp2_with fail;go_ret;rw[B.out];exact⟨rfl,l.out.mono λk _ h=>h.1,(cT.fJ s.out)⟩
 ·obtain⟨k,rfl,o,v⟩:=jY hL;have B:Hid (eY d k b=(d.set k (b+1,aq),0)):=by unfold Hid;rw[D.out,hL];rfl
  have C:=W (b,ak) (by rw[<-v];simp[bu,aj o]);simp only at C;have O:IntKind.i64.wrap (b+1)=b+1:=IntWalk.i64_in _ (by omega);have rW:(k:Int)<d.length:=by omega
  obtain⟨A,c,P,Q,R,S,T,U,N⟩:=l.out.facts;obtain⟨g,rfl,X,Y,Z,E,I,hg6,J,K,L⟩:=N k o;have c1:y.cell? ⟨w.heap.size,0,ah⟩=af (.int .i64 k):=r.out.cell 0;have c2:y.cell? ⟨w.heap.size,1,ah⟩=af (.int .i64 b):=r.out.cell 1;have M:=ae (l.out.put o P (b+1) aq);clear hL Q R S T U N E I J K L v D;go_upto_region 3 with(fail)
  go_still_tail 11,(by kernel_rfl)
  repeat still_step
  change wpList _ _ _ _ _ y.drew;go_wp2_with fail;go_ret;rw[B.out];refine⟨rfl,?_,?_⟩;exact(M.out.1.mono λk _ h=>h.1);exact((cT.fJ s.out).trans (M.out.2.mono λk _ h=>h.1)).drew
def kx(a:List (Int×Bool)):Nat->List (Int×Int)|0=>[]|k+1=>kx a k++if(a.getD k (0,aq)).2 then [((k:Int),(a.getD k (0,aq)).1)]else []
def ku(a:List (Int×Bool)):List (Int×Int):=kx a a.length
def xv(a):∀k,(kx a k).length<=k|0=>by simp[kx]|k+1=>by have:=xv a k;unfold kx;rw[bm];split<;>simp<;>omega
def sN(a:List (Int×Bool)):Nat->List Int|0=>[]|k+1=>sN a k++[(a.getD k (0,aq)).1]
def Ab(a):∀k,k<=a.length->sN a k=(a.take k).map (·.1)|0,_=>by simp[sN]|k+1,h=>by rw[sN,Ab a k (by omega),List.take_add_one,aj (by omega),en];simp only[bu,aj (show k<a.length by omega),Option.toList,gg,List.map_nil,bT]
def iw(a:List (Int×Bool)):List Int:=sN a a.length
def xm(a):iw a=a.map (·.1):=by rw[iw,Ab a _ (ao _),cq]
def D4(a):∀k,(sN a k).length=k|0=>rfl|k+1=>by simp[sN,D4 a k]
def Rz(p a F w)(h:eG w p a F)(Q:a.length<=60):Calls ai 43 #[.pointer (af ⟨p,0,ah⟩)] w (QC w (iw a)):=by
 obtain⟨A,c,D,E,N,O,v,G,H⟩:=h.facts;have C:=ae v;clear E v G H h;go_enter func43,ntmps43;go_wp2_with fail;go_loopw [11,3] (λi u o=>∃k:Nat,k<=a.length/\i=.int .i64 k/\nX o w.heap.size u (sN a k)/\Below w.heap.size w o) (λi _ _=>a.length-(intOf i).toNat)
 case atStart=>exact⟨0,by omega,rfl,nX.nil _ _,Below.refl _ _⟩
 case round=>
  clear D;obtain⟨k,P,rfl,d,y⟩:=hrel;have r:=ae d;have q:=ae y;clear d y;by_cases t:k<a.length
  ·have L:(k:Int)<a.length:=by omega
   obtain⟨g,rfl,e⟩:=EM (lS C.out q.out) t;have K:Hid (sN a (k+1)=sN a k++[(a.getD k (0,aq)).1]):=rfl;have z:=D4 a k;generalize a.getD k (0,aq)=x at *;obtain⟨x,b⟩:=x;simp only at e;go_upto_region 5 with(fail)
   refine a6 (λo=>di o wr.heap.size 172 #[.int .i64 x,.bool b]/\Below wr.heap.size wr o) ?_ ?_;rw[I5];have I:di (wr.alloc (.cells #[.int .i64 0,.bool aq] 172)) wr.heap.size 172 #[.int .i64 0,.bool aq]:=di.new _ _ _;have J:=(I.set 0 (.int .i64 x)).set 1 (.bool b);exact⟨J,(((Below.refl _ _).alloc (ao _) _).setCell (p:=⟨wr.heap.size,0,ah⟩) (ao _) _).setCell (p:=⟨wr.heap.size,0+1,ah⟩) (ao _) _⟩;rintro B ⟨n,f⟩;have M:B.cell? ⟨wr.heap.size,0,ah⟩=af (.int .i64 x):=n.cell 0;have j:nX B w.heap.size _ _:=r.out.kept f;have m:=ae (q.out.trans (f.mono q.out.size));clear n f r e;go_wp2_with (at_builtin;refine r6 rfl _ _ rfl w.heap.size _ (sN a k) rfl j x rfl ?_ ?_ ?_)
   case refine_1=>omega
   case refine_2=>exact m.out.size
   intro R S l _ s;go_wp2_with fail;go_roundw
   case rel=>exact⟨k+1,by omega,by go_num,K.out.symm▸l,m.out.trans s⟩
   simp[intOf];omega
  have:k=a.length:=by omega
  subst this;go_wp2_with fail;go_ret;exact⟨_,rfl,r.out,q.out⟩
def eb(a:List (Int×Bool)):List (Int×Bool)×(Int×Int)×Int:=
 if a.findIdx iu<a.length then(a.set (a.findIdx iu) ((a.getD (a.findIdx iu) (0,aq)).1,ak),((a.findIdx iu:Nat),(a.getD (a.findIdx iu) (0,aq)).1),0)
 else if a.length=60 then(a,(0,0),2)else(a++[(0,ak)],((a.length:Nat),0),0)
def Md:(Tryz.prog.info? 172).map (λi=>(i.zero,i.size,i.bytes))=af (af (.agg #[.int .i64 0,.bool aq]),2,16):=by kernel_rfl
def Bn{a b n x}{c:List (Int×Bool)}(h:x=(c,(a,b),n)):Ending.returned (.tuple #[.agg (ints [a,b]),.int .i64 n])=.returned (.tuple #[.agg (ints [x.2.1.1,x.2.1.2]),.int .i64 x.2.2]):=by rw[h]
def ra(w:ar)(p:Nat)(c:List (Int×Bool))(F:Nat->Prop)(b:List Int)(a:ar):Prop:=di a w.heap.size 43 (ints b)/\eG a p c (λk=>F k/\k<w.heap.size)/\cT F w a
def pU(w:ar)(p:Nat)(c:List (Int×Bool))(F:Nat->Prop)(b:List Int)(a:ar):Prop:=di a w.heap.size 43 (ints b)/\eG a p c (λk=>(F k/\k<w.heap.size)\/w.heap.size<k)/\cT F w a
def ra.two{w c p b F a}(h:ra w p b F a c):pU w p b F a c:=⟨h.1,h.2.1.mono λ_ _ h=>bq h,h.2.2⟩
def ra.after{w c a p e F d}(h:ra w p e F d c)(b:Below c.heap.size c a):ra w p e F d a:=⟨h.1.after b,h.2.1.only (G:=λk=>w.heap.size<=k) ((cT.fJ b)) (λk f=>by omega),h.2.2.trans (cT.fJ b)⟩
def Tt(p a F w)(h:eG w p a F)(hl:a.length<=60):Calls ai 127 #[.pointer (af ⟨p,0,ah⟩)] w λe w'=>e=.returned (.tuple #[.agg (ints [(eb a).2.1.1,(eb a).2.1.2]),.int .i64 (eb a).2.2])/\eG w' p (eb a).1 (E7 F w w')/\cT F w w':=by
 have hp:=h.lt;have H:=ae h;clear h;go_enter func127,ntmps127;go_upto_region 1 with(fail)
 refine a6 (ra w p a F [0,0]) ⟨di.new _ _ _,(H.out.mono λk O u=>⟨u,O⟩).only (G:=λk=>k=w.heap.size) (cT.fJ ((Below.refl _ _).alloc (ao _) _)) (λk O=>by omega),cT.fJ ((Below.refl _ _).alloc (ao _) _)⟩ ?_;intro w1 hM;have HM:=ae hM;clear hM;obtain⟨A,c,R,E,I,J,B,K,l⟩:=HM.out.2.1.facts;have i:=B;clear E B K l;go_wp2_with fail;refine(Df A c a w1 i (by omega)).mono ?_;rintro e Q ⟨rfl,sQ⟩;have f:=ae (HM.out.after sQ);clear sQ HM R I J i;obtain⟨A,c,R,E,I,J,B,K,l⟩:=f.out.2.1.facts;by_cases i:a.findIdx iu<a.length
 ·have hI:rz a=(a.findIdx iu:Nat):=by unfold rz;rw[if_pos i]
  have U:Hid (eb a=(a.set (a.findIdx iu) ((a.getD (a.findIdx iu) (0,aq)).1,ak),(((a.findIdx iu:Nat):Int),(a.getD (a.findIdx iu) (0,aq)).1),0)):=by unfold Hid eb;rw[if_pos i]
  rw[hI];clear hI;generalize a.findIdx iu=k at *;have rW:(k:Int)<a.length:=by omega
  obtain⟨g,rfl,hg1,y,z,m,M,n,o,r,N⟩:=l k i;have s:=f.out.2.1.live i R ak;have h5:Hid (ra w p (a.set k ((a.getD k (0,aq)).1,ak)) F [0,0] (Q.setCell ⟨g,k *2+1,ah⟩ (.bool ak))):=⟨f.out.1.Da (by omega) _ _,s.1,f.out.2.2.trans' s.2 λq d h=>h.1⟩
  generalize a.getD k (0,aq)=x at *;obtain⟨x,b⟩:=x;simp only at h5 U r;clear E I J B K l m n o s;have f1':Q.cell? ⟨p,0,ah⟩=af (.slice (af ⟨g,0,ah⟩) a.length c):=R;go_upto_region 8 with(fail)
  refine a6 (pU w p (a.set k (x,ak)) F [0,0]) h5.out.two ?_;intro S hM3;have C:=ae hM3;clear hM3;obtain⟨A3,c3,R,E,I,J,B,K,l⟩:=C.out.2.1.facts;obtain⟨g3,rfl,hg1,y,z,m,M,n,o,r,N⟩:=l k (by simpa using i);have j:((a.set k (x,ak)).getD k (0,aq)).1=x:=by simp[bu,fE,i]
  rw[j]at r;have ab6:((k:Nat):Int)<((a.set k (x,ak)).length:Nat):=by rw[cx];omega
  have ff:fits S w.heap.size 0 2=ak:=C.out.1.fits 0 2 (by decide);clear E I J B K l m M n o N j;go_wp2_with fail;refine aZ rfl w.heap.size 43 (ints [((k:Nat):Int),x]) (.int .i64 0) _ rfl rfl (C.out.1.dY _ rfl) underlying43 rfl (by rw[aR];exact bW) rfl ?_;have hO:cT F w (putRow S w.heap.size 0 [((k:Nat):Int),x]):=C.out.2.2.trans' (G:=λq=>q=w.heap.size) ⟨rfl,rfl,rfl,by rw[jD];exact ao _,λq _ d=>fF S _ 0 _ q d⟩ (λq d he=>absurd d (by omega));refine⟨Bn U.out,?_,hO⟩;rw[U.out];have hs:=C.out.2.1.only (w':=putRow S w.heap.size 0 [((k:Nat):Int),x]) (G:=λq=>q=w.heap.size) ⟨rfl,rfl,rfl,by rw[jD];exact ao _,λq _ d=>fF S _ 0 _ q d⟩ (λq d he=>by rcases d with⟨_,d⟩|d<;>omega);refine hs.mono λq d u=> ?_
  rcases u with⟨u,_⟩|u;exact bq u;exact cc ⟨by omega,d⟩
 ·have hI:rz a= -1:=by unfold rz;rw[if_neg i]
  rw[hI];clear hI;by_cases Y:a.length=60
  ·have U:Hid (eb a=(a,(0,0),2)):=by unfold Hid eb;rw[if_neg i,if_pos Y]
   have ff:fits Q w.heap.size 0 2=ak:=f.out.1.fits 0 2 (by decide);rw[Y]at R;clear E I J B K l;go_wp2_with fail;refine aZ rfl w.heap.size 43 (ints [0,0]) (.int .i64 2) _ rfl rfl (f.out.1.dY _ rfl) underlying43 rfl (by rw[aR];exact bW) rfl ?_;have hO:cT F w (putRow Q w.heap.size 0 [0,0]):=f.out.2.2.trans' (G:=λq=>q=w.heap.size) ⟨rfl,rfl,rfl,by rw[jD];exact ao _,λq _ d=>fF Q _ 0 _ q d⟩ (λq d he=>absurd d (by omega));refine⟨Bn U.out,?_,hO⟩;rw[U.out];have hs:=f.out.2.1.only (w':=putRow Q w.heap.size 0 [0,0]) (G:=λq=>q=w.heap.size) ⟨rfl,rfl,rfl,by rw[jD];exact ao _,λq _ d=>fF Q _ 0 _ q d⟩ (λq d he=>by omega);exact hs.mono λq d u=>bq u.1
  have U:Hid (eb a=(a++[(0,ak)],(((a.length:Nat):Int),0),0)):=by unfold Hid eb;rw[if_neg i,if_neg Y]
  have acO:((a.length:Int)==60)=aq:=by simp;omega
  obtain⟨v,hB,X,CU,hF,hFk⟩:=f.out.2.1;have hv:v=.slice A a.length c:=by have:=hB.cell 0;rw[R]at this;simpa using this.symm
  subst hv;have HB:=ae hB;have HN:=ae CU;have hpF:Hid (F p):=hF.1;have T:=ae hFk;have h1:Hid (di Q w.heap.size 43 (ints [0,0])):=f.out.1;have h2:Hid (cT F w Q):=f.out.2.2;have P:Hid (Q.ownsRow 0 172 2 (.slice A a.length c) a.length (a.flatMap uF)):=X;obtain⟨i0,uT,sS,sT,sa⟩:=info_parts Md;clear E I J B K l hB X CU hF hFk f;go_wp2_with (at_builtin;refine dv rfl _ _ _ rfl 0 172 i0 _ 2 16 underlying168 uT sS sT sa rfl (by decide) (.slice A a.length c) a.length (a.flatMap uF) rfl P.out [.int .i64 0,.bool aq] rfl rfl (by simp[fW]) (by unfold maxLen;omega) (by omega) (bH _) ?_);intro v' S t z U8;obtain⟨A',c',rfl,_,_,_⟩:=aP t;have W:cT (λk=>(er A a.length c).ownBlock=af k) Q S:=(cT.refl.alloc _).trans (cT.grown z λk O=>O);have V:=W.blk HB.out (λe=>HN.out e);have hH3:=W.blk h1.out (λe=>by have:=(T.out _ e).2;omega);have Z:(er A' (a.length+1) c').ownBlock≠af p:=by rcases U8 with e|e;rw[e];exact HN.out;rw[e];intro h;injection h with h;have:=h1.out.lt;omega
  have c1:S.cell? ⟨p,0,ah⟩=af (.slice A a.length c):=V.cell 0;have c2:S.frozen? ⟨p,0,ah⟩=aq:=V.frozen 0;have YA:Hid (pU w p (a++[(0,aq)]) F [0,0] (S.setCell ⟨p,0,ah⟩ (.slice A' (a.length+1) c'))):=by refine⟨hH3.Da (by omega) _ _,⟨_,V.set 0 _,?_,Z,bq ⟨hpF.out,hp⟩,λk O=> ?_⟩,?_⟩;rw[bm,bS];exact ownsRow_setCell_other t Z _;rcases U8 with e|e;rw[e]at O;exact bq (T.out k O);rw[e]at O;injection O with O;have:=h1.out.lt;exact cc (by omega);exact(h2.out.trans' W λk O e=>(T.out k e).1).setCell (bq hpF.out) _ _
  clear t z U8 W V hH3 Z h1 h2 T P;go_upto_region 7 with(fail)
  refine a6 (pU w p (a++[(0,aq)]) F [0,0]) YA.out ?_;clear YA c1 c2;intro w5 L;obtain⟨A5,c5,R,E,I,J,B,K,l⟩:=L.2.1.facts;obtain⟨g5,rfl,hg1,y,z,m,M,n,o,r,N⟩:=l a.length (by simp);have s:=L.2.1.live (k:=a.length) (by simp) R ak;have rW:((a.length:Nat):Int)<((a++[((0:Int),aq)]).length:Nat):=by rw[bm];simp;omega
  have h5:Hid (pU w p (a++[(0,ak)]) F [0,0] (w5.setCell ⟨g5,a.length *2+1,ah⟩ (.bool ak))):=by
   have e:(a++[((0:Int),aq)]).set a.length (((a++[((0:Int),aq)]).getD a.length (0,aq)).1,ak)=a++[(0,ak)]:=by simp[bu,mD]
   have h:=s.1;rw[e]at h;refine⟨L.1.Da (by rcases y with y|y<;>omega) _ _,h,L.2.2.trans' s.2 λq d h=> ?_⟩;rcases h with h|h;exact h.1;exact absurd d (by omega)
  clear E I J B K l m n o r s L;go_upto_region 8 with(fail)
  refine a6 (pU w p (a++[(0,ak)]) F [0,0]) h5.out ?_;intro w6 hM6;have D:=ae hM6;clear hM6;obtain⟨A3,c3,R,E,I,J,B,K,l⟩:=D.out.2.1.facts;obtain⟨g3,rfl,hg1,y,z,m,M,n,o,r,N⟩:=l a.length (by simp);have j:((a++[(0,ak)]).getD a.length (0,aq)).1=0:=by simp[bu]
  rw[j]at r;have ab6:((a.length:Nat):Int)<((a++[(0,ak)]).length:Nat):=by rw[bm];simp;omega
  have ff:fits w6 w.heap.size 0 2=ak:=D.out.1.fits 0 2 (by decide);clear E I J B K l m M n o N j;go_wp2_with fail;refine aZ rfl w.heap.size 43 (ints [((a.length:Nat):Int),0]) (.int .i64 0) _ rfl rfl (D.out.1.dY _ rfl) underlying43 rfl (by rw[aR];exact bW) rfl ?_;have hO:cT F w (putRow w6 w.heap.size 0 [((a.length:Nat):Int),0]):=D.out.2.2.trans' (G:=λq=>q=w.heap.size) ⟨rfl,rfl,rfl,by rw[jD];exact ao _,λq _ d=>fF w6 _ 0 _ q d⟩ (λq d he=>absurd d (by omega));refine⟨Bn U.out,?_,hO⟩;rw[U.out];have hs:=D.out.2.1.only (w':=putRow w6 w.heap.size 0 [((a.length:Nat):Int),0]) (G:=λq=>q=w.heap.size) ⟨rfl,rfl,rfl,by rw[jD];exact ao _,λq _ d=>fF w6 _ 0 _ q d⟩ (λq d he=>by rcases d with⟨_,d⟩|d<;>omega);refine hs.mono λq d u=> ?_
  rcases u with⟨u,_⟩|u;exact bq u;exact cc ⟨by omega,d⟩
end
def N4(a:List (Int×Bool)):Prop:=a.length<=60/\∀x∈a,0<=x.1/\x.1<=1000000/\(x.2=ak->x.1<1000000)
def N4.abM{b}(h:N4 b):Ko b:=λx a=>⟨(h.2 x a).1,(h.2 x a).2.1⟩
def N4.nil:N4 []:=⟨by simp,by simp⟩
def rC{a:List (Int×Bool)}{k}(h):a.getD k (0,aq)=a[k]:=by simp[bu,aj h]
def Wq{d}(h:N4 d):N4 (eb d).1:=by unfold eb;split;rename_i b;refine⟨by simpa using h.1,λx a=> ?_⟩;rcases List.mem_or_eq_of_mem_set a with a|rfl;exact h.2 x a;have c:=List.findIdx_getElem (w:=b);rw[rC b];have:=h.2 _ (aF b);simp only[iu,ay,decide_eq_true_eq]at c;exact⟨this.1,this.2.1,λ_=>c.2⟩;split;exact h;rename_i f;have e:=h.1;refine⟨by simp;omega,λx a=> ?_⟩;rcases fM.1 a with a|a;exact h.2 x a;rw[aO.1 a];exact⟨by decide,by decide,λ_=>by decide⟩
def U1{f}(h:N4 f)(a b):N4 (eY f a b).1:=by unfold eY;split;rename_i i;obtain⟨k,rfl,e,c⟩:=jY i;refine⟨by simpa using h.1,λx d=> ?_⟩;rcases List.mem_or_eq_of_mem_set d with d|rfl;exact h.2 x d;rw[rC e]at c;have:=h.2 _ (aF e);rw[c]at this;have g:=this.2.2 rfl;exact⟨by have:=this.1;simp only at this|-;omega,by simp only at g|-;omega,λh=>by cases h⟩;exact h
def pick(a:List (Int×Int))(n:Int):Int×Int:=a.getD (n % a.length).toNat (0,0)
section
open Go.RowKit Go.ChangeShapes Go.WideShapes Go.ChangeAt Go.Deep
def Dh{H g W r l v}{d:DataW H}{p}(t:Value.okWide ai W r l 23 v)(h:DataW.Trod g ai W 0 (λ_=>ak) ak 23 v d p)(i:∀x∈p,x.block<W.heap.size):∃A c f,v=.slice A (List.length f) c/\f.length<=maxLen/\pT W W.heap.size A f/\∀s∈f,s.Fit:=by
 obtain⟨A,n,c,rfl,u,w,_,b,a,m⟩:=AH 4 underlying23 (by kernel_rfl) (by rw[EU];omega) t h i;rw[EU]at a;have o:b.length=n *7:=by have:=a.1;simpa using this
 have j:=nZ o;have e:((ki 7 b n).map Tx).map Sys.list=ki 7 b n:=by
  rw[List.map_map]
  conv=>rhs;rw[<-List.map_id (ki 7 b n)]
  exact dF λr a=>BI (j r a)
 refine⟨A,c,(ki 7 b n).map Tx,by rw[aY,kp],by rw[aY,kp];omega,?_,?_⟩;unfold pT;rw[e];exact Reads.chunks a (by omega);intro s q;obtain⟨r,a,rfl⟩:=aA.1 q;intro x k;rw[BI (j r a)]at k;exact m x (yk r a x k)
end
section
open Go.RowKit Go.Shelf Go.Sort
section
variable{Z:Type} [Inhabited Z] {Y:Z->List aB} {k:Nat} {X:Ren} {G:Nat->Prop} {W w:ar} {l:List cX} {v:aB} {V:List Z}
def JJ(Y k w g m)(d:Array Z):putRowK Y k (Sort.ahead w m) g 0 d=sortWorldK Y k w g 0 m d #[]:=by unfold sortWorldK;exact(grow_empty _).symm
def LU(L:SlLaysE0.n35 ai X)(o:∀w,(isAgg (X.t 23)).run ai w=.ok ak w)(I:∀w,(Go.sizeOf (X.t 23)).run ai w=.ok k w)(i:∀x,(Y x).length=k)(s:∀x,∀u∈Y x,u.oneCell'=ak)(E)(h:In G W (dN E k v V.length (V.flatMap Y)::l) w)(K:V.length<=1099511627776):Calls ai (X.f 35) #[v] w λe j=>e=.returned (.tuple #[])/\In G W (dN E k v V.reverse.length (V.reverse.flatMap Y)::l) j:=by
 obtain⟨J,⟨f,m⟩,_,a⟩:=h.open_;obtain⟨A,c,rfl,t,y,B⟩:=aP f;by_cases r:V.length=0;have H:V=[]:=dw r;subst H;exact(AnyQ.slices_Reverse_empty L A c w).mono λe j ⟨g,F⟩=>⟨g,by rw[F];exact h⟩
 obtain⟨b,rfl⟩:=B (by omega);have d:=AnyQ.slices_Reverse L k o I Y i s b 0 c V.toArray w (vX i f) (by simp;omega);refine d.mono ?_;rintro e j ⟨g,n,rfl⟩;have z:V.toArray.reverse.size=V.length:=by simp
 have D:V.toArray.reverse.toList=V.reverse:=by simp
 refine⟨g,?_⟩;rw[JJ];refine a (A':=dN E k (.slice (af ⟨b,0,ah⟩) V.length c) V.reverse.length (V.reverse.flatMap Y)) ⟨?_,λq C=>bq (m q C)⟩ ((yx w b n _ #[]).mono λq _ e=>by subst e;exact m _ rfl);have:=AO i f n V.toArray.reverse z #[];rw[D]at this;have p:V.reverse.length=V.length:=List.length_reverse;rw[p]at this|-;exact this
end
def S1:Ren:=⟨λ|35=>130|n=>n,λ|0=>0|3=>3|4=>4|22=>122|23=>43|n=>n,λn=>n⟩
def S0:SlLaysE0.n35 ai S1:={mixed:=by kernel_rfl,f35:=⟨f130.name,by decide,func130.trans (congrArg af (by kernel_rfl))⟩,t0:=underlying0,a0:=Tryz.isAgg0,z0:=Tryz.sizeOf0,v0:=Tryz.zeroValue0,t3:=underlying3,a3:=Tryz.isAgg3,z3:=Tryz.sizeOf3,v3:=Tryz.zeroValue3,t4:=underlying4,a4:=Tryz.isAgg4,z4:=Tryz.sizeOf4,v4:=Tryz.zeroValue4,t22:=underlying122,a22:=Tryz.isAgg122,z22:=Tryz.sizeOf122,v22:=Tryz.zeroValue122}
def Jo{G c w l v a}(h:In G c (e9 v a::l) w)(d:a.length<=1099511627776):Calls ai 130 #[v] w λe f=>e=.returned (.tuple #[])/\In G c (e9 v a.reverse::l) f:=LU S0 Tryz.isAgg43 Tryz.sizeOf43 xo (λx u b=>by simp[hC]at b;rcases b with rfl|rfl<;>rfl) 43 h d
end
abbrev sl(a:List (Int×Bool))(k:Nat):Int×Bool:=a.getD k (0,aq)
def Eh(b h):∀k,h∈kx b k↔∃j,j<k/\h=((j:Int),(sl b j).1)/\(sl b j).2=ak
 |0=>by simp[kx]|k+1=>by rw[kx,fM,Eh b h k];constructor;rintro(⟨j,e,a⟩|c);exact⟨j,by omega,a⟩;split at c;rename_i g;exact⟨k,by omega,aO.1 c,g⟩;cases c;rintro⟨j,e,a,d⟩;by_cases f:j=k;right;subst f;rw[if_pos d,a];simp;exact bq ⟨j,by omega,a,d⟩
def Sc{a h}:h∈ku a↔∃j,j<a.length/\h=((j:Int),(sl a j).1)/\(sl a j).2=ak:=Eh a h _
def yq(a):∀k,k<=a.length->(kx a k).length=(a.take k).countP (·.2)|0,_=>by simp[kx]|k+1,h=>by rw[kx,bm,yq a k (by omega),aV (by omega),List.countP_append,rC (by omega)];cases b:a[k].2<;>simp[b]
def Aq(a):(ku a).length=a.countP (·.2):=by unfold ku;rw[yq a _ (ao _),cq]
def Eg{a}{k:Nat}(e:k<a.length)(b):dt a k b=(decide ((sl a k).1=b)&&(sl a k).2):=by
 unfold dt;rw[bP];have c:decide ((0:Int)<=(k:Int))=ak:=by simp
 have d:decide ((k:Int)<(a.length:Nat))=ak:=by simpa using e
 rw[c,d];rfl
section
open Go.RowKit
def Nk{w:ar}{B e size n c m A i}(h:w.ownsRow B e size (.slice A n c) n i)(hm:m<=n):w.ownsRow B e size (.slice A m c) m (i.take (m *size)):=by
 obtain⟨u,l⟩:=h;have f:m *size<=n *size:=fh _ hm;refine⟨by rw[cR];omega,?_⟩;rcases l with⟨a,t⟩|⟨g,j,b,a,r,s,v,o,p,q⟩;injection a with a k d;have:m=0:=by omega
 subst this;exact bq ⟨by rw[a,d],rfl⟩;injection a with a k d;subst d;refine cc ⟨g,c,b,by rw[a],r,s,by omega,o,p,?_⟩;rw[<-q,List.take_take,qO f]
def tO{c:Type}{size}{f:c->List aB}(b:∀x,(f x).length=size):∀(l:List c) k,(l.flatMap f).take (k *size)=(l.take k).flatMap f|[],k=>by simp|a::l,0=>by simp|a::l,k+1=>by rw[bJ,List.take_succ_cons,bJ,List.take_append,b,kh,je,cA (by rw[b];omega),Nat.add_sub_cancel,tO b l k]
def DZ{c:Type}{size}{f:c->List aB}(b:∀x,(f x).length=size):∀(l:List c) k,(l.flatMap f).drop (k *size)=(l.drop k).flatMap f|[],k=>by simp|a::l,0=>by simp|a::l,k+1=>by rw[bJ,List.drop_succ_cons,List.drop_append,b,kh,je,List.drop_of_length_le (by rw[b];omega),Nat.add_sub_cancel,DZ b l k,de]
def VG{n:Type}{enc:n->List Int}{w B e size c g k}{rows:List n}(m:∀x,(enc x).length=size)(h:w.ownsRow B e size (.slice (af ⟨g,0,ah⟩) rows.length c) rows.length (rows.flatMap λx=>(enc x).map (aD .i64)))(H:k<rows.length)(x):(putRow w g (k *size) (enc x)).ownsRow B e size (.slice (af ⟨g,0,ah⟩) rows.length c) rows.length ((rows.set k x).flatMap λx=>(enc x).map (aD .i64)):=by
 have b:∀x:n,((enc x).map (aD .i64)).length=size:=λx=>by rw[aY,m]
 obtain⟨F,y⟩:=h;refine⟨by rw[ns b,cx],?_⟩;rcases y with⟨d,E⟩|⟨D,t,a,d,A,C,p,z,G,q⟩;omega
 ·injection d with d o j;injection d with d;injection d with d;subst d;subst j;have l:(k+1) *size<=rows.length *size:=fh _ (by omega);have r:rows.length *size<=c *size:=fh _ p;rw[kh,je]at l;refine cc ⟨g,c,(a.toList.take (k *size)++(enc x).map (aD .i64)++a.toList.drop (k *size+(enc x).length)).toArray,rfl,A,?_,p,z,?_,?_⟩;simp[putRow,bp,C];simp[m];omega;rw[List.toList_toArray];have s:=b x;have i:(a.toList.take (k *size)).length=k *size:=by rw[cR];simp;omega
  have o:rows=rows.take k++rows[k]::rows.drop (k+1):=by rw[<-List.drop_eq_getElem_cons,List.take_append_drop]
  have j:rows.set k x=rows.take k++x::rows.drop (k+1):=by
   conv=>lhs;rw[o]
   rw[mD _ _ (by rw[cR];omega),cR,qO (by omega),Nat.sub_self];rfl
  have u:(rows.take k).flatMap (λx=>(enc x).map (aD .i64))=a.toList.take (k *size):=by
   have:a.toList.take (k *size)=(a.toList.take (rows.length *size)).take (k *size):=by rw[List.take_take,qO (by omega)]
   rw[this,q,tO b]
  have v:(rows.drop (k+1)).flatMap (λx=>(enc x).map (aD .i64))=(a.toList.drop (k *size+size)).take ((rows.length-(k+1)) *size):=by
   have:(a.toList.drop (k *size+size)).take ((rows.length-(k+1)) *size)=(a.toList.take (rows.length *size)).drop ((k+1) *size):=by rw[List.drop_take,kh,je];congr 1;rw[Nat.sub_mul,kh,je]
   rw[this,q,DZ b]
  rw[j,bS,bJ,u,v,<-b9];generalize a.toList.take (k *size)=P at i|-;generalize (enc x).map (aD .i64)=X at s|-;have f:(P++X).length=k *size+size:=by rw[bm,i,s]
  rw[List.take_append,cA (by rw[f];omega),f,m];congr 1;congr 1;rw[Nat.sub_mul,kh,je]
def I1{w B e size n c g k l}(h:w.ownsRow B e size (.slice (af ⟨g,0,ah⟩) n c) n l)(u:k<n):fits w g (k *size) size=ak:=by obtain⟨q,i|⟨p,b,f,a,_,j,r,_,s,t⟩⟩:=h;cases i.1;injection a with a m o;injection a with a;injection a with a;subst a;unfold fits;rw[j];have d:(k+1) *size<=b *size:=fh _ (by omega);rw[kh,je]at d;simp;omega
def mE(w b:ar)(p:Nat)(T:cD)(c:Array aB)(o:Nat)(v:aB)(E:cD)(size n:Nat)(d:List aB):Prop:=∃a,di b p T (c.setIfInBounds o a)/\b.ownsRow 0 E size a n d/\a.ownBlock≠af p/\(∀k,a.ownBlock=af k->v.ownBlock=af k\/w.heap.size<=k)/\cT (λk=>k=p\/v.ownBlock=af k) w b
def MH{w l p o n size T E m v c O s}(r:di w p T m)(j:v.ownBlock≠af p)(b:l.ownsRow 0 E size c n s)(q:(w.alloc O).grownBy l v.ownBlock)(i:c.ownBlock=v.ownBlock\/c.ownBlock=af (w.heap.size+1)):di l p T m/\mE w (l.setCell ⟨p,o,ah⟩ c) p T m o v E size n s:=by
 have g:cT (λk=>v.ownBlock=af k) w l:=(cT.refl.alloc _).trans (cT.grown q λk a=>a);have d:=g.blk r j;have f:c.ownBlock≠af p:=by rcases i with e|e;rw[e];exact j;rw[e];intro h;injection h with h;have:=r.lt;omega
 refine⟨d,c,d.set o c,ownsRow_setCell_other b f _,f,λk a=> ?_,(g.mono (G:=λk=>k=p\/v.ownBlock=af k) λk _ a=>cc a).setCell (bq (bq rfl)) _ _⟩;rcases i with e|e;rw[e]at a;exact bq a;rw[e]at a;injection a with a;exact cc (by omega)
def OS:(Tryz.prog.info? 3).map (λi=>(i.zero,i.size,i.bytes))=af (af (.int .i64 0),1,8):=by kernel_rfl
def Dd:(Tryz.prog.info? 43).map (λi=>(i.zero,i.size,i.bytes))=af (af (.agg #[.int .i64 0,.int .i64 0]),2,16):=by kernel_rfl
def QJ(p o T h v n r x w)(i:di w p T h)(u:h[o]? =af v)(k:w.ownsRow 0 3 1 v n r)(g:v.ownBlock≠af p)(M:n<=100000):Calls ai 216 #[.pointer (af ⟨p,o,ah⟩),.int .i64 x] w λe H=>e=.returned (.tuple #[])/\mE w H p T h o v 3 1 (n+1) (r++[.int .i64 x]):=by
 obtain⟨A,c,rfl,E,F,_⟩:=aP k;have C:=ae k;have s:=ae i;have B:=ae g;have D:w.cell? ⟨p,o,ah⟩=af (.slice A n c):=(i.cell o).trans u;obtain⟨G,j,l,m,q⟩:=info_parts OS;clear k i g u;go_enter func216,ntmps216;go_wp2_with (at_builtin;refine dv rfl _ _ _ rfl 0 3 G _ 1 8 underlying32 j l m q rfl (by decide) (.slice A n c) n r rfl C.out [.int .i64 x] rfl rfl (by simp[fW]) (by unfold maxLen;omega) (by omega) (bH _) ?_);intro N y a f d;obtain⟨I,L,rfl,_,_,_⟩:=aP a;obtain⟨b,t⟩:=MH (o:=o) s.out B.out a f d;have z:=ae t;have J:y.frozen? ⟨p,o,ah⟩=aq:=b.frozen o;have K:y.cell? ⟨p,o,ah⟩=af (.slice A n c):=(b.cell o).trans ((s.out.cell o).symm.trans D);clear t b a f d;go_wp2_with fail
 go_end0
 exact⟨rfl,z.out⟩
def QI(p o T u v n y a b w)(C:di w p T u)(J:u[o]? =af v)(E:w.ownsRow 0 43 2 v n y)(s:v.ownBlock≠af p)(hl:n<=100000):Calls ai 215 #[.pointer (af ⟨p,o,ah⟩),.agg #[.int .i64 a,.int .i64 b]] w λe x=>e=.returned (.tuple #[])/\mE w x p T u o v 43 2 (n+1) (y++[.int .i64 a,.int .i64 b]):=by
 obtain⟨A,c,rfl,W,X,_⟩:=aP E;have O:=ae E;have z:=ae C;have N:=ae s;have t:w.cell? ⟨p,o,ah⟩=af (.slice A n c):=(C.cell o).trans J;obtain⟨i0,D,F,G,H⟩:=info_parts Dd;clear E C s J;go_enter func215,ntmps215;go_upto_region 1 with(fail)
 have Z:=z.out.lt;refine a6 (λx=>di x w.heap.size 43 (ints [a,b])/\Below w.heap.size w x) ⟨di.new _ _ _,(Below.refl _ _).alloc (ao _) _⟩ ?_;rintro i ⟨q,g⟩;have r1:row? i w.heap.size 0 2=af #[.int .i64 a,.int .i64 b]:=q.aL rfl;have B:Hid (i.ownsRow 0 43 2 (.slice A n c) n y):=lS O.out g;have f:Hid (di i p T u):=z.out.after g;have t:i.cell? ⟨p,o,ah⟩=af (.slice A n c):=(f.out.cell o).trans ((z.out.cell o).symm.trans t);have P:(i.alloc (.cells #[.int .i64 a,.int .i64 b] 43)).cell? ⟨p,o,ah⟩=af (.slice A n c):=(((Below.refl _ i).alloc (ao _) _).cell (p:=⟨p,o,ah⟩) f.out.lt).trans t;have l:=ae g;clear q g
 go_region_law (refine Gz (w:=i.drew) rfl (.tmp 8) (.tmp 10) 122 rfl 0 43 i0 _ 2 16 underlying122 D F G H rfl (by decide) (.slice A n c) n y (by simp[bX,dW]) B.out [.int .i64 a,.int .i64 b] (by simp[bX,dW]) rfl (by simp[fW]) (by unfold maxLen;omega) (by omega) (bH _) ?_;intro K L d r m;obtain⟨A4,c4,rfl,_,_,_⟩:=aP d;obtain⟨j,I⟩:=MH (w:=i.drew) (o:=o) f.out.drew N.out d r m;have M:=ae I;have c2:L.frozen? ⟨p,o,ah⟩=aq:=j.frozen o;have c3:L.cell? ⟨p,o,ah⟩=af (.slice A n c):=(j.cell o).trans ((f.out.cell o).symm.trans t);clear I j d r m)
 all_goals
  go_wp2_with fail
  go_end0
  refine⟨rfl,?_⟩;obtain⟨K,Q,R,S,U,V⟩:=M.out;exact⟨K,Q,R,S,λk Y=>by rcases U k Y with h|h;exact bq h;exact cc (bD l.out.size h),(cT.fJ l.out).trans (cT.refl.drew.trans V)⟩
def Jj(p o T y v)(j:List (Int×Int))(k w)(Q:di w p T y)(hv:y[o]? =af v)(I:w.ownsRow 0 43 2 v j.length (j.flatMap hC))(E:v.ownBlock≠af p)(H:j.length<=100000)(R:k<j.length):Calls ai 217 #[.pointer (af ⟨p,o,ah⟩),.int .i64 k] w λe S=>e=.returned (.agg (ints (hL (j.getD k (0,0)))))/\mE w S p T y o v 43 2 (j.length-1) (((j.set k (j.getD (j.length-1) (0,0))).take (j.length-1)).flatMap hC):=by
 obtain⟨A,c,rfl,Y,Z,hA⟩:=aP I;obtain⟨g,rfl⟩:=hA (by omega);obtain⟨m,hm⟩:∃m,j.length=m+1:=⟨j.length-1,by omega⟩;have hgp:g≠p:=λe=>E (by rw[e];rfl)
 have W9:(k:Int)<(m:Int)+1:=by omega
 have hmc:(m:Int)+1<=c:=by omega
 have hcc:(c:Int)<=9223372036854775807:=by unfold maxLen at Z;omega
 have M:=(fa I g rfl).2;have r1:row? w g (k *2) 2=af (ints (hL (j.getD k (0,0)))):=by rw[lA I R,lz xo j k R];simp[bu,aj R];rfl
 have r2:row? w g (m *2) 2=af (ints (hL (j.getD m (0,0)))):=by rw[lA I (show m<j.length by omega),lz xo j m (by omega)];simp[bu,aj (show m<j.length by omega)];rfl
 have U:=ae Q;have HO:=ae I;have HN:=ae E;have hp:=Q.lt;have W:w.cell? ⟨p,o,ah⟩=af (.slice (af ⟨g,0,ah⟩) (m+1) c):=by rw[<-hm];exact(Q.cell o).trans hv
 have HM:=ae hm;have HK:=ae R;rw[hm,Nat.add_sub_cancel];clear I Q E hv hm H Y;generalize hx1:j.getD k (0,0)=x1 at *;generalize O:j.getD m (0,0)=x2 at *;have HX2:=ae O;obtain⟨b,d⟩:=x1;obtain⟨f,i⟩:=x2;change row? w g (k *2) 2=af (ints [b,d])at r1;change row? w g (m *2) 2=af (ints [f,i])at r2;clear hx1 O;go_enter func217,ntmps217;go_upto_region 1 with(fail)
 refine a6 (λS=>di S w.heap.size 43 (ints [0,0])/\Below w.heap.size w S) ⟨di.new _ _ _,(Below.refl _ _).alloc (ao _) _⟩ ?_;rintro l ⟨C,n⟩;have f1:fits l w.heap.size 0 2=ak:=C.fits 0 2 (by decide);have q1:row? l g (k *2) 2=af (ints [b,d]):=(iP n M _ _).trans r1;have q2:row? l g (m *2) 2=af (ints [f,i]):=(iP n M _ _).trans r2;have c1:l.cell? ⟨p,o,ah⟩=af (.slice (af ⟨g,0,ah⟩) (m+1) c):=(n.cell (p:=⟨p,o,ah⟩) hp).trans W;have D:k<j.length:=HK.out;have r:l.ownsRow 0 43 2 (.slice (af ⟨g,0,ah⟩) j.length c) j.length (j.flatMap hC):=lS HO.out n;have N:g≠w.heap.size:=by omega
 have F:p≠w.heap.size:=by omega
 have t:cT (· =w.heap.size) l (putRow l w.heap.size 0 [b,d]):=cT.putRow _ _ _ _;have s:(putRow l w.heap.size 0 [b,d]).ownsRow 0 43 2 (.slice (af ⟨g,0,ah⟩) j.length c) j.length (j.flatMap hC):=t.own r λq u=>by simp[eB]at u;omega
 have f2:fits l g (k *2) 2=ak:=I1 r D;have hmm:(m:Int)<(m:Int)+1:=by omega
 have z:di (putRow l w.heap.size 0 [b,d]) p T y:=t.blk (U.out.after n) F;have X:(putRow l w.heap.size 0 [b,d]).cell? ⟨p,o,ah⟩=af (.slice (af ⟨g,0,ah⟩) (m+1) c):=(z.cell o).trans ((U.out.cell o).symm.trans W);have q2':row? (putRow l w.heap.size 0 [b,d]) g (m *2) 2=af (ints [f,i]):=by unfold row? at q2|-;rw[t.block g (by have:=n.size;omega) N];exact q2
 have f3:fits (putRow l w.heap.size 0 [b,d]) g (k *2) 2=ak:=I1 s D;have J:Hid (di (putRow (putRow l w.heap.size 0 [b,d]) g (k *2) [f,i]) w.heap.size 43 (ints [b,d])/\
  (putRow (putRow l w.heap.size 0 [b,d]) g (k *2) [f,i]).ownsRow 0 43 2 (.slice (af ⟨g,0,ah⟩) j.length c) j.length ((j.set k (f,i)).flatMap hC)/\
  di (putRow (putRow l w.heap.size 0 [b,d]) g (k *2) [f,i]) p T y/\cT (λq=>q=p\/q=g) w (putRow (putRow l w.heap.size 0 [b,d]) g (k *2) [f,i])):=by
  refine⟨(C.dY [b,d] rfl).wA _ _ (Ne.symm N),?_,z.wA _ _ (Ne.symm hgp),?_⟩;have:=VG (enc:=hL) (λ_=>rfl) s D (f,i);exact this;refine((cT.fJ n).trans' t λq u e=>absurd e (by omega)).trans' (cT.putRow _ g _ _) λq u e=>cc e
 clear r s t z;go_wp2_with fail
 go_region
 clear c1 X q1 q2 q2' f1 f2 f3 C n;obtain⟨h1,h2,P,h4⟩:di (putRow (putRow l w.heap.size 0 [b,d]) g (k *2) [f,i]).drew w.heap.size 43 (ints [b,d])/\
  (putRow (putRow l w.heap.size 0 [b,d]) g (k *2) [f,i]).drew.ownsRow 0 43 2 (.slice (af ⟨g,0,ah⟩) j.length c) j.length ((j.set k (f,i)).flatMap hC)/\
  di (putRow (putRow l w.heap.size 0 [b,d]) g (k *2) [f,i]).drew p T y/\cT (λq=>q=p\/q=g) w (putRow (putRow l w.heap.size 0 [b,d]) g (k *2) [f,i]).drew:=
  ⟨J.out.1,J.out.2.1,J.out.2.2.1,J.out.2.2.2.drew⟩
 clear J;generalize (putRow (putRow l w.heap.size 0 [b,d]) g (k *2) [f,i]).drew=x at *;have c4:x.cell? ⟨p,o,ah⟩=af (.slice (af ⟨g,0,ah⟩) (m+1) c):=(P.cell o).trans ((U.out.cell o).symm.trans W);have c5:x.frozen? ⟨p,o,ah⟩=aq:=P.frozen o;have H:=h1.Da (g':=p) (Ne.symm F) o (.slice (af ⟨g,0,ah⟩) m c);have c6:row? (x.setCell ⟨p,o,ah⟩ (.slice (af ⟨g,0,ah⟩) m c)) w.heap.size 0 2=af (ints [b,d]):=H.aL rfl;have c7:fits (x.setCell ⟨p,o,ah⟩ (.slice (af ⟨g,0,ah⟩) m c)) w.heap.size 0 2=ak:=H.fits 0 2 (by rw[aR];exact ao 2);have hN:(er (af ⟨g,0,ah⟩) (m+1) c).ownBlock≠af p:=HN.out;have K:x.ownsRow 0 43 2 (.slice (af ⟨g,0,ah⟩) m c) m (((j.set k (f,i)).take m).flatMap hC):=by have:=Nk h2 (m:=m) (by have:=HM.out;omega);rwa[tO xo]at this
 have L:=ownsRow_setCell_other (a:=⟨p,o,ah⟩) K hN (.slice (af ⟨g,0,ah⟩) m c);have B:cT (· =w.heap.size) (x.setCell ⟨p,o,ah⟩ (.slice (af ⟨g,0,ah⟩) m c)) (putRow (x.setCell ⟨p,o,ah⟩ (.slice (af ⟨g,0,ah⟩) m c)) w.heap.size 0 [b,d]):=cT.putRow _ _ _ _;have HE:Hid (mE w (putRow (x.setCell ⟨p,o,ah⟩ (.slice (af ⟨g,0,ah⟩) m c)) w.heap.size 0 [b,d]) p T y o (.slice (af ⟨g,0,ah⟩) (m+1) c) 43 2 m (((j.set k (f,i)).take m).flatMap hC)):=by refine⟨.slice (af ⟨g,0,ah⟩) m c,(P.set o _).wA _ _ F,B.own L (λq u=>by simp[eB]at u;omega),hN,λq u=>bq u,?_⟩;refine((h4.mono (G:=λq=>q=p\/(er (af ⟨g,0,ah⟩) (m+1) c).ownBlock=af q) λq _ u=>by rcases u with h|h;exact bq h;exact cc (by rw[h];rfl)).setCell (g:=p) (bq (bq rfl)) o _).trans' B λq u e=>absurd e (by omega)
 have V:Hid (di (putRow (x.setCell ⟨p,o,ah⟩ (.slice (af ⟨g,0,ah⟩) m c)) w.heap.size 0 [b,d]) w.heap.size 43 (ints [b,d])):=H.dY [b,d] rfl;clear h1 h2 P h4 H K L B;go_wp2_with fail;refine kP rfl w.heap.size 43 (ints [b,d]) _ rfl V.out underlying43 rfl (by rw[aR];exact bW) rfl ⟨rfl,?_⟩;exact HE.out
def Jk(p o T j v)(b:List Int)(k w)(l:di w p T j)(y:j[o]? =af v)(h:w.ownsRow 0 3 1 v b.length (b.flatMap λx=>[aD .i64 x]))(d:v.ownBlock≠af p)(H:b.length<=100000)(n:k<b.length):Calls ai 218 #[.pointer (af ⟨p,o,ah⟩),.int .i64 k] w λe K=>e=.returned (.int .i64 (b.getD k 0))/\mE w K p T j o v 3 1 (b.length-1) (((b.set k (b.getD (b.length-1) 0)).take (b.length-1)).flatMap λx=>[aD .i64 x]):=by
 obtain⟨A,c,rfl,s,t,D⟩:=aP h;obtain⟨g,rfl⟩:=D (by omega);obtain⟨m,hm⟩:∃m,b.length=m+1:=⟨b.length-1,by omega⟩;have f:∀x:Int,([aD .i64 x]:List aB).length=1:=λ_=>rfl
 have L:w.cell? ⟨p,o,ah⟩=af (.slice (af ⟨g,0,ah⟩) (m+1) c):=by rw[<-hm];exact(l.cell o).trans y
 have M:w.frozen? ⟨p,o,ah⟩=aq:=l.frozen o;have N:w.cell? ⟨g,k,ah⟩=af (.int .i64 (b.getD k 0)):=by rw[World.ownsRow.cellAt h k (by omega),<-Nat.mul_one k,<-j6 (k *1),np f b k 0 n (by omega)];simp[bu,aj n]
 have O:w.cell? ⟨g,m,ah⟩=af (.int .i64 (b.getD m 0)):=by rw[World.ownsRow.cellAt h m (by omega),<-Nat.mul_one m,<-j6 (m *1),np f b m 0 (by omega) (by omega)];simp[bu,aj (show m<b.length by omega)]
 have P:w.frozen? ⟨g,k,ah⟩=aq:=World.ownsRow.frozenAt h k;have u:g≠p:=λe=>d (by rw[e];rfl)
 have i:p≠g:=λe=>u e.symm
 have G:(k:Int)<(m:Int)+1:=by omega
 have I:(m:Int)+1<=c:=by omega
 have E:(c:Int)<=9223372036854775807:=by unfold maxLen at t;omega
 have C:Hid (mE w ((w.setCell ⟨g,k,ah⟩ (.int .i64 (b.getD m 0))).setCell ⟨p,o,ah⟩ (.slice (af ⟨g,0,ah⟩) m c)).drew p T j o (.slice (af ⟨g,0,ah⟩) (m+1) c) 3 1 m (((b.set k (b.getD m 0)).take m).flatMap λx=>[aD .i64 x])):=by
  have z:=(World.ownsRow.stored h (k *1) (aD .i64 (b.getD m 0))).1;rw[<-j6 (k *1),oG f b k 0 (b.getD m 0) _ n (by omega) rfl,j6,Nat.mul_one]at z;rw[hm]at z;have B:=Nk z (m:=m) (by omega);rw[tO f]at B;have r:cT (λq=>q=p\/(er (af ⟨g,0,ah⟩) (m+1) c).ownBlock=af q) w ((w.setCell ⟨g,k,ah⟩ (.int .i64 (b.getD m 0))).setCell ⟨p,o,ah⟩ (.slice (af ⟨g,0,ah⟩) m c)):=((cT.refl (F:=λq=>q=p\/(er (af ⟨g,0,ah⟩) (m+1) c).ownBlock=af q)).setCell (g:=g) (bq (cc rfl)) k _).setCell (g:=p) (bq (bq rfl)) o _
  exact⟨_,((l.Da i _ _).set o _).drew,ownsRow_setCell_other (a:=⟨p,o,ah⟩) B (by rw[hm]at d;exact d) _,by rw[hm]at d;exact d,λq J=>bq J,r.drew⟩
 have HM:=ae hm;rw[hm,Nat.add_sub_cancel];rw[hm]at y h d H s n;clear h l d y f hm;generalize b.getD k 0=Q at *;generalize b.getD m 0=R at *;go_enter func218,ntmps218;go_wp2_with fail
 go_region
 go_wp2_with fail;go_ret;exact⟨rfl,C.out⟩
def cy(p:Nat)(a:List (Int×Bool)):cX:=ZR 170 172 2 uF p a
end
section
open Rel
def ux:List eu:=[11,12,14,15,16,17,18,19,21,24,25,26,27,28,29,30,32,33,31,76,34,35,36,37,38,39,40,42,43,44,45,46,49,50,51,52,53,54,55,56,57,58,59,60,61,62,63,64,65,66,67,68,69,70,71,72,73,74,75,77,78,79,80,81,82,83,84,85,86,87,88,89,90,91,92,93,94,95,96,97,98,99,100,101,102,103,107,108,109,110,111,112,113,114,115,116,117,118,119,120,121,122,123,124,125,126,127,128,129,130,131,132,133,134,135,136,137,138,140,141,142,143,144,145,146,147,148,149,150,151,152,167,168,169,170,171,172,173,174,175,176,177,178,179,180,181,182,183,184,185,186,187,188,189,190,191,192,193,194,195,196,197,198,199,200,201,202,213,214,215,216,217,218,219,220,221,222,223,224,225,226,227,228,229,230,231,232,233,234,238,239,240,241,242,243,244,245,246,247,248,249]
def RU:List cD:=[2,3,5,12,21,27,184,187,230,256,289]
def Rk(f:eu):Bool:=f==139
def cfg(_:eu->List Tmp)(old:Nat):h9:={fn:=λf=>ux.contains f,int:=λt=>RU.contains t,old:=old,ext:=Rk}
def aax:List (eu×List (Tmp×Kd)):=[(36,[(0,.sl 54),(11,.sl 54),(14,.sl 54),(18,.pt 54),(26,.sl 54),(29,.sl 54),(34,.pt 54),(41,.sl 54),(43,.pt 54)]),(12,[(1,.sl 54),(12,.sl 54),(19,.sl 54),(23,.pt 54)]),(11,[(0,.sl 74),(9,.sl 74),(13,.pt 74)]),(24,[(0,.sl 74),(9,.sl 74),(13,.pt 74)]),(13,[(2,.sl 54),(23,.sl 54),(35,.sl 54),(40,.pt 54)]),(3,[(0,.sl 74),(1,.sl 54),(13,.sl 74),(15,.sl 74),(24,.sl 54),(30,.sl 54),(44,.sl 54)]),(5,[(0,.sl 74),(1,.sl 54),(17,.sl 74),(24,.sl 54),(66,.sl 54),(70,.pt 54)]),(4,[(0,.sl 74),(1,.sl 54),(13,.sl 74),(15,.sl 74),(24,.sl 54),(33,.sl 54),(38,.sl 54),(40,.sl 54),(45,.sl 54),(47,.sl 54)]),(9,[(0,.sl 74),(1,.sl 74),(2,.sl 54),(22,.sl 74),(29,.sl 74),(33,.pt 74),(43,.sl 54)]),(59,[(0,.sl 54),(12,.sl 54),(15,.sl 54),(19,.pt 54),(27,.sl 54),(32,.pt 54),(38,.sl 54),(40,.pt 54)]),(26,[(1,.sl 54),(11,.sl 54),(26,.sl 54),(30,.pt 54)]),(7,[(0,.sl 74),(1,.sl 54),(14,.sl 74),(20,.sl 74),(24,.pt 74),(34,.sl 54),(38,.sl 54)]),(41,[(21,.any)])]
def WN(f:eu):List Tmp:=((aax.lookup f).getD []).map (·.1)
def kdM(f:eu)(t:Tmp):Kd:=(((aax.lookup f).getD []).lookup t).getD .any
def Rg(t:cD):Option cD:=if t=22 then af 74 else if t=23 then af 54 else ah
def Ia(t:cD):Option Nat:=if t=74 then af 16 else if t=54 then af 7 else ah
structure vw where
 n:Nat
 mem:Addr->Option Int
 lt:∀a x,mem a=af x->a.block<n
def vw.none:vw:=⟨0,λ_=>Option.none,by intro a x h;cases h⟩
def lq(O:vw):h9:={fn:=λf=>ux.contains f,int:=λt=>RU.contains t,bd:=WN,kd:=kdM,old:=O.n,mem:=O.mem,FG:=O.lt,elem:=Rg,flat:=Ia,ext:=Rk}
def Yf:h9:={fn:=λf=>ux.contains f,int:=λt=>RU.contains t,ext:=Rk}
noncomputable def W4(f:eu):Bool:=match Tryz.prog.funcs[f]? with
 |some F=>match F.body with|some b=>dm Yf b&&dm ((lq vw.none).at f) b&&(F.name != "runtime.NumGoroutine")&&F.results.toList.all (pf (WN f))|none=>aq
 |none=>aq
noncomputable def XN(t:cD):Bool:=match (Tryz.prog.types[t]?).bind (·.zero)with|some v=>my v|none=>ak
def RD:ux.all W4=ak:=by decide+kernel
def Vn:(RU.all λt=>match Tryz.prog.underlying t with|some (.int _)=>ak|_=>aq)=ak:=by decide+kernel
def WG:((bB Tryz.prog.types.size).all XN)=ak:=by decide+kernel
def Rl(f)(h:Rk f=ak):∃F,Tryz.prog.funcs[f]? =af F/\F.name≠ "runtime.NumGoroutine" /\F.body=ah/\Extern.findNext F=ah/\Extern.find F=af Extern.MapsClone.clone:=by
 obtain rfl:f=139:=by simpa[Rk]using h
 exact⟨_,func139,by decide,rfl,by kernel_rfl,by kernel_rfl⟩
def MZ{f}(h:ux.contains f=ak):∃F b,Tryz.prog.funcs[f]? =af F/\F.body=af b/\dm Yf b=ak/\dm ((lq vw.none).at f) b=ak/\F.name≠ "runtime.NumGoroutine" /\F.results.toList.all (pf (WN f))=ak:=by
 have:=lD.1 RD f (by simpa using h);unfold W4 at this;cases c:Tryz.prog.funcs[f]? with
 |none=>rw[c]at this;cases this|some F=>
  rw[c]at this;cases a:F.body with|none=>simp only[a]at this;cases this|some b=>simp only[a,ay,bne_iff_ne,ne_eq]at this;exact⟨F,b,rfl,a,this.1.1.1,this.1.1.2,this.1.2,this.2⟩
def M5{t}(b:RU.contains t=ak):∃k,Tryz.prog.underlying t=af (.int k):=by
 have:=lD.1 Vn t (by simpa using b);cases a:Tryz.prog.underlying t with
 |none=>rw[a]at this;cases this|some d=>rw[a]at this;cases d<;>first|exact⟨_,rfl⟩|cases this
def J'(t i v)(h:Tryz.prog.info? t=af i)(b:i.zero=af v):Rel.fU 6 v=ak:=by refine Ql (λt i v h b=> ?_) t i v h b;have a:=(aC.1 h).1;have:=lD.1 WG t (eS.2 a);unfold XN at this;rw[h]at this;simp only[Option.bind_some,b]at this;exact this
def Hl(a old):(cfg a old).Fits ai:=by refine⟨λf l=> ?_,λt m=>M5 m,J',λt e h=>(by cases h),λt n h=>(by cases h),Rl⟩;obtain⟨F,b,g,i,j,_,k,_⟩:=MZ l;exact⟨F,b,g,i,(yw (c:=(cfg a old).at f) (d:=Yf) rfl rfl rfl rfl rfl b).trans j,k,xC (c:=cfg a old) rfl F⟩
def mH(O):(lq O).Fits ai:=by refine⟨λf m=> ?_,λt a=>M5 a,J',λt e h=> ?_,λt n h=> ?_,Rl⟩;obtain⟨F,b,g,i,_,j,k,l⟩:=MZ m;exact⟨F,b,g,i,(FM (c:=(lq O).at f) (d:=(lq vw.none).at f) rfl rfl rfl rfl rfl rfl rfl rfl b).trans j,k,l⟩;have h:Rg t=af e:=h;unfold Rg at h;split at h;rename_i a;cases h;exact⟨by rw[a];exact underlying22,16,rfl⟩;split at h;rename_i a;cases h;exact⟨by rw[a];exact underlying23,7,rfl⟩;cases h;have h:Ia t=af n:=h;unfold Ia at h;split at h;rename_i a;cases h;exact⟨by rw[a];exact⟨_,rfl,rfl⟩,by rw[a];exact⟨_,underlying74⟩⟩;split at h;rename_i a;cases h;exact⟨by rw[a];exact⟨_,rfl,rfl⟩,by rw[a];exact⟨_,underlying54⟩⟩;cases h
def Ze{a old O e o b}(h:jH (cfg a old).sig e o b):jH (lq O).sig e o b:=jH.sig (S:=(cfg a old).sig) (S':=(lq O).sig) (λ_ h=>h) (λx f=>(yw (c:=(lq O).cl) (d:=(cfg a old).cl) rfl rfl rfl rfl rfl x).trans f) h
end
section
open Go.RowKit
structure qX(w:ar) (p b:Nat) (m:lF):Prop where
 ok:il m
 blk:di w p 175 #[.map (af b)]
 map:eE iU iU (λ_=>True) w b m
def qX.after{w c p b m}(h:qX w p b m)(a:Below w.heap.size w c):qX c p b m:=⟨h.ok,h.blk.after a,h.map.after a⟩
def l9(m:lF)(c:Hd):Hd×Bool:=((eI m c).getD (0,0),(eI m c).isSome)
def s8{w b}{m:lF}(h:eE iU iU (λ_=>True) w b m)(c){a}(d:Below w.heap.size w a):(lC 173 (.map (af b)) (iU c) ak).run ai a=.ok (.tuple #[iU (l9 m c).1,.bool (l9 m c).2]) a:=by have:=(h.after d).look An underlying173 (J8 a) (x:=c) trivial ak;rw[this];unfold l9;cases eI m c<;>rfl
section
variable{G:Nat->Prop} {Z w:ar} {l:List cX} {p:Nat} {m:lF}
def MS(h:In G Z l w):Calls ai 86 #[] w λe c=>∃p,e=.returned (.pointer (af ⟨p,0,ah⟩))/\In G Z (ja p []::l) c:=by have H:=ae h;clear h;have b:= @run_makeMap ai;go_enter func86,ntmps86;go_wp2_with fail;go_ret;have a:=(H.out.FK iU iU (λ_=>True)).alloc 175 #[.map (af w.heap.size)];rw[bZ]at a;exact⟨_,rfl,In.oc il.nil a⟩
end
def Af(h:Hd)(x:Hd×Hd):Bool:=decide (x.1=h)||decide (x.2=h)
def Yy(a b:Hd):decide (hL a=hL b)=decide (a=b):=by rw[fj,decide_eq_true_eq,decide_eq_true_eq];exact⟨KY,λe=>by rw[e]⟩
def OF(x v h:Hd)(k w)(o:di w k 43 (ints (hL h))):Calls ai 179 #[iU x,iU v,.pointer (af ⟨k,0,ah⟩)] w λe i=>e=.returned (.bool (Af h (x,v)))/\Below w.heap.size w i:=by
 have m:=ae o;clear o;have f:∀(a b:Hd)(W:ar),(binOp .eql 43 (.agg (ints (hL a))) (.agg (ints (hL b)))).run ai W=.ok (.bool (decide (a=b))) W:=λa b W=>by rw[mJ _ _ rfl rfl W,Yy]
 have n:=f x h;have s:=f v h;have j:Hid (Af h (x,v)=(decide (x=h)||decide (v=h))):=rfl;clear f;go_enter func179,ntmps179;go_upto_region 1 with(fail)
 refine a6 (λi=>di i (w.heap.size+1) 43 (ints (hL v))/\di i w.heap.size 43 (ints (hL x))/\Below w.heap.size w i) ⟨by have:=di.new (w.alloc (.cells (ints (hL x)) 43)) 43 (ints (hL v));rwa[bZ]at this,(di.new w _ _).alloc _,((Below.refl _ _).alloc (ao _) _).alloc (by simp) _⟩ ?_
 rintro l ⟨p,q,d⟩;have g:=ae d;have u:row? l (w.heap.size+1) 0 2=af (ints (hL v)):=p.aL rfl;have y:row? l w.heap.size 0 2=af (ints (hL x)):=q.aL rfl;have z:row? l k 0 2=af (ints (hL h)):=(m.out.after d).aL rfl;clear p q d m;generalize hL x=B at *;generalize hL v=vs at *;generalize hL h=t at *;generalize w.heap.size+1=A at *;cases c:decide (x=h)
 ·rw[c]at n j;clear c;generalize decide (v=h)=r at *;go_wp2_with fail;go_ret;exact⟨cG (by rw[j.out];rfl),g.out⟩
 ·rw[c]at n j;clear c s;generalize decide (v=h)=r at *;go_wp2_with fail;go_ret;exact⟨cG (by rw[j.out];rfl),g.out⟩
def GM{z G}[DecidableEq z]{P k j u c w}(K:lZ P k j c){i d o a Q}(n:o.guard=ah)(v y t e)(q:o.op=Op.call {callee:=Callee.builtin Builtin.delete,args:=#[v,y],argTypes:=#[t,k]})(E:P.underlying t=af (.map k e))(b r)(m left:List (z×G))(hm:a.eval v=.map (af b))(h:dz j u c w b r m left)(x)(F:a.eval y=j x)(p:c x)(s:x∉bI left)(D:∀f,dz j u c f b r (dB m x) left->cT (· =b) w f->f.heap.size=w.heap.size->wpList P i Q d (a.put o.dst (.tuple #[])) f):wpList P i Q (o::d) a w:=by
 refine wpList_plain n λH l=> ?_
 obtain⟨f,g,A,B,C⟩:=h.drop K E p s o.type;unfold nV;simp[execOp,q,resolve,invoke,builtin,hm,F,g,dP];exact l _ _ (D f A B C)
def kS(m:lF)(h:Hd)(left:lF):lF:=m.filter λx=>decide (x.1∈bI left)|| !Af h x
def Dc(m h):kS m h m=m:=by unfold kS;rw[List.filter_eq_self];intro x a;rw[decide_eq_true (show x.1∈bI m from aA.2 ⟨x,a,rfl⟩)];rfl
def Ig(m h):kS m h []=kr m h:=by unfold kS kr Af;apply List.filter_congr;intro x _;simp[bI]
def ng{left:lF}{x y}:y∈bI (dB left x)↔y∈bI left/\y≠x:=by unfold bI;simp only[aA];constructor;rintro⟨p,hp,rfl⟩;have:=fI.1 hp;exact⟨⟨p,this.1,rfl⟩,this.2⟩;rintro⟨⟨p,hp,rfl⟩,a⟩;exact⟨p,fI.2 ⟨hp,a⟩,rfl⟩
def Fu{m left:lF}{h x v}(b:(bI m).Nodup)(c:(x,v)∈m)(a:Af h (x,v)=aq):kS m h (dB left x)=kS m h left:=by unfold kS;apply List.filter_congr;intro y d;by_cases e:y.1=x;have:y=(x,v):=nn b y d (x,v) c e;rw[this,a];simp;congr 1;rw[fj,decide_eq_true_eq,decide_eq_true_eq,ng];exact⟨λh=>h.1,λh=>⟨h,e⟩⟩
def Ft{m left:lF}{h x v}(c:(bI m).Nodup)(d:(x,v)∈m)(b:Af h (x,v)=ak):dB (kS m h left) x=kS m h (dB left x):=by
 unfold kS dB;rw[List.filter_filter];apply List.filter_congr;intro y f;by_cases e:y.1=x;have:y=(x,v):=nn c y f (x,v) d e;have a:decide (y.1∈bI (dB left x))=aq:=by rw[decide_eq_false_iff_not,ng];exact λh=>h.2 e
 rw[show(List.filter (λp:Hd×Hd=> !decide (p.1=x)) left)=dB left x from rfl,a,this,b];simp;have a:decide (y.1∈bI (dB left x))=decide (y.1∈bI left):=by rw[fj,decide_eq_true_eq,decide_eq_true_eq,ng];exact⟨λh=>h.1,λh=>⟨h,e⟩⟩
 rw[show(List.filter (λp:Hd×Hd=> !decide (p.1=x)) left)=dB left x from rfl,a];simp[e]
def C'{G I w l b r}{m:lF}(Y:(bI m).Nodup)(h:Hd)(v:In G I (wZ b m::aN r 43 (ints (hL h))::l) w):Calls ai 178 #[.map (af b),.func (.func 179) #[] #[.pointer (af ⟨r,0,ah⟩)]] w λe H=>e=.returned (.tuple #[])/\In G I (wZ b (kr m h)::aN r 43 (ints (hL h))::l) H:=by
 have o:=ae v;have U:=ae Y;clear v Y;go_enter func178,ntmps178;go_wp2_with (at_range;go_loud (refine ij rfl _ 173 43 rfl underlying173 b _ rfl (In.iV o.out) ?_));intro w6 B x D;have g:=ae (In.Bf o.out B x D);generalize w.heap.size=t at *;clear B x D o;go_wp2_with fail;go_loopw [9] (λ_ H=>∃left,(∀q∈left,q∈m)/\In G I (gT iU iU (λ_=>True) b t (kS m h left) left::aN r 43 (ints (hL h))::l) H) (λ_ H=>H.rangeLeft b t)
 case atStart=>exact⟨m,λ_ h=>h,by rw[Dc];exact g.out⟩
 case round=>
  clear g;obtain⟨left,n,v⟩:=hrel;have s:=ae v;have M:=ae n;clear v n;go_wp2_with (at_next;go_loud (refine j5 An rfl _ rfl b t _ left rfl (In.rangeAt s.out) ?_ ?_))
  ·intro P;subst P;rw[Ig]at s;go_wp2_with fail
   go_end0
   exact⟨rfl,In.tw s.out⟩
  intro c d E F J S C A R k O;have g:=ae (In.mj s.out C A);have V:=ae (M.out _ S);have j:=ae k;have HXL:=ae S;clear C A R k S;obtain⟨f1,f2⟩:=BK J 43 43 [0,0] [0,0] [c,d];go_upto_region 3 with(fail)
  refine a6 (In G I (aN (J.heap.size+1) 43 (ints [E,F])::aN J.heap.size 43 (ints [c,d])::gT iU iU (λ_=>True) b t (kS m h left) (dB left (c,d))::aN r 43 (ints (hL h))::l)) (g.out.GC 43 43 [0,0] [0,0] [c,d] [E,F] rfl rfl) ?_;clear f1 f2 O g;generalize J.heap.size+1=vb;generalize J.heap.size=xb;intro T i;have q1:row? T xb 0 2=af (ints [c,d]):=i.swap.blk.aL rfl;have q2:row? T vb 0 2=af (ints [E,F]):=i.blk.aL rfl;have N:=i.fourth.blk;have u:=ae i.third;clear i;go_wp2_with fail;refine(OF (c,d) (E,F) h r T N).mono ?_;rintro e Z ⟨rfl,y⟩;have p:=ae (u.out.below y);have q1:row? Z xb 0 2=af (ints [c,d]):=p.out.third.blk.aL rfl;have a:Hid (In G I (gT iU iU (λ_=>True) b t (kS m h left) (dB left (c,d))::aN r 43 (ints (hL h))::l) Z):=by have:=p.out.swap.drop.swap.drop;exact this
  clear y u q2 p;cases K:Af h ((c,d),(E,F))
  ·have L:=ae (Fu (left:=left) U.out V.out K);clear K;go_wp2_with fail;go_roundw
   case rel=>exact⟨dB left (c,d),λq Q=>M.out q (fI.1 Q).1,by rw[L.out];exact a.out⟩
   rw[(In.rangeAt a.out).count,(In.rangeAt s.out).count];exact j.out
  have L:=ae (Ft (left:=left) U.out V.out K);have z:(c,d)∉bI (dB left (c,d)):=λh=>(ng.1 h).2 rfl
  clear K;go_wp2_with (at_delete;go_loud (refine GM An rfl _ _ 173 43 rfl underlying173 b t _ _ rfl (In.rangeAt a.out) (c,d) rfl trivial z ?_));intro TD W X h3;have f:=ae (In.Ge a.out W X);rw[L.out]at f;clear W X h3 a z;go_wp2_with fail;go_roundw
  case rel=>exact⟨dB left (c,d),λq Q=>M.out q (fI.1 Q).1,f.out⟩
  rw[(In.rangeAt f.out).count,(In.rangeAt s.out).count];exact j.out
def Rs{G j w l p m}(h:In G j (ja p m::l) w)(c):Calls ai 132 #[.pointer (af ⟨p,0,ah⟩),iU c] w λe s=>e=.returned (.tuple #[])/\In G j (ja p (kr m c)::l) s:=by
 obtain⟨hm,b,a⟩:=h.tV;have HM:=ae hm;have d:=ae a;clear h hm a;obtain⟨g,i⟩:=c;rw[j7];go_enter func132,ntmps132;go_upto_region 1 with(fail)
 refine a6 (In G j (aN w.heap.size 43 (ints [g,i])::aN p 175 #[.map (af b)]::wZ b m::l)) (d.out.alloc 43 (ints [g,i])) ?_;generalize w.heap.size=q;intro o a;have r:o.cell? ⟨p,0,ah⟩=af (.map (af b)):=a.swap.blk.cell 0;have n:Hid (In G j (wZ b m::aN q 43 (ints (hL (g,i)))::aN p 175 #[.map (af b)]::l) o):=a.third;clear a d;go_wp2_with fail;refine(C' HM.out.nodup (g,i) n.out).mono ?_;rintro e t ⟨rfl,f⟩;have k:=ae f;clear f n r;go_wp2_with fail
 go_end0
 exact⟨rfl,In.oc (HM.out.gone _) (k.out.third.swap.third.drop.swap)⟩
def KU{G A w l p m}(h:In G A (ja p m::l) w)(c):Calls ai 70 #[.pointer (af ⟨p,0,ah⟩),iU c] w λe R=>e=.returned (.int .i64 (eH m c).2)/\In G A (ja p (eH m c).1::l) R:=by
 obtain⟨hm,b,i⟩:=h.tV;have HM:=ae hm;have v:=ae i;clear h hm i;obtain⟨a,d⟩:=c;rw[j7];go_enter func70,ntmps70;go_upto_region 1 with(fail)
 refine a6 (In G A (aN w.heap.size 43 (ints [a,d])::aN p 175 #[.map (af b)]::wZ b m::l)) (v.out.alloc 43 (ints [a,d])) ?_;generalize w.heap.size=y;intro j i;have s:=(Below.refl j.heap.size j).alloc (ao _) (.cells #[.int .i64 0,.int .i64 0] 43);have g:=i.third.iV;have L:j.cell? ⟨p,0,ah⟩=af (.map (af b)):=i.swap.blk.cell 0;have M:row? j y 0 2=af #[.int .i64 a,.int .i64 d]:=i.blk.aL (xs:=[a,d]) rfl;have N:row? (j.alloc (.cells #[.int .i64 0,.int .i64 0] 43)) y 0 2=af #[.int .i64 a,.int .i64 d]:=(i.blk.after s).aL (xs:=[a,d]) rfl;have O:(j.alloc (.cells #[.int .i64 0,.int .i64 0] 43)).cell? ⟨p,0,ah⟩=af (.map (af b)):=(i.swap.blk.after s).cell 0;have t:=s8 g (a,d) (Below.refl _ _).drew;have u:=s8 g (a,d) (((Below.refl _ j).alloc (ao _) (.cells #[.int .i64 0,.int .i64 0] 43)).drew);have D:=ae i;rw[j7]at t u;have q:Hid ((l9 m (a,d)).2=(eI m (a,d)).isSome):=rfl;generalize l9 m (a,d)=r at *;obtain⟨⟨H,I⟩,K⟩:=r;simp only[j7]at t u q;clear i g s v;have f:Hid (∀n,n=(putRow (j.alloc (.cells (ints [0,0]) 43)) j.heap.size 0 [H,I]).drew->In G A (aN p 175 #[.map (af b)]::wZ b m::aN y 43 (ints [a,d])::l) n):=λn e=>by rw[e];exact((D.out.below (fy j 43 [0,0] [H,I]).drew).perm ((cz _ _ _).trans ((cz _ _ _).cons _)))
 go_region
 all_goals
  go_upto_region 2 with(fail)
  refine a6 (In G A (aN p 175 #[.map (af b)]::wZ b m::aN y 43 (ints [a,d])::l)) (f.out _ rfl) ?_;intro n k;have o:=ae k;have P:n.cell? ⟨p,0,ah⟩=af (.map (af b)):=k.blk.cell 0;have Q:row? n y 0 2=af #[.int .i64 a,.int .i64 d]:=k.third.blk.aL (xs:=[a,d]) rfl;clear k t u L M N O f D;cases K
  ·have B:Hid (eH m (a,d)=(m,5)):=by unfold Hid eH;rw[<-q.out];rfl
   go_wp2_with fail;go_ret;rw[B.out];exact⟨rfl,In.oc HM.out o.out.third.drop⟩
  ·have B:Hid (eH m (a,d)=(dB m (a,d),0)):=by unfold Hid eH;rw[<-q.out];rfl
   go_wp2_with fail
   go_still_tail 5,(by kernel_rfl)
   change wpList _ _ _ _ _ n.drew;have x:=ae o.out.drew;clear o P Q;generalize n.drew=S at *;go_wp2_with (at_delete;go_loud (refine tB An rfl _ _ 173 43 rfl underlying173 b m rfl x.out.swap.iV (a,d) rfl trivial ?_));intro T E F J;have C:=ae (In.rF x.out.swap E F);clear E F J;go_wp2_with fail;go_ret;rw[B.out];have z:=HM.out.loosen (a,d);rw[B.out]at z;exact⟨rfl,In.oc z C.out.swap.third.drop⟩
def XX(A B:cX):cX where
 at_ w F:=Sep [A,B] w F
 frame h ho hd:=h.frame ho hd
 cut h hd:=h.cut hd
section
variable{A B:cX} {l:List cX} {F:Nat->Prop} {Z w Y:ar}
def In.join(h:In F Z (A::B::l) w):In F Z (XX A B::l) w:=by obtain⟨⟨f,q,o,⟨d,i,j,m,n,c⟩,g,e⟩,p⟩:=h;refine⟨⟨λk=>f k\/d k,i,⟨f,d,o,⟨d,λ_=>False,j,trivial,λ_ _ h=>h,λk h=>by rcases h with h|h;exact h;exact h.elim⟩,λk a b=>g k a (c k (bq b)),λk h=>h⟩,m,λk a b=> ?_,λk h=> ?_⟩,p⟩;rcases a with a|a;exact g k a (c k (cc b));exact n k a b;rcases h with(h|h)|h;exact e k (bq h);exact e k (cc (c k (bq h)));exact e k (cc (c k (cc h)))
def In.split(h:In F Z (XX A B::l) w):In F Z (A::B::l) w:=by obtain⟨⟨r,f,⟨j,s,n,⟨g,t,m,_,u,d⟩,o,c⟩,p,i,e⟩,q⟩:=h;refine⟨⟨j,λk=>g k\/f k,n,⟨g,f,m,p,λk a b=>i k (c k (cc (d k (bq a)))) b,λk h=>h⟩,λk a b=> ?_,λk h=> ?_⟩,q⟩;rcases b with b|b;exact o k a (d k (bq b));exact i k (c k (bq a)) b;rcases h with h|h|h;exact e k (bq (c k (bq h)));exact e k (bq (c k (cc (d k (bq h)))));exact e k (cc h)
def In.added{p o n m size T E i v B f}(h:In F Z (aN p T i::dN E size v n B::l) w)(A:mE w Y p T i o v E size m f):∃d,In F Z (aN p T (i.setIfInBounds o d)::dN E size d m f::l) Y:=by obtain⟨d,t,s,u,x,y⟩:=A;obtain⟨C,z,M,e⟩:=h.join.open_;obtain⟨D,G,⟨J,g⟩,⟨H,I,q,_,K,r⟩,L,j⟩:=z;refine⟨d,In.split (e (A':=XX (aN p T (i.setIfInBounds o d)) (dN E size d m f)) ?_ (y.mono λk _ c=> ?_))⟩;refine⟨(· =p),λk=>d.ownBlock=af k,⟨t,rfl⟩,⟨λk=>d.ownBlock=af k,λ_=>False,⟨s,λk c=>c⟩,trivial,λ_ _ h=>h,λk h=>by rcases h with h|h;exact h;exact h.elim⟩,λk a b=>u (by rw[<-a];exact b),λk c=> ?_⟩;rcases c with c|c;rw[c];exact bq (j p (bq g));rcases x k c with h|h;exact bq (j k (cc (r k (bq (q.2 k h)))));exact cc ⟨h,(fa s k c).2⟩;rcases c with c|c;rw[c];exact j p (bq g);exact j k (cc (r k (bq (q.2 k c))))
def In.sliceAt{p n size T E b v d}(h:In F Z (aN p T b::dN E size v n d::l) w):di w p T b/\w.ownsRow 0 E size v n d/\v.ownBlock≠af p:=by obtain⟨⟨j,k,⟨g,a⟩,⟨m,o,c,q,r,f⟩,i,s⟩,t⟩:=h;exact⟨g,c.1,λe=>i p a (f p (bq (c.2 p e)))⟩
def jA.parts{t T E size a p d}(h:jA T E size a w p d F):∃v,di w p T #[v]/\w.ownsRow 0 E size v d.length (d.flatMap a)/\v.ownBlock≠af p/\∀(c:List t) Y,mE w Y p T #[v] 0 v E size c.length (c.flatMap a)->jA T E size a Y p c (E7 F w Y)/\cT F w Y:=by obtain⟨v,n,o,q,f,g⟩:=h;refine⟨v,n,o,q,λc Y r=> ?_⟩;obtain⟨s,i,e,j,l,m⟩:=r;refine⟨⟨s,i,e,j,bq f,λk b=> ?_⟩,m.mono λk _ b=> ?_⟩;rcases l k b with h|h;exact bq (g k h);exact cc ⟨h,(fa e k b).2⟩;rcases b with b|b;rw[b];exact f;exact g k b
end
structure cQ where
 h:Int×Int
 b:bw
def cQ.list(r:cQ):List Int:=[r.h.1,r.h.2]++r.b.list
def aE:cQ:=⟨(0,0),⟨0,[0,0,0,0,0,0,0,0]⟩⟩
def xp(x:Int):List aB:=[.int .i64 x]
abbrev td(b:Nat):aB:=.pointer (af ⟨b,0,ah⟩)
@[go_sem] theorem abw(b):td b=.pointer (af ⟨b,0,ah⟩):=rfl
def iQ(K:Int):List Nat:=kinds K.toNat
def mU(K):(iQ K).Nodup:=pe _
def cJ(rows:List cQ)(k:Nat):List Int:=rows.map λr=>r.b.v.getD k 0
abbrev jN(b:Nat)(a:List Int):cX:=ZR 218 3 1 xp b a
abbrev PtrMap(t:Nat)(m:List (Int×Nat)):cX:=r9 (aD .i64) td mA t m
def yd(K:Int)(rows:List cQ):Prop:=∀r∈rows,r.b.k=K/\r.b.v.length=8/\∀k,k<8->k∉iQ K->r.b.v.getD k 0=0
def kF(p:Nat)(K:Int)(c:aB)(d:Nat)(b:Nat->Nat)(rows:List cQ)(a:Nat->List Int):List cX:=[aN p 215 #[.int .i64 K,c,.map (af d)],dN 43 2 c rows.length (rows.flatMap λr=>hC r.h),PtrMap d ((iQ K).map λk:Nat=>((k:Int),b k))]++(iQ K).map λk=>jN (b k) (a k)
def mx(p:Nat)(K:Int)(rows:List cQ):cX where
 at_ w F:=yd K rows/\(0<=K/\K<=255)/\∃b c a,Sep (kF p K b c a rows (cJ rows)) w F
 frame h ho hd:=by obtain⟨d,e,b,c,a,f⟩:=h;exact⟨d,e,b,c,a,f.frame ho hd⟩
 cut h hd:=by obtain⟨d,e,b,c,a,f⟩:=h;exact⟨d,e,b,c,a,f.cut hd⟩
def In.FP{F d w l p K rows}(h:In F d (mx p K rows::l) w):yd K rows/\(0<=K/\K<=255)/\∃b c a,In F d (kF p K b c a rows (cJ rows)++l) w:=by obtain⟨⟨q,r,⟨j,i,b,c,a,o⟩,e,f,g⟩,n⟩:=h;exact⟨j,i,b,c,a,(Sep.join o e f).cut λk _ m=>g k m,n⟩
def In.Nx{F a w l p K rows hv mb cb}(j:yd K rows)(i:0<=K/\K<=255)(h:In F a (kF p K hv mb cb rows (cJ rows)++l) w):In F a (mx p K rows::l) w:=by obtain⟨m,k⟩:=h;obtain⟨b,c,d,e,f,g⟩:=Sep.part m;exact⟨⟨b,c,⟨j,i,hv,mb,cb,d⟩,e,f,g⟩,k⟩
structure rj(w:ar) (p:Nat) (K:Int) (rows:List cQ) (hv:aB) (mb:Nat) (cb:Nat->Nat):Prop where
 t:yd K rows
 k:0<=K/\K<=255
 b:di w p 215 #[.int .i64 K,hv,.map (af mb)]
 o:w.ownsRow 0 43 2 hv rows.length (rows.flatMap λr=>hC r.h)
 m:eE (aD .i64) td mA w mb ((iQ K).map λk:Nat=>((k:Int),cb k))
 c:∀k∈iQ K,∃F,jA 218 3 1 xp w (cb k) (cJ rows k) F
def rj.after{w e p K rows c d b}(h:rj w p K rows c d b)(a:Below w.heap.size w e):rj e p K rows c d b:=⟨h.t,h.k,h.b.after a,lS h.o a,h.m.after a,λk g=>by obtain⟨F,f⟩:=h.c k g;exact⟨F,f.after a⟩⟩
def mx.see{w p K rows F}(h:(mx p K rows).at_ w F):∃b c a,rj w p K rows b c a:=by obtain⟨f,e,b,c,a,i⟩:=h;have d:In F w ([aN p 215 #[.int .i64 K,b,.map (af c)],dN 43 2 b rows.length (rows.flatMap λr=>hC r.h),PtrMap c ((iQ K).map λk:Nat=>((k:Int),a k))]++(iQ K).map λk=>jN (a k) (cJ rows k)) w:=In.start i;exact⟨b,c,a,f,e,In.blk d,(In.sliceAt d).2.1,(In.third d).iV,λk g=>d.SY (mU K) g⟩
def Zt{w g o n x}(h:row? w g o n=af x):g<w.heap.size:=by unfold row? at h;split at h;rename_i a;exact(aC.1 a).1;cases h
def la(n:Nat)(row:Int):Bool:=decide (0<=row)&&decide (row<n)
def Ed{p K rows g i d}(row w)(h:rj w p K rows g i d)(l:rows.length<=100000):Calls ai 137 #[.pointer (af ⟨p,0,ah⟩),.int .i64 row] w λe j=>e=.returned (.bool (la rows.length row))/\w=j:=by
 obtain⟨A,c,rfl,_,_,_⟩:=aP h.o;have k:w.cell? ⟨p,1,ah⟩=af (.slice A rows.length c):=h.b.cell 1;clear h;by_cases a:0<=row
 ·have b:Hid (la rows.length row=decide (row<rows.length)):=by unfold Hid la;rw[decide_eq_true a];rfl
  have f:decide (0<=row)=ak:=by simpa using a
  go_enter func137,ntmps137;go_wp2_with fail;go_ret;exact⟨cG b.out.symm,rfl⟩
 ·have b:Hid (la rows.length row=aq):=by unfold Hid la;rw[decide_eq_false a];rfl
  have f:decide (0<=row)=aq:=by simpa using a
  go_enter func137,ntmps137;go_wp2_with fail;go_ret;exact⟨cG b.out.symm,rfl⟩
def tk(rows:List cQ)(row:Int):cQ×Int:=if la rows.length row then(rows.getD row.toNat aE,0)else(aE,5)
def S3{K rows}(h:yd K rows)(row):(tk rows row).1.b.v.length=8:=by
 unfold tk;split;rename_i b;simp only[la,ay,decide_eq_true_eq]at b;have a:row.toNat<rows.length:=by omega
 simp only[bu,aj a,bT];exact(h _ (aF a)).2.1;rfl
def J2{p K rows hv mb cb}(row w)(h:rj w p K rows hv mb cb)(hl:rows.length<=100000):Calls ai 73 #[.pointer (af ⟨p,0,ah⟩),.int .i64 row] w λe n=>e=.returned (.tuple #[.agg (ints (tk rows row).1.list),.int .i64 (tk rows row).2])/\Below w.heap.size w n:=by
 have HS:=ae h;clear h;go_enter func73,ntmps73;go_upto_region 1 with(fail)
 refine a6 (λn=>di n w.heap.size 50 (ints aE.list)/\Below w.heap.size w n) ⟨di.new _ _ _,(Below.refl _ _).alloc (ao _) _⟩ ?_;rintro a ⟨hB1,Z⟩;have o:=ae hB1;have W:=ae Z;have l:=ae (HS.out.after Z);clear hB1 Z;go_wp2_with fail;refine(Ed row a l.out hl).mono ?_;rintro e n ⟨rfl,rfl⟩;cases hr:la rows.length row
 ·have HR:Hid (tk rows row=(aE,5)):=by unfold Hid tk;rw[hr];rfl
  have ff:fits a w.heap.size 0 11=ak:=o.out.fits 0 11 (by rw[aR];decide);clear hr;go_wp2_with fail;refine aZ rfl w.heap.size 50 (ints aE.list) (.int .i64 5) _ rfl rfl (o.out.dY _ rfl) underlying50 rfl (by rw[aR];exact qF) rfl ?_;rw[HR.out];exact⟨rfl,W.out.trans (lP (Below.refl w.heap.size a) (ao _) 0 _)⟩
 ·have HR:Hid (tk rows row=(rows.getD row.toNat aE,0)):=by unfold Hid tk;rw[hr];rfl
  simp only[la,ay,decide_eq_true_eq]at hr;obtain⟨i,rfl⟩:∃i:Nat,row=i:=⟨row.toNat,by omega⟩;have m:i<rows.length:=by omega
  have hii:(i:Int)<rows.length:=by omega
  rw[bP]at HR;have HT:=ae (HS.out.t _ (aF m));obtain⟨A,c,rfl,YG,T0,hA⟩:=aP l.out.o;obtain⟨g,rfl⟩:=hA (by omega);have hfl:∀r:cQ,(hC r.h).length=2:=λ_=>rfl
  have q1:row? a g (i *2) 2=af (ints (hL (rows.getD i aE).h)):=by rw[lA l.out.o m,lz hfl rows i m];simp[bu,aj m];rfl
  have c1:a.cell? ⟨p,1,ah⟩=af (.slice (af ⟨g,0,ah⟩) rows.length c):=l.out.b.cell 1;have c0:a.cell? ⟨p,0,ah⟩=af (.int .i64 K):=l.out.b.cell 0;have hgd:rows.getD i aE=rows[i]:=by simp[bu,aj m]
  rw[<-hgd]at HT;have HRW:Hid (∀k,(cJ rows k).getD i 0=(rows.getD i aE).b.v.getD k 0):=λk=>by unfold cJ;simp only[bu,dX,aj m,fD,bT]
  generalize rows.getD i aE=r at *;obtain⟨⟨d,f⟩,b⟩:=r;change row? a g (i *2) 2=af #[.int .i64 d,.int .i64 f]at q1;clear hr hA hfl hgd;have Kj:=World.block_lt_of_cell? _ _ c1;have hgl:=Zt q1;generalize hX:a.alloc (.cells (ints aE.list) 50)=H;have u:Below a.heap.size a H:=by rw[<-hX];exact(Below.refl _ _).alloc (ao _) _
  have q1':row? H g (i *2) 2=af #[.int .i64 d,.int .i64 f]:=(iP u hgl _ _).trans q1;have c1':H.cell? ⟨p,1,ah⟩=af (.slice (af ⟨g,0,ah⟩) rows.length c):=(u.cell (p:=⟨p,1,ah⟩) Kj).trans c1;have c0':H.cell? ⟨p,0,ah⟩=af (.int .i64 K):=(u.cell (p:=⟨p,0,ah⟩) Kj).trans c0;have hX':a.alloc (.cells #[.int .i64 0,.int .i64 0,.int .i64 0,.int .i64 0,.int .i64 0,.int .i64 0,.int .i64 0,.int .i64 0,.int .i64 0,.int .i64 0,.int .i64 0] 50)=H:=hX;have Y:di H a.heap.size 50 (ints aE.list):=by rw[<-hX];exact di.new _ _ _
  have f2:fits H a.heap.size 0 11=ak:=Y.fits 0 11 (by rw[aR];decide);have HBn:=ae (Y.dY [d,f,K,0,0,0,0,0,0,0,0] rfl);have s:=ae u;clear hX Y u;go_wp2_with fail
  go_region
  have J:Hid (Below w.heap.size w (putRow H a.heap.size 0 [d,f,K,0,0,0,0,0,0,0,0]).drew):=(W.out.trans ((lP s.out (ao _) 0 _).mono W.out.size)).drew;have HRs:Hid (di (putRow H a.heap.size 0 [d,f,K,0,0,0,0,0,0,0,0]).drew w.heap.size 50 (ints aE.list)):=((o.out.after s.out).wA 0 _ (by have:=o.out.lt;omega)).drew;have t:Hid (di (putRow H a.heap.size 0 [d,f,K,0,0,0,0,0,0,0,0]).drew a.heap.size 50 (ints [d,f,K,0,0,0,0,0,0,0,0])):=HBn.out.drew;have E:Hid (w.heap.size<a.heap.size):=o.out.lt;generalize (putRow H a.heap.size 0 [d,f,K,0,0,0,0,0,0,0,0]).drew=w3 at *;clear HBn s hX' c0' c1' q1' f2 l c0 c1 q1;generalize a.heap.size=I at *;have X:=ae (HS.out.after J.out);have c1:w3.cell? ⟨p,2,ah⟩=af (.map (af mb)):=X.out.b.cell 2;go_wp2_with (at_range;go_loud (refine ij rfl _ 213 216 rfl underlying213 mb _ rfl X.out.m ?_));intro w4 hr4 M hs4;have HRA:=ae hr4;have R:=ae (HRs.out.after M);have Q:=ae (t.out.after M);have HO4:Hid (Below w.heap.size w w4):=J.out.trans (M.mono J.out.size);have P:Hid (I<w3.heap.size):=t.out.lt;clear hr4 M hs4 X c1 HRs t J;generalize w3.heap.size=ri at *;go_wp2_with fail;go_loopw [7] (λ_ n=>∃left vs,dz (aD .i64) td mA n mb ri ((iQ K).map λk:Nat=>((k:Int),cb k)) left/\di n w.heap.size 50 (ints aE.list)/\di n I 50 (ints ([d,f,K]++vs))/\vs.length=8/\(∀k,k<8->vs.getD k 0=if(k:Int)∈bI left\/k∉iQ K then 0 else b.v.getD k 0)/\Below w.heap.size w n) (λ_ n=>n.rangeLeft mb ri)
  case atStart=>
   refine⟨_,[0,0,0,0,0,0,0,0],HRA.out,R.out,Q.out,rfl,λk N=> ?_,HO4.out⟩;have h0:([0,0,0,0,0,0,0,0]:List Int).getD k 0=0:=by
    match k,N with|0,_|1,_|2,_|3,_|4,_|5,_|6,_|7,_=>rfl
   rw[h0];by_cases hkt:k∈iQ K;rw[if_pos (bq (by simp only[bI,List.map_map];exact aA.2 ⟨k,hkt,rfl⟩))];rw[if_pos (cc hkt)]
  clear HRA R Q HO4;obtain⟨left,vs,S,h2,h3,h4,h5,h6⟩:=hrel;have H1:=ae S;have H2:=ae h2;have H3:=ae h3;have H5:=ae h5;have H6:=ae h6;have G:=ae h4;clear S h2 h3 h4 h5 h6;go_wp2_with (at_next;go_loud (refine j5 sU rfl _ rfl mb ri _ left rfl H1.out ?_ ?_))
  ·intro RN;subst RN;have hvs:vs=b.v:=by apply kM;intro j;have Xh:=G.out;have hb8:b.v.length=8:=HT.out.2.1;by_cases hj:j<8;have S:=H5.out j hj;have h2:j∉iQ K->b.v.getD j 0=0:=HT.out.2.2 j hj;simp only[bu,aj (show j<vs.length by omega),aj (show j<b.v.length by omega),bT]at S h2|-;by_cases hjt:j∈iQ K;rw[if_neg (by rintro(hm|hm);simp[bI]at hm;exact hm hjt)]at S;rw[S];rw[if_pos (cc hjt)]at S;rw[S,h2 hjt];rw[iD (by omega),iD (by omega)]
   subst hvs;have N:b.k=K:=HT.out.1;have D:[d,f,K]++b.v=cQ.list ⟨(d,f),b⟩:=by rw[<-N];rfl
   have V:=H3.out;rw[D]at V;have C:(cQ.list ⟨(d,f),b⟩).length=11:=by have:=G.out;simp[cQ.list,bw.list,this]
   have q1:row? wr I 0 11=af (ints (cQ.list ⟨(d,f),b⟩)):=V.aL C;have f1:fits wr w.heap.size 0 11=ak:=H2.out.fits 0 11 (by rw[aR];decide);have abC:=ae C;have Z1:Hid (di (putRow wr w.heap.size 0 (cQ.list ⟨(d,f),b⟩)) w.heap.size 50 (ints (cQ.list ⟨(d,f),b⟩))):=H2.out.dY _ C;clear N D V;generalize Y1:cQ.list ⟨(d,f),b⟩=xs at *;have HXS:=ae Y1;clear Y1;go_wp2_with fail;refine aZ rfl w.heap.size 50 (ints xs) (.int .i64 0) _ rfl rfl Z1.out underlying50 rfl (by rw[aR,abC.out];exact qF) rfl ?_;rw[HR.out];exact⟨by rw[<-HXS.out],lP H6.out (ao _) 0 _⟩
  intro x v w7 hx Xe O YU U hen;obtain⟨k,N,M3⟩:=aA.1 (H1.out.sub _ hx);injection M3 with e1 e2;subst e1;subst e2;have T2:k<8:=by have:=(b3.1 N).1;simpa using this
  have rW:(k:Int)<8:=by omega
  have Y0:w.heap.size<=ri:=by have:=E.out;have:=P.out;omega
  have hb7:Below w.heap.size w w7:=H6.out.trans (O.below (B:=w.heap.size) H6.out.size λq _ e=>by rw[e];exact Y0);have hS7:=HS.out.after hb7;obtain⟨F1,hC⟩:=hS7.c k N;obtain⟨A3,c3,f1,f2,f3,f4,f5,f6,f7,f8⟩:=hC.slice;have z:(cJ rows k).length=rows.length:=by unfold cJ;rw[aY]
  obtain⟨A4,c4,hA4,_,_,hA5⟩:=aP f5;injection hA4 with e3 e4 e5;obtain⟨g3,hg3⟩:=hA5 (by omega);have e6:A3=af ⟨g3,0,ah⟩:=e3.trans hg3;subst e6;have hfi:∀x:Int,(xp x).length=1:=λ_=>rfl
  have d1:w7.cell? ⟨g3,i,ah⟩=af (.int .i64 (b.v.getD k 0)):=by rw[World.ownsRow.cellAt f5 i (by rw[z];omega),<-Nat.mul_one i,<-j6 (i *1),np hfi (cJ rows k) i 0 (by rw[z];omega) (by omega),<-HRW.out k];simp[bu,aj (show i<(cJ rows k).length by rw[z];omega),xp]
  rw[z]at f1;have hB2:=H2.out;have L:=O.blk H3.out (λe=>by have:=P.out;omega);have T:=O.blk H2.out (λe=>by have:=E.out;have:=P.out;omega);have c2:w7.frozen? ⟨I,1+1+1+k,ah⟩=aq:=L.frozen _;have hvk:vs.length=8:=G.out;have c3:w7.cell? ⟨I,1+1+1+k,ah⟩=af (.int .i64 (vs.getD k 0)):=by rw[L.cell,jT,show 1+1+1+k=k+3 from by omega];simp[bu,aj (show k<vs.length by omega)]
  have HR7:=ae Xe;have HB3:=ae L;have s:=ae T;have HB7:=ae hb7;have HX:=ae hx;have HLT:=ae U;have TQ:=ae N;clear Xe O YU U hx N hC f2 f3 f4 f5 f6 f7 f8 hA5 hB2 L T hS7 hb7 z hvk e4 e3 e5 hg3;obtain⟨y,hy⟩:∃y,b.v.getD k 0=y:=⟨_,rfl⟩;rw[hy]at d1;have HY:=ae hy;clear hy;generalize vs.getD k 0=y0 at c3;go_wp2_with fail;have hmb:=HS.out.m.lt;have hO8:cT (· =I) w7 (w7.setCell ⟨I,3+k,ah⟩ (.int .i64 y)):=(cT.refl (F:=(· =I))).setCell (g:=I) (bq rfl) _ _;have TR:=ae (HR7.out.only hO8 (by have:=E.out;omega) (by have:=P.out;omega));go_roundw
  case rel=>
   refine⟨dB left (k:Int),vs.set k y,TR.out,s.out.Da (by have:=E.out;omega) _ _,?_,by rw[cx];exact G.out,λj hj=> ?_,HB7.out.setCell (p:=⟨I,3+k,ah⟩) (by have:=E.out;simp;omega) _⟩;have:=HB3.out.set (3+k) (.int .i64 y);rw[ints_set]at this;have e:([d,f,K]++vs).set (3+k) y=[d,f,K]++vs.set k y:=by rw[mD _ _ (by simp)];simp
   rw[e]at this;exact this;rw[sO];by_cases GZ:k=j;subst GZ;rw[if_pos ⟨rfl,by rw[G.out];omega⟩,if_neg];exact HY.out.symm;rintro(hm|hm);obtain⟨q,hq,e⟩:=aA.1 hm;exact(fI.1 hq).2 e;exact hm TQ.out;rw[if_neg (λh=>GZ h.1),H5.out j hj];have:(j:Int)∈bI (dB left (k:Int))↔(j:Int)∈bI left:=by constructor;intro hm;obtain⟨q,hq,e⟩:=aA.1 hm;exact aA.2 ⟨q,(fI.1 hq).1,e⟩;intro hm;obtain⟨q,hq,e⟩:=aA.1 hm;exact aA.2 ⟨q,fI.2 ⟨hq,by simp only[e];omega⟩,e⟩
   simp only[this]
  rw[TR.out.count,H1.out.count];exact HLT.out
def Ru(n:Nat)(a:List Int):List Int:=(a++cj n 0).take n
def Rv(n a):(Ru n a).length=n:=by unfold Ru;rw[cR,bm,List.length_replicate];omega
def Fp{n a}(h:a.length=n):Ru n a=a:=by unfold Ru;rw[List.take_append_of_le_length (by omega),<-h,cq]
def pK(r:cQ):List Int:=Ru 11 r.list
def iK(r:cQ):List aB:=(pK r).map (aD .i64)
def Jq(r):(pK r).length=11:=Rv _ _
def lx(r):(iK r).length=11:=by unfold iK;rw[aY,Jq]
def pq{r}(h:r.b.v.length=8):pK r=r.list:=Fp (by simp[cQ.list,bw.list,h])
abbrev bj(v:aB)(rows:List cQ):cX:=dN 50 11 v rows.length (rows.flatMap iK)
def xM:(Tryz.prog.info? 50).map (λi=>(i.zero,i.size,i.bytes))=af (af (.agg (ints aE.list)),11,88):=by kernel_rfl
def In.Zu{F j w l v rows}(h:In F j (bj v rows::l) w):∃A c,v=.slice A rows.length c/\rows.length<=c/\c<=maxLen/\∀k,k<rows.length->∃g,A=af ⟨g,0,ah⟩/\row? w g (k *11) 11=af (ints (pK (rows.getD k aE))):=by obtain⟨m,f⟩:=h.head;have e:w.ownsRow 0 50 11 v rows.length (rows.flatMap iK):=f.1;obtain⟨A,c,rfl,a,b,i⟩:=aP e;refine⟨A,c,rfl,a,b,λk d=> ?_⟩;obtain⟨g,rfl⟩:=i (by omega);refine⟨g,rfl,?_⟩;rw[lA e d,lz lx rows k d];simp[bu,aj d];rfl
def Pd{w B e size n c A f}(h:w.ownsRow B e size (.slice A n c) n f):Reads w w.heap.size size A n f/\((A=ah/\n=0/\c=0)\/∃b o,A=af ⟨b,o,ah⟩):=by refine⟨Reads.oK h,?_⟩;rcases h.2 with⟨a,l⟩|⟨g,i,j,a,_⟩;injection a with a k d;exact bq ⟨a,l,d⟩;injection a with a k d;exact cc ⟨g,0,a⟩
def Zf(b:List (Int×Int)):∀u∈b.flatMap hC,u.oneCell'=ak:=by intro u a;obtain⟨h,_,a⟩:=nT.1 a;simp[hC]at a;rcases a with rfl|rfl<;>rfl
def GG{p K rows m n l}(w)(h:rj w p K rows m n l)(q:rows.length<=100000):Calls ai 96 #[.pointer (af ⟨p,0,ah⟩)] w λe g=>∃v,e=.returned v/\g.ownsRow w.heap.size 43 2 v rows.length (rows.flatMap λr=>hC r.h)/\Below w.heap.size w g:=by
 obtain⟨A,c,rfl,_,_,_⟩:=aP h.o;have o:w.cell? ⟨p,1,ah⟩=af (.slice A rows.length c):=h.b.cell 1;have b:=ae (Pd h.o);have i:Hid (∀u∈rows.flatMap (λr=>hC r.h),u.oneCell'=ak):=by intro u a;obtain⟨r,s,a⟩:=nT.1 a;exact Zf [r.h] u (by simpa using a)
 clear h;go_enter func96,ntmps96;go_wp2_with fail;refine(yN A rows.length c _ w w.heap.size b.out.1 i.out b.out.2 (by omega)).mono ?_;rintro e t ⟨v,rfl,f,d⟩;have k:=ae f;have j:=ae d;clear f d;go_wp2_with fail;go_ret;exact⟨v,rfl,k.out,j.out⟩
def J7(w):(zeroValue 216).run ai w=.ok (.pointer ah) w:=by kernel_rfl
def Xq(K a:Int):Option Nat×Int:=if 0<=a/\a<8 then if a.toNat∈iQ K then(af a.toNat,0)else(ah,5)else(ah,1)
def Q5(a:Nat->Nat):Option Nat->aB|some k=>td (a k)|none=>.pointer ah
def Sx(K a):(Xq K a=(ah,1)/\¬(0<=a/\a<8))\/∃k:Nat,a=k/\k<8/\((k∉iQ K/\Xq K a=(ah,5))\/(k∈iQ K/\Xq K a=(af k,0))):=by unfold Xq;by_cases h:0<=a/\a<8;right;refine⟨a.toNat,by omega,by omega,?_⟩;by_cases b:a.toNat∈iQ K;right;exact⟨b,by rw[if_pos h,if_pos b]⟩;left;exact⟨b,by rw[if_pos h,if_neg b]⟩;left;exact⟨by rw[if_neg h],h⟩
def MK{K}{d:Nat->Nat}(k:Nat):eI ((iQ K).map λk:Nat=>((k:Int),d k)) k=if k∈iQ K then af (d k)else ah:=by
 have f:(bI ((iQ K).map λk:Nat=>((k:Int),d k))).Nodup:=by unfold bI;rw[List.map_map];exact List.Pairwise.map _ (λa b(h:a≠b) e=>h (by have e:(a:Int)=b:=e;omega)) (mU K)
 by_cases c:k∈iQ K;rw[if_pos c];exact nu f (aA.2 ⟨k,c,rfl⟩);rw[if_neg c,oi];intro hm;obtain⟨x,g,e⟩:=aA.1 hm;obtain⟨y,i,rfl⟩:=aA.1 g;exact c (by have:y=k:=by simp only at e;omega
                                                                                                                                                rw[<-this];exact i)
def Wu{p K rows q g d}(a w)(h:rj w p K rows q g d):Calls ai 180 #[.pointer (af ⟨p,0,ah⟩),.int .i64 a] w λe r=>e=.returned (.tuple #[Q5 d (Xq K a).1,.int .i64 (Xq K a).2])/\w=r:=by
 have s:w.cell? ⟨p,2,ah⟩=af (.map (af g)):=h.b.cell 2;have HM:=ae h.m;clear h;rcases Sx K a with⟨b,n⟩|⟨k,rfl,t,⟨hm,b⟩|⟨hm,b⟩⟩
 ·have c:=ae b;clear b;by_cases m:a<0
  ·have j:decide (a<0)=ak:=by simpa using m
   clear n;go_enter func180,ntmps180;go_wp2_with fail
   go_ret2
   exact⟨by rw[c.out];rfl,rfl⟩
  have j:decide (a<0)=aq:=by simpa using m
  have o:8<=a:=by omega
  have f:decide (8<=a)=ak:=by simpa using o
  clear n;go_enter func180,ntmps180;go_wp2_with fail
  go_ret2
  exact⟨by rw[c.out];rfl,rfl⟩
 ·have c:=ae b;have i:Hid (eI ((iQ K).map λk:Nat=>((k:Int),d k)) (k:Int)=ah):=by unfold Hid;rw[MK,if_neg hm]
  have l:(k:Int)<8:=by omega
  have j:decide ((k:Int)<0)=aq:=by simp
  have f:decide (8<=(k:Int))=aq:=by simp;omega
  clear b hm;go_enter func180,ntmps180;go_wp2_with (at_lookup;go_loud (refine yI sU rfl _ _ 213 216 ak rfl underlying213 (.pointer ah) (J7 _) g _ rfl HM.out (k:Int) rfl (jV (by omega)) (.tuple #[.pointer ah,.bool aq]) (by rw[i.out];rfl) ?_))
  go_ret2
  exact⟨by rw[c.out];rfl,rfl⟩
 ·have c:=ae b;have i:Hid (eI ((iQ K).map λk:Nat=>((k:Int),d k)) (k:Int)=af (d k)):=by unfold Hid;rw[MK,if_pos hm]
  have l:(k:Int)<8:=by omega
  have j:decide ((k:Int)<0)=aq:=by simp
  have f:decide (8<=(k:Int))=aq:=by simp;omega
  clear b hm;go_enter func180,ntmps180;go_wp2_with (at_lookup;go_loud (refine yI sU rfl _ _ 213 216 ak rfl underlying213 (.pointer ah) (J7 _) g _ rfl HM.out (k:Int) rfl (jV (by omega)) (.tuple #[.pointer (af ⟨d k,0,ah⟩),.bool ak]) (by rw[i.out];rfl) ?_))
  go_ret2
  exact⟨by rw[c.out];rfl,rfl⟩
def cutAt{a:Type}(d:a)(l:List a)(i:Nat):List a:=(l.set i (l.getD (l.length-1) d)).take (l.length-1)
def lB(rows:List cQ)(row:Int):List cQ×cQ×Int:=if la rows.length row then(cutAt aE rows row.toNat,rows.getD row.toNat aE,0)else(rows,aE,5)
def tJ{a}(d:a)(l i):(cutAt d l i).length=l.length-1:=by unfold cutAt;rw[cR,cx];omega
def DL{b c}(d a)(f:b->c)(l i)(e:i<l.length):(cutAt d l i).map f=cutAt a (l.map f) i:=by unfold cutAt;rw[List.map_take,jG,aY];congr 2;simp only[bu,dX,aj (show l.length-1<l.length by omega),fD,bT]
def Oh{a d l i}{x:a}(b:i<l.length)(h:x∈cutAt d l i):x∈l:=by unfold cutAt at h;rcases List.mem_or_eq_of_mem_set (nF h)with h|h;exact h;rw[h];simp only[bu,aj (show l.length-1<l.length by omega),bT];exact aF _
def SG{a:Type}(M P R B S:a)(L):(M::P::R::B::S::L).Perm (B::S::([P,R,M]++L)):=by
 have d:(M::P::R::B::S::L).Perm ((M::P::R::[])++([B,S]++L)):=ot _;have b:((M::P::R::[])++([B,S]++L)).Perm ([B,S]++((M::P::R::[])++L)):=by rw[<-b9,<-b9];exact List.Perm.append_right L List.perm_append_comm
 have c:(M::P::R::([]:List a)).Perm [P,R,M]:=(cz _ _ _).trans ((cz _ _ _).cons _);exact b.trans (dM [B,S] (List.Perm.append_right L c))
def J1(p K rows row F w)(h:(mx p K rows).at_ w F)(hl:rows.length<=10000):Calls ai 181 #[.pointer (af ⟨p,0,ah⟩),.int .i64 row] w λe P=>e=.returned (.tuple #[.agg (ints (lB rows row).2.1.list),.int .i64 (lB rows row).2.2])/\(mx p K (lB rows row).1).at_ P (E7 F w P)/\cT F w P:=by
 have hT:=h.1;have V:=ae (In.one (A:=mx p K rows) h);clear h;go_enter func181,ntmps181;go_upto_region 1 with(fail)
 refine a6 (In F w [aN w.heap.size 50 (ints aE.list),mx p K rows]) (V.out.alloc 50 (ints aE.list)) ?_;generalize w.heap.size=o;intro w1 O;have W:=ae O;obtain⟨F1,R⟩:=O.swap.head;obtain⟨N,f,b,hS⟩:=mx.see R;clear V O R;go_wp2_with fail;refine(J2 row w1 hS (by omega)).mono ?_;rintro e w2 ⟨rfl,sQ⟩;have z:=ae (W.out.below sQ);clear W sQ hS;have c:(tk rows row).1.list.length=11:=by have:=S3 hT row;simp[cQ.list,bw.list,this]
 cases E:la rows.length row
 ·have HR:Hid (tk rows row=(aE,5)):=by unfold Hid tk;rw[E];rfl
  have C:Hid (lB rows row=(rows,aE,5)):=by unfold Hid lB;rw[E];rfl
  rw[HR.out];clear E c;go_upto_region 2 with(fail)
  refine a6 (In F w [aN w2.heap.size 50 (ints aE.list),aN o 50 (ints aE.list),mx p K rows]) (z.out.struct 50 aE.list aE.list rfl) ?_;generalize w2.heap.size=H;intro Q g;have q1:row? Q H 0 11=af (ints aE.list):=g.blk.aL rfl;have f1:fits Q o 0 11=ak:=g.swap.blk.fits 0 11 (by rw[aR];decide);have m:=ae (g.swap.dY aE.list rfl);clear g z;go_wp2_with fail;refine aZ rfl o 50 (ints aE.list) (.int .i64 5) _ rfl rfl m.out.blk underlying50 rfl (by rw[aR];exact qF) rfl ?_;rw[C.out];obtain⟨g1,g2⟩:=m.out.drop.drop.done;exact⟨rfl,g1,g2⟩
 ·have HR:Hid (tk rows row=(rows.getD row.toNat aE,0)):=by unfold Hid tk;rw[E];rfl
  have C:Hid (lB rows row=(cutAt aE rows row.toNat,rows.getD row.toNat aE,0)):=by unfold Hid lB;rw[E];rfl
  simp only[la,ay,decide_eq_true_eq]at E;obtain⟨i,rfl⟩:∃i:Nat,row=i:=⟨row.toNat,by omega⟩;have D:i<rows.length:=by omega
  rw[HR.out]at c|-;rw[bP]at C c|-;clear E HR;generalize Y1:(rows.getD i aE).list=y at *;have HXS:=ae Y1;clear Y1;go_upto_region 2 with(fail)
  refine a6 (In F w [mx p K rows,aN w2.heap.size 50 (ints y),aN o 50 (ints aE.list)]) ((z.out.struct 50 aE.list y c).third) ?_;generalize w2.heap.size=H;clear z;intro Q g;obtain⟨_,hK,N,f,b,ze⟩:=g.FP;have m:Hid (In F w ([aN p 215 #[.int .i64 K,N,.map (af f)],dN 43 2 N rows.length (rows.flatMap λr=>hC r.h),PtrMap f ((iQ K).map λk:Nat=>((k:Int),b k)),aN H 50 (ints y),aN o 50 (ints aE.list)]++(iQ K).map λk=>jN (b k) (cJ rows k)) Q):=ze.perm (dM [_,_,_] List.perm_append_comm)
  clear g ze;obtain⟨hB4,hO4,TX⟩:=In.sliceAt m.out;have HK:=ae hK;have hfm:(rows.map (·.h)).flatMap hC=rows.flatMap λr=>hC r.h:=by rw[List.flatMap_map]
  have u:(rows.map (·.h)).length=rows.length:=aY ..;have Z:Q.ownsRow 0 43 2 N (rows.map (·.h)).length ((rows.map (·.h)).flatMap hC):=by rw[hfm,u];exact hO4
  have HO5:=ae Z;clear hK hO4 Z hfm;go_wp2_with fail;refine(Jj p 1 215 #[.int .i64 K,N,.map (af f)] N (rows.map (·.h)) i Q hB4 rfl HO5.out TX (by rw[u];omega) (by rw[u];exact D)).mono ?_;rintro e w5 ⟨rfl,S⟩;have hE':mE Q w5 p 215 #[.int .i64 K,N,.map (af f)] 1 N 43 2 (rows.length-1) ((cutAt aE rows i).flatMap λr=>hC r.h):=by
   have e1:(cutAt aE rows i).flatMap (λr=>hC r.h)=(cutAt (0,0) (rows.map (·.h)) i).flatMap hC:=by rw[<-DL aE (0,0) (·.h) rows i D,List.flatMap_map]
   rw[e1];unfold cutAt;rw[u]at S|-;exact S
  obtain⟨d,OI⟩:=In.added m.out hE';have T:Hid (∀k,cutAt 0 (cJ rows k) i=cJ (cutAt aE rows i) k):=λk=>(DL aE 0 (λr:cQ=>r.b.v.getD k 0) rows i D).symm
  have HTR:Hid (yd K (cutAt aE rows i)):=λr E=>hT r (Oh D E)
  have KZ:(cutAt aE rows i).length=rows.length-1:=tJ _ _ _;have HCL:=ae KZ;generalize G:cutAt aE rows i=a at *;have B:Hid (In F w ([PtrMap f ((iQ K).map λk:Nat=>((k:Int),b k)),aN p 215 #[.int .i64 K,d,.map (af f)],dN 43 2 d (rows.length-1) (a.flatMap λr=>hC r.h),aN H 50 (ints y),aN o 50 (ints aE.list)]++(iQ K).map λk=>jN (b k) (cJ rows k)) w5):=In.third OI;have c1:w5.cell? ⟨p,2,ah⟩=af (.map (af f)):=(In.swap B.out).blk.cell 2;clear S hE' OI m hB4 TX HO5 KZ G u;go_wp2_with (at_range;go_loud (refine ij rfl _ 213 216 rfl underlying213 f _ rfl (In.iV B.out) ?_));intro w6 hr6 U9 YT;have s:=ae (In.Bf B.out hr6 U9 YT);generalize w5.heap.size=ri at *;clear hr6 U9 YT c1;go_wp2_with fail;go_loopw [9] (λ_ P=>∃left,In F w ([gT (aD .i64) td mA f ri ((iQ K).map λk:Nat=>((k:Int),b k)) left,aN p 215 #[.int .i64 K,d,.map (af f)],dN 43 2 d (rows.length-1) (a.flatMap λr=>hC r.h),aN H 50 (ints y),aN o 50 (ints aE.list)]++(iQ K).map λk:Nat=>jN (b k) (if(k:Int)∈bI left then cJ rows k else cJ a k)) P) (λ_ P=>P.rangeLeft f ri)
  case atStart=>
   refine⟨(iQ K).map λk:Nat=>((k:Int),b k),?_⟩;have:(iQ K).map (λk:Nat=>jN (b k) (if(k:Int)∈bI ((iQ K).map λk:Nat=>((k:Int),b k))then cJ rows k else cJ a k))=(iQ K).map λk:Nat=>jN (b k) (cJ rows k):=by apply dF;intro k hk;rw[if_pos];simp only[bI,List.map_map];exact aA.2 ⟨k,hk,rfl⟩
   rw[this];exact s.out
  clear s B;obtain⟨left,hI⟩:=hrel;have U:=ae hI;clear hI;go_wp2_with (at_next;go_loud (refine j5 sU rfl _ rfl f ri _ left rfl (In.rangeAt U.out) ?_ ?_))
  ·intro RN;subst RN;have n:Hid (In F w (aN H 50 (ints y)::aN o 50 (ints aE.list)::(kF p K d f b a (cJ a))) wr):=by
    have h1:=In.tw U.out;have e1:(iQ K).map (λk:Nat=>jN (b k) (if(k:Int)∈bI ([]:List (Int×Nat))then cJ rows k else cJ a k))=(iQ K).map (λk:Nat=>jN (b k) (cJ a k)):=by apply dF;intro k _;rw[if_neg (by simp[bI])]
    have h2:In F w (PtrMap f ((iQ K).map λk:Nat=>((k:Int),b k))::aN p 215 #[.int .i64 K,d,.map (af f)]::dN 43 2 d (rows.length-1) (a.flatMap λr=>hC r.h)::aN H 50 (ints y)::aN o 50 (ints aE.list)::(iQ K).map (λk:Nat=>jN (b k) (cJ a k))) wr:=by rw[<-e1];exact h1
    unfold kF;rw[HCL.out];exact h2.perm (SG _ _ _ _ _ _)
   have q1:row? wr H 0 11=af (ints y):=n.out.blk.aL c;have f1:fits wr o 0 11=ak:=n.out.swap.blk.fits 0 11 (by rw[aR];decide);have X:=ae (n.out.swap.dY y c);have Y:=ae c;go_wp2_with fail;refine aZ rfl o 50 (ints y) (.int .i64 0) _ rfl rfl X.out.blk underlying50 rfl (by rw[aR,Y.out];exact qF) rfl ?_;rw[C.out];have hIT:=In.Nx (l:=[]) HTR.out HK.out (by rw[cK];exact X.out.drop.drop);obtain⟨g1,g2⟩:=hIT.done;exact⟨by rw[<-HXS.out],g1,g2⟩
  intro x v w7 hx Xe ho7 YU L hen;obtain⟨k,hk,M3⟩:=aA.1 ((In.rangeAt U.out).sub _ hx);injection M3 with e1 e2;subst e1;subst e2;have s:Hid (In F w ([gT (aD .i64) td mA f ri ((iQ K).map λk:Nat=>((k:Int),b k)) (dB left (k:Int)),aN p 215 #[.int .i64 K,d,.map (af f)],dN 43 2 d (rows.length-1) (a.flatMap λr=>hC r.h),aN H 50 (ints y),aN o 50 (ints aE.list)]++(iQ K).map λk:Nat=>jN (b k) (if(k:Int)∈bI left then cJ rows k else cJ a k)) w7):=In.mj U.out Xe ho7;have TQ:=ae hk;have HX:=ae hx;have HLT:=ae L;clear Xe ho7 YU L hk hx;go_wp2_with fail;obtain⟨F1,R,_,t⟩:=In.FO s.out (mU K) TQ.out;have M:(k:Int)∈bI left:=aA.2 ⟨_,HX.out,rfl⟩;rw[if_pos M]at R;obtain⟨v,hB,hO,hN,J⟩:=jA.parts R;have HB:=ae t;have I:=ae J;have hlc:(cJ rows k).length=rows.length:=by unfold cJ;rw[aY]
  refine(Jk (b k) 0 218 #[v] v (cJ rows k) i w7 hB rfl hO hN (by omega) (by omega)).mono ?_;rintro e w8 ⟨rfl,S⟩;have hE2:mE w7 w8 (b k) 218 #[v] 0 v 3 1 (cJ a k).length ((cJ a k).flatMap xp):=by rw[<-T.out k,tJ];exact S
  obtain⟨hC2,YB⟩:=I.out _ _ hE2;have n:=ae (HB.out _ (jN (b k) (cJ a k)) hC2 YB);clear R hB hO hN J t HB I hlc S hE2 hC2 YB s M;go_wp2_with fail;go_roundw
  case rel=>
   refine⟨dB left (k:Int),?_⟩;have:(iQ K).map (λj:Nat=>jN (b j) (if(j:Int)∈bI (dB left (k:Int))then cJ rows j else cJ a j))=
    (iQ K).map (λj:Nat=>if j=k then jN (b k) (cJ a k)else jN (b j) (if(j:Int)∈bI left then cJ rows j else cJ a j)):=by
    apply dF;intro j hj;by_cases GZ:j=k;subst GZ;rw[if_neg,if_pos rfl];intro hm;obtain⟨q,hq,e⟩:=aA.1 hm;exact(fI.1 hq).2 e;rw[if_neg GZ];have:(j:Int)∈bI (dB left (k:Int))↔(j:Int)∈bI left:=by constructor;intro hm;obtain⟨q,hq,e⟩:=aA.1 hm;exact aA.2 ⟨q,(fI.1 hq).1,e⟩;intro hm;obtain⟨q,hq,e⟩:=aA.1 hm;exact aA.2 ⟨q,fI.2 ⟨hq,by simp only[e];omega⟩,e⟩
    by_cases hm:(j:Int)∈bI left;rw[if_pos hm,if_pos (this.2 hm)];rw[if_neg hm,if_neg (λh=>hm (this.1 h))]
   rw[this];exact n.out
  rw[(In.rangeAt n.out).count,(In.rangeAt U.out).count];exact HLT.out
def bV(b:List Int):aB:=.agg (ints b)
@[go_sem] theorem acz(b):bV b=.agg (ints b):=rfl
end
end Go.Proofs.YtknejlcijdngoaaGreat
