/- Several texts in one, made short by a program of mine. -/
import Derived.Below
import Derived.WalkKit
import Derived.Conc.CrowdInv
import Derived.Conc.Beside
import GoSem.Step
import Derived.Conc.Own
import Derived.Laws.BitsLemmas
import Derived.Laws.Sem
import Derived.Test.YtknejlcijdngoaaGreatChecked
import Derived.Conc.WgGenN3
import Derived.KernelRfl
import Derived.Calls
set_option linter.defProp false
set_option linter.unusedVariables false
set_option linter.unusedSimpArgs false
set_option linter.unusedSectionVars false
set_option maxHeartbeats 16000000
set_option maxRecDepth 100000
open Array renaming all_eq_true->eP,empty_append->jF,getD_eq_getD_getElem?->bF,getElem?_eq_getElem->aS,getElem?_eq_none->gP,getElem?_eq_some_iff->aC,getElem?_map->gd,getElem?_modify->bp,getElem?_push->kX,getElem?_setIfInBounds_ne->aH,getElem?_setIfInBounds_self_of_lt->aQ,mem_append->nl,range->oY,replicate->dE
open Bool renaming and_eq_true->ay,eq_iff_iff->fj,false_eq_true->dg,not_eq_true'->kI,or_eq_true->ej,false->aq,true->ak
open Classical renaming choose->pR
open Go renaming Frame->dj,FuncId->eu,Goroutine->aw,Program->br,TypeId->cD,Value->aB,World->ar
open Go.Builtin renaming delete_->kJ,firstCells->gQ,zeroCells->jz
open Go.Deferred renaming ofValue->gE
open Go.Frame renaming enter->fi
open Go.Instr renaming buildSlice->gB,checkKey->fH,fill->fN,findKey->jw,loadAt->eo,lookup->lC,storeAt->fg
open Go.Mode renaming plain->pC
open Go.Sem renaming runT->fQ
open Go.Value renaming cells->iJ,int->aD,slice->er
open Go.World renaming cell?->da,setCell->dJ
open Go.stepG renaming apply->e7,exec->ik
open List renaming all_eq_true->lD,any_eq_true->nS,filter_sublist->ly,find?_cons->mm,flatMap_cons->bJ,foldl_cons->o5,getD->bu,getD_eq_getElem?_getD->a7,getElem?_eq_getElem->aj,getElem?_set->fE,length_filter_le->iE,map_cons->gg,map_set->jG,mem_cons->b8,mem_cons_of_mem->kN,mem_filter->b3,mem_flatMap->nT,mem_iff_getElem->bR,mem_map->aA,mem_toArray->nU,mergeSort_perm->hZ,not_mem_nil->fO,range->bB
open Nat renaming add_comm->bM,add_zero->j6,le_refl->ao,le_trans->bD,lt_of_lt_of_le->bQ,lt_or_ge->du,strongRecOn->lj,testBit_and->lk
open Option renaming bind_eq_some_iff->dD,map_eq_some_iff->aG,none->ah,some->af
open Option.some renaming inj->aX,injEq->dS
open Or renaming inl->bq,inr->cc
namespace Go.Proofs.YtknejlcijdngoaaGreat
open Tryz
section
variable{Z Y:Type} [DecidableEq Z]
def eI(m:List (Z×Y))(x:Z):Option Y:=(m.find? λp=>decide (p.1=x)).map (·.2)
def jK(m:List (Z×Y))(x:Z)(v:Y):List (Z×Y):=if m.any (λp=>decide (p.1=x))then m.map (λp=>if p.1=x then(x,v)else p)else m++[(x,v)]
def dB(m:List (Z×Y))(x:Z):List (Z×Y):=m.filter λp=> !decide (p.1=x)
def bI(m:List (Z×Y)):List Z:=m.map (·.1)
def FI(m:List (Z×Y))(x v):bI (jK m x v)=if x∈bI m then bI m else bI m++[x]:=by
 unfold jK bI;have:(m.any λp=>decide (p.1=x))=decide (x∈m.map (·.1)):=by rw[fj];simp
 rw[this];by_cases h:x∈m.map (·.1);rw[if_pos (by simpa using h),if_pos h,List.map_map];apply List.map_congr_left;intro p _;simp only[Function.comp];split<;>simp_all;rw[if_neg (by simpa using h),if_neg h];simp
def Az{m:List (Z×Y)}(h:(bI m).Nodup)(x v):(bI (jK m x v)).Nodup:=by rw[FI];split;exact h;rename_i f;rw[List.nodup_append];exact⟨h,by simp,λa d b c e=>f (by rw[List.mem_singleton]at c;rw[<-c,<-e];exact d)⟩
def mM{m:List (Z×Y)}(h:(bI m).Nodup)(x):(bI (dB m x)).Nodup:=h.sublist (List.filter_sublist.map _)
def fI{m x}{p:Z×Y}:p∈dB m x↔p∈m/\p.1≠x:=by simp[dB]
def oi{m:List (Z×Y)}{x}:eI m x=ah↔x∉bI m:=by unfold eI bI;rw[Option.map_eq_none_iff,List.find?_eq_none];simp only[decide_eq_true_eq,aA,not_exists,not_and]
def wi{m:List (Z×Y)}{x v}(h:eI m x=af v):(x,v)∈m:=by
 unfold eI at h;obtain⟨p,hp,rfl⟩:=aG.1 h;have a:=List.find?_some hp;have b:=List.mem_of_find?_eq_some hp;have:p.1=x:=by simpa using a
 rw[<-this];exact b
def nu{m:List (Z×Y)}(g:(bI m).Nodup){x v}(h:(x,v)∈m):eI m x=af v:=by
 induction m with
 |nil=>simp at h|cons a m i=>
  obtain⟨d,f⟩:=List.nodup_cons.1 (show(a.1::bI m).Nodup from g);unfold eI;rw[mm];rcases b8.1 h with rfl|c;simp;have b:a.1≠x:=λe=>d (by rw[e];exact aA.2 ⟨_,c,rfl⟩)
  rw[decide_eq_false b];exact i f c
def ky{m:List (Z×Y)}(a:(bI m).Nodup){x v}:eI m x=af v↔(x,v)∈m:=⟨wi,nu a⟩
def jZ(m:List (Z×Y))(x y v):eI (jK m x v) y=if y=x then af v else eI m y:=by
 unfold jK;by_cases c:(m.any λp=>decide (p.1=x))=ak;rw[if_pos c];by_cases b:y=x;rw[if_pos b];subst b;obtain⟨p,hp,f⟩:=nS.1 c;clear c
 induction m with
 |nil=>simp at hp|cons a m d=>unfold eI at d|-;rw[gg,mm];by_cases h:a.1=y;simp[h];rw[if_neg h,decide_eq_false h];refine d ?_;rcases b8.1 hp with rfl|i;simp at f;exact absurd f h;exact i
 rw[if_neg b];clear c
 induction m with
 |nil=>rfl|cons a m d=>
  unfold eI at d|-;rw[gg,mm,mm];by_cases h:a.1=x;have j:¬a.1=y:=λe=>b (e.symm.trans h)
  have g:¬x=y:=λe=>b e.symm
  rw[if_pos h,decide_eq_false j,decide_eq_false g];exact d;rw[if_neg h];split;rfl;exact d
 rw[if_neg c];have f:x∉bI m:=λh=>c (by obtain⟨p,hp,e⟩:=aA.1 h;exact nS.2 ⟨p,hp,by simpa using e⟩)
 unfold eI;rw[List.find?_append];by_cases b:y=x;rw[if_pos b];subst b;have:=oi.2 f;unfold eI at this;rw[Option.map_eq_none_iff]at this;rw[this];simp;rw[if_neg b];have g:¬x=y:=λe=>b e.symm
 simp[g]
def qo(m:List (Z×Y))(x y):eI (dB m x) y=if y=x then ah else eI m y:=by
 by_cases b:y=x;rw[if_pos b,oi];subst b;intro h;obtain⟨p,hp,e⟩:=aA.1 h;exact(fI.1 hp).2 e;rw[if_neg b]
 induction m with
 |nil=>rfl|cons a m c=>
  unfold dB at c|-;rw[List.filter_cons];by_cases h:a.1=x;have d:¬a.1=y:=λe=>b (e.symm.trans h)
  rw[decide_eq_true h];simp only[Bool.not_true,dg,if_false];rw[c];unfold eI;rw[mm,decide_eq_false d];rw[decide_eq_false h];simp only[Bool.not_false,if_true];unfold eI at c|-;rw[mm,mm];split;rfl;exact c
def Sf(m:List (Z×Y))(x):(dB m x).length<=m.length:=iE _ _
def Sg{m x v}{p:Z×Y}(h:p∈jK m x v):p=(x,v)\/(p∈m/\p.1≠x):=by unfold jK at h;split at h;obtain⟨q,c,e⟩:=aA.1 h;split at e;exact bq e.symm;rename_i a;subst e;exact cc ⟨c,a⟩;rename_i b;rw[List.mem_append]at h;rcases h with h|h;exact cc ⟨h,λe=>b (nS.2 ⟨p,h,by simpa using e⟩)⟩;exact bq (by simpa using h)
end
abbrev Hd:=Int×Int
abbrev lF:=List (Hd×Hd)
inductive Up(m:lF):Hd->Hd->Prop
 |one {a p:Hd}:eI m a=af p->Up m a p
 |more {a p q:Hd}:eI m a=af p->Up m p q->Up m a q
def uM(m:lF)(rk:Hd->Nat)(R:Nat):Prop:=∀c p,eI m c=af p->rk p<rk c/\rk c<=R
def nG(m:lF):Prop:=∃rk R,uM m rk R
section
variable{m Z:lF} {rk:Hd->Nat} {R:Nat} {a b c h p q x y:Hd}
def Up.aco(b:uM m rk R)(c:Up m a q):rk q<rk a:=by
 induction c with|one h=>exact(b _ _ h).1|more h _ d=>have:=(b _ _ h).1;omega
def Up.irrefl(b:nG m):¬Up m a a:=λh=>by obtain⟨rk,R,c⟩:=b;have:=h.aco c;omega
def Up.trans(e:Up m a b)(d:Up m b c):Up m a c:=by
 induction e with|one h=>exact .more h d|more h _ f=>exact .more h (f d)
def Up.linear(d:Up m a x):∀{y},Up m a y->x=y\/Up m x y\/Up m y x:=by
 induction d with
 |one h=>
  intro y c;cases c with|one b=>rw[h]at b;exact bq (aX b)|more b c=>rw[h]at b;cases aX b;exact cc (bq c)
 |more h d e=>
  intro y c;cases c with|one b=>rw[h]at b;cases aX b;exact cc (cc d)|more b c=>rw[h]at b;cases aX b;exact e c
def Up.none(b:eI m a=ah):¬Up m a x:=λh=>by
 cases h with|one h=>rw[b]at h;cases h|more h _=>rw[b]at h;cases h
def Up.mono(b:∀c p,eI m c=af p->eI Z c=af p)(h:Up m a x):Up Z a x:=by
 induction h with|one h=>exact .one (b _ _ h)|more h _ d=>exact .more (b _ _ h) d
def nG.sub(a:nG m)(d:∀c p,eI Z c=af p->eI m c=af p):nG Z:=by obtain⟨rk,R,b⟩:=a;exact⟨rk,R,λc p h=>b c p (d c p h)⟩
def nG.nil:nG []:=⟨λ_=>0,0,λc p h=>by simp[eI]at h⟩
def nG.del(a:nG m)(c):nG (dB m c):=a.sub λx p h=>by rw[qo]at h;split at h;cases h;exact h
def nG.put(j:nG m)(f:c≠p)(g:¬Up m p c):nG (jK m c p):=by
 obtain⟨rk,R,k⟩:=j
 classical
 have hp:¬(p=c\/Up m p c):=λh=>by rcases h with h|h;exact f h.symm;exact g h
 refine⟨λx=>if x=c\/Up m x c then rk x+(rk p+1)else rk x,R+rk c+(rk p+1),λx y a=> ?_⟩;rw[jZ]at a;by_cases d:x=c;rw[if_pos d]at a;cases aX a;simp only;rw[if_pos (bq d),if_neg hp,d];exact⟨by omega,by omega⟩;rw[if_neg d]at a;have l:=k x y a;have b:(y=c\/Up m y c)↔(x=c\/Up m x c):=by
  constructor;rintro(e|e);exact cc (.one (e▸a));exact cc (.more a e);rintro(e|e);exact absurd e d;cases e with|one e=>rw[a]at e;exact bq (aX e)|more e i=>rw[a]at e;cases aX e;exact cc i
 simp only[b];split;exact⟨by omega,by omega⟩;exact⟨by omega,by omega⟩
inductive ll(m:lF):Hd->List Hd->Prop
 |nil {h:Hd}:eI m h=ah->ll m h []
 |cons {h p:Hd} {xs:List Hd}:eI m h=af p->ll m p xs->ll m h (p::xs)
def ll.exists(b:nG m)(h):∃a,ll m h a:=by
 obtain⟨rk,R,c⟩:=b;generalize f:rk h=n
 induction n using lj generalizing h with
 |_ n e=>
  cases hm:eI m h with|none=>exact⟨[],.nil hm⟩|some p=>obtain⟨a,d⟩:=e (rk p) (by have:=(c _ _ hm).1;omega) p rfl;exact⟨p::a,.cons hm d⟩
def ll.mem{a}(c:ll m h a):x∈a↔Up m h x:=by
 induction c with
 |nil d=>simp[Up.none d]|cons hm _ f=>
  rw[b8,f];constructor;rintro(rfl|e);exact .one hm;exact .more hm e;intro e;cases e with|one e=>rw[hm]at e;exact bq (aX e).symm|more e b=>rw[hm]at e;cases aX e;exact cc b
def s9{b:Type}[BEq b][LawfulBEq b]:∀{l l':List b},l.Nodup->(∀x∈l,x∈l')->l.length<=l'.length
 |[],_,_,_=>by simp|a::l,l',hn,hs=>by
  obtain⟨d,f⟩:=List.nodup_cons.1 hn;have g:=s9 (l':=l'.erase a) f λx c=>(List.mem_erase_of_ne (λe:x=a=>d (by rw[<-e];exact c))).2 (hs x (kN _ c))
  have h:=List.length_erase_of_mem (hs a List.mem_cons_self);have i:=List.length_pos_of_mem (hs a List.mem_cons_self);rw[List.length_cons];omega
def ll.get{a}(b:ll m h a):eI m h=a.head?:=by
 cases b with|nil c=>exact c|cons hm _=>exact hm
end
def D'(a b:Hd):Bool:=decide (a.1<b.1)||(decide (a.1=b.1)&&decide (a.2<b.2))
def wX(a b:Hd):Bool:= !D' b a
def vV{a b}:wX a b=ak↔a.1<b.1\/a.1=b.1/\a.2<=b.2:=by unfold wX D';simp only[kI,Bool.or_eq_false_iff,decide_eq_false_iff_not,Bool.and_eq_false_iff];constructor;rintro⟨d,c|c⟩<;>omega;intro h;refine⟨by omega,?_⟩;by_cases e:b.1=a.1;exact cc (by omega);exact bq e
def tQ(a b c)(d:wX a b=ak)(e:wX b c=ak):wX a c=ak:=by rw[vV]at*;omega
def D9(a b):(wX a b||wX b a)=ak:=by rw[ej,vV,vV];omega
def vU{a b}(c:wX a b=ak)(d:wX b a=ak):a=b:=by rw[vV]at*;exact Prod.ext (by omega) (by omega)
def xT{l c:List Hd}(hp:l.Perm c)(h:l.Pairwise λa b=>wX a b=ak)(d:c.Pairwise λa b=>wX a b=ak):l=c:=List.Perm.eq_of_pairwise (λ_ _ _ _ e f=>vU e f) h d hp
def nB(l:List Hd):(l.mergeSort wX).Pairwise λa b=>wX a b=ak:=List.pairwise_mergeSort tQ D9 l
def P6{l a:List Hd}(hp:l.Perm a):l.mergeSort wX=a.mergeSort wX:=xT ((hZ l _).trans (hp.trans (hZ a _).symm)) (nB l) (nB a)
def ts{l c:List Hd}(hp:c.Perm l)(h:c.Pairwise λa b=>wX a b=ak):c=l.mergeSort wX:=xT (hp.trans (hZ l _).symm) h (nB l)
def OU{d:Type}(c:d->Hd)(a b:d):Bool:=wX (c a) (c b)
def kT{e}(d)(l:List e):(l.mergeSort (OU d)).Pairwise λa b=>OU d a b=ak:=List.pairwise_mergeSort (λa b c=>tQ (d a) (d b) (d c)) (λa b=>D9 (d a) (d b)) l
def iL{k}(c){l d:List k}(j:∀a∈l,∀b∈l,c a=c b->a=b)(hp:d.Perm l)(h:d.Pairwise λa b=>OU c a b=ak):d=l.mergeSort (OU c):=List.Perm.eq_of_pairwise (λa b g i e f=>j a (hp.subset g) b ((hZ l _).subset i) (vU e f)) h (kT c l) (hp.trans (hZ l _).symm)
def eO(m:lF)(h:Hd):List Hd:=(m.filter λb=>decide (b.2=h)).map (·.1)
def kids(m:lF)(h:Hd):List Hd:=(eO m h).mergeSort wX
section
variable{m Z:lF} {rk:Hd->Nat} {R:Nat} {a b c h p q x y:Hd}
def jU(c:(bI m).Nodup):x∈kids m h↔eI m x=af h:=by unfold kids eO;rw[List.mem_mergeSort,aA,ky c];constructor;rintro⟨b,a,rfl⟩;rw[b3,decide_eq_true_eq]at a;rw[<-a.2];exact a.1;intro hm;exact⟨(x,h),b3.2 ⟨hm,by simp⟩,rfl⟩
def uX(a:(bI m).Nodup)(h):(kids m h).Nodup:=(hZ _ _).nodup_iff.2 (a.sublist (List.filter_sublist.map _))
def Iy(m h):(kids m h).length<=m.length:=by unfold kids eO;rw[List.length_mergeSort,List.length_map];exact iE _ _
def vp(m:lF):Nat->Hd->List Hd|0,_=>[]|n+1,h=>(kids m h).flatMap λc=>c::vp m n c
def n3{b d:Type}{f g:b->List d}:∀{l:List b},(∀x∈l,f x=g x)->l.flatMap f=l.flatMap g|[],_=>rfl|a::l,h=>by rw[bJ,bJ,h a List.mem_cons_self,n3 λx c=>h x (kN _ c)]
def uJ(b:(bI m).Nodup)(d:uM m rk R):∀n a h,R-rk h<n->R-rk h<a->vp m n h=vp m a h
 |0,_,_,h1,_=>by omega|_,0,_,_,h2=>by omega|n+1,a+1,h,h1,h2=>by
  unfold vp;refine n3 λc e=> ?_
  have:=d _ _ ((jU b).1 e);rw[uJ b d n a c (by omega) (by omega)]
open Classical in
noncomputable def Fg(m:lF):Nat:=if h:nG m then(pR (Classical.choose_spec h))+1 else 0
noncomputable def under(m:lF)(h:Hd):List Hd:=vp m (Fg m) h
def Fh(a:nG m):∃rk R,uM m rk R/\Fg m=R+1:=by refine⟨pR a,pR (Classical.choose_spec a),Classical.choose_spec (Classical.choose_spec a),?_⟩;unfold Fg;rw[dif_pos a]
def Qa(e:(bI m).Nodup)(c:nG m):∃rk R,uM m rk R/\∀n h,R-rk h<n->vp m n h=under m h:=by obtain⟨rk,R,b,d⟩:=Fh c;refine⟨rk,R,b,λn h a=> ?_⟩;unfold under;rw[d];exact uJ e b _ _ h a (by omega)
def tv(a:(bI m).Nodup)(d:nG m)(h):under m h=(kids m h).flatMap λc=>c::under m c:=by
 obtain⟨rk,R,f,b⟩:=Qa a d;rw[<-b (R-rk h+1) h (by omega)]
 conv=>lhs;unfold vp
 refine n3 λc e=> ?_
 have:=f _ _ ((jU a).1 e);rw[b (R-rk h) c (by omega)]
def rQ(g:(bI m).Nodup)(a:nG m)(P:Hd->Prop)(step:∀h,(∀c,eI m c=af h->P c)->P h)(h):P h:=by
 obtain⟨rk,R,d⟩:=a;generalize f:R-rk h=k
 induction k using lj generalizing h with
 |_ k e=>
  refine step h λc b=> ?_
  have:=d _ _ b;exact e (R-rk c) (by omega) c rfl
def qm(d:(bI m).Nodup)(g:nG m):x∈under m h↔Up m x h:=by
 refine rQ d g (λh=>x∈under m h↔Up m x h) (λh b=> ?_) h;rw[tv d g,nT];constructor;rintro⟨c,i,a⟩;have hm:=(jU d).1 i;rcases b8.1 a with rfl|a;exact .one hm;exact((b c hm).1 a).trans (.one hm);intro j;have:∃c,eI m c=af h/\(x=c\/Up m x c):=by
  clear b
  induction j with|one hm=>exact⟨_,hm,bq rfl⟩|more hm _ b=>obtain⟨c,f,e|e⟩:=b;exact⟨c,f,cc (e▸ .one hm)⟩;exact⟨c,f,cc (.more hm e)⟩
 obtain⟨c,hm,a⟩:=this;refine⟨c,(jU d).2 hm,?_⟩;rcases a with rfl|a;exact List.mem_cons_self;exact kN _ ((b c hm).2 a)
def uz{h m:Type}{f:h->List m}:∀{l:List h},l.Nodup->(∀x∈l,(f x).Nodup)->(∀x∈l,∀y∈l,x≠y->∀z,z∈f x->z∈f y->False)->(l.flatMap f).Nodup|[],_,_,_=>by simp|a::l,hn,h1,h2=>by obtain⟨i,j⟩:=List.nodup_cons.1 hn;rw[bJ,List.nodup_append];refine⟨h1 a List.mem_cons_self,uz j (λx c=>h1 x (kN _ c)) (λx c y b=>h2 x (kN _ c) y (kN _ b)),?_⟩;intro z k n d e;subst e;obtain⟨y,b,g⟩:=nT.1 d;exact h2 a List.mem_cons_self y (kN _ b) (λe=>i (e▸b)) z k g
def J3(b:(bI m).Nodup)(d:nG m)(h):(under m h).Nodup:=by
 refine rQ b d (λh=>(under m h).Nodup) (λh w=> ?_) h;rw[tv b d];have i:∀x z,z∈x::under m x->z=x\/Up m z x:=λx z t=>by rcases b8.1 t with e|e;exact bq e;exact cc ((qm b d).1 e)
 refine uz (uX b h) (λc q=> ?_) (λx r y s g z o p=> ?_);rw[List.nodup_cons];exact⟨λe=>Up.irrefl d ((qm b d).1 e),w c ((jU b).1 q)⟩;have j:=(jU b).1 r;have k:=(jU b).1 s;have apart:∀u v:Hd,eI m u=af h->eI m v=af h->¬Up m u v:=λu v l n e=>by
  cases e with|one e=>rw[l]at e;cases aX e;exact Up.irrefl d (.one n)|more e a=>rw[l]at e;cases aX e;exact Up.irrefl d ((Up.one n).trans a)
 rcases i x z o with f|f<;>rcases i y z p with a|a
 exact g (f.symm.trans a);rw[f]at a;exact apart x y j k a;rw[a]at f;exact apart y x k j f;rcases f.linear a with e|e|e;exact g e;exact apart x y j k e;exact apart y x k j e
def oo(b:(bI m).Nodup)(a:nG m)(h):(under m h).length<=m.length:=by
 have:=s9 (J3 b a h) (l':=bI m) λx d=>by
  have c:=(qm b a).1 d;cases c with|one h=>exact aA.2 ⟨_,wi h,rfl⟩|more h _=>exact aA.2 ⟨_,wi h,rfl⟩
 simpa[bI]using this
end
open Classical in
noncomputable def fx(m:lF)(c p:Hd):lF×Int:=if c=p\/Up m p c then(m,8)else(jK m c p,0)
def eH(m:lF)(c:Hd):lF×Int:=if(eI m c).isSome then(dB m c,0)else(m,5)
def kr(m:lF)(h:Hd):lF:=m.filter λb=> !(decide (b.1=h)||decide (b.2=h))
def cY(m:lF):List (Hd×Hd):=m.mergeSort (OU (·.1))
structure il(m:lF):Prop where
 nodup:(bI m).Nodup
 pD:nG m
section
variable{m:lF} {c h p x y:Hd}
def il.nil:il []:=⟨List.nodup_nil,nG.nil⟩
def il.vB(hm:il m)(c p):il (fx m c p).1:=by unfold fx;split;exact hm;rename_i h;exact⟨Az hm.nodup _ _,hm.pD.put (λe=>h (bq e)) λe=>h (cc e)⟩
def il.loosen(hm:il m)(c):il (eH m c).1:=by unfold eH;split;exact⟨mM hm.nodup _,hm.pD.del c⟩;exact hm
def uS(a:(bI m).Nodup)(h):(bI (kr m h)).Nodup:=a.sublist (List.filter_sublist.map _)
def O3(a:(bI m).Nodup)(h):eI (kr m h) x=af y↔eI m x=af y/\x≠h/\y≠h:=by rw[ky (uS a h),ky a];unfold kr;rw[b3];simp
def il.gone(hm:il m)(h):il (kr m h):=⟨uS hm.nodup h,hm.pD.sub λ_ _ e=>((O3 hm.nodup h).1 e).1⟩
def nn(d:(bI m).Nodup):∀a∈m,∀b∈m,a.1=b.1->a=b:=λa g b h e=>by have c:=nu d (x:=a.1) (v:=a.2) g;have f:=nu d (x:=b.1) (v:=b.2) h;rw[e,f]at c;exact Prod.ext e (aX c).symm
def OY{b}(a:(bI m).Nodup):b∈cY m↔eI m b.1=af b.2:=by unfold cY;rw[List.mem_mergeSort,ky a]
def DF(m):(cY m).length=m.length:=by unfold cY;rw[List.length_mergeSort]
def zP(a:(bI m).Nodup)(h):cY (kr m h)=(cY m).filter λb=> !(decide (b.1=h)||decide (b.2=h)):=by have hp:((cY m).filter λb=> !(decide (b.1=h)||decide (b.2=h))).Perm (kr m h):=(hZ m _).filter _;exact(iL (·.1) (nn (uS a h)) hp ((kT (·.1) m).sublist ly)).symm
end
section
open Go.RowKit
def kinds(m:Nat):List Nat:=(bB 8).filter λk=>m.testBit k
def Xz(b:Nat):Nat:=(kinds b).headD 8
def low(b:Nat):Nat:=b &&& (b-1)
def Lf:∀b:Nat,b<256->b≠0->kinds b=Xz b::kinds (low b)/\low b<b:=by
 have h:∀b:Fin 256,b.val≠0->kinds b.val=Xz b.val::kinds (low b.val)/\low b.val<b.val:=by decide+kernel
 exact λb a=>h ⟨b,a⟩
def Lg:kinds 0=[]:=by decide
def oh(m):(kinds m).length<=8:=by have:=iE (λk=>m.testBit k) (bB 8);simpa[kinds]using this
def iM(m k):k∈kinds m↔k<8/\m.testBit k=ak:=by simp[kinds]
def pe(m):(kinds m).Nodup:=List.nodup_range.sublist ly
def E9:∀(m k:Nat),m<256->k<8->bits .and .i64 (m / 2^k) 1=if m.testBit k then 1 else 0:=by
 have h:∀(m:Fin 256)(k:Fin 8),bits .and .i64 ((m.val:Int) / 2^k.val) 1=if m.val.testBit k.val then 1 else 0:=by decide+kernel
 exact λm k hm a=>h ⟨m,hm⟩ ⟨k,a⟩
def Zg:∀(m k:Nat),m<256->k<8->bits .or .i64 m (wrap64 (2^k))=((m ||| 2^k:Nat):Int):=by
 have h:∀(m:Fin 256)(k:Fin 8),bits .or .i64 (m.val:Int) (wrap64 (2^k.val))=((m.val ||| 2^k.val:Nat):Int):=by decide+kernel
 exact λm k hm a=>h ⟨m,hm⟩ ⟨k,a⟩
end
namespace Rel
open Go.Conc Go.ConcN
structure lF where
 own:Nat->Loc->Prop
 fr:Loc->Prop
 rd:Loc->Prop
 mine:Loc->Prop
 sh:Loc->Prop
structure lF.Apart(F:lF):Prop where
 own:∀k k' l,F.own k l->F.own k' l->k=k'
 Xr:∀k l,F.own k l->¬F.fr l
 ownRd:∀k l,F.own k l->¬F.rd l
 Nj:∀k l,F.own k l->¬F.mine l
 ownSh:∀k l,F.own k l->¬F.sh l
 Yq:∀l,F.fr l->¬F.rd l
 Yp:∀l,F.fr l->¬F.mine l
 Yr:∀l,F.fr l->¬F.sh l
 SX:∀l,F.rd l->¬F.mine l
 rdSh:∀l,F.rd l->¬F.sh l
 Sn:∀l,F.mine l->¬F.sh l
structure ET(F:lF) (lo hi:Nat) (t:Trace):Prop where
 nr:∀said,¬Race said t
 quiet:Quiet F.sh t
 own:∀k,lo<=k->k<hi->∀l,F.own k l->Perm t k l
 fr0:∀l,F.fr l->Perm t 0 l
 fr:∀k,lo<=k->k<hi->∀l,F.fr l->Perm t k l
 Zr:∀l,F.rd l->PermW t 0 l
 rd:∀k,lo<=k->k<hi->∀l,F.rd l->PermW t k l
 mine:∀l,F.mine l->Perm t 0 l
 gs:∀(i:Nat)(op:MemOp),t[i]? =af op->op.g<hi
def OkK(F:lF)(k:Nat)(op:MemOp):Prop:=op.g=k/\∀x,op.act.touch? =af x->(F.sh x.loc/\x.kind≠.plain/\x.kind≠.said)\/F.own k x.loc\/(F.rd x.loc/\x.write=aq)
def OkM(F:lF)(op:MemOp):Prop:=op.g=0/\∀x,op.act.touch? =af x->(F.sh x.loc/\x.kind≠.plain)\/F.mine x.loc\/(F.rd x.loc/\x.write=aq)
section
variable{F:lF} {Z Y:Nat} {t u:Trace}
def ET.X9(A:F.Apart)(h:ET F Z Y t){k}(E:Z<=k)(D:k<Y)(n:∀op∈u,OkK F k op):ET F Z Y (t++u):=by
 have y:∀op∈u,op.g=k:=λop c=>(n op c).1
 refine⟨λr=> ?_,h.quiet.app λop c x m f=> ?_,λo a b l d=>(h.own o a b l d).app λop c x m e=> ?_,λl d=>(h.fr0 l d).app λop c x m e=> ?_,λo a b l d=>(h.fr o a b l d).app λop c x m e=> ?_,λl d=>(h.Zr l d).app λop c x m e q=> ?_,λo a b l d=>(h.rd o a b l d).app λop c x m e q=> ?_,λl d=>(h.mine l d).app λop c x m e=> ?_,λi op p=> ?_⟩;refine noRace_append (h.nr r) y (λi a v op c b G s=> ?_);rcases(n op c).2 b G with⟨f,B,C⟩|g|⟨j,w⟩;exact h.quiet.known f B (λe=>absurd e C) i a v s;exact h.own k E D b.loc g i a v s.1;exact h.rd k E D b.loc j i a v s.1 (s.2.2.1.resolve_right (by simp[w]));rcases(n op c).2 x m with⟨_,B,C⟩|g|⟨j,_⟩;exact⟨B,λe=>absurd e C⟩;exact absurd f (A.ownSh k _ g);exact absurd f (A.rdSh _ j);rcases(n op c).2 x m with⟨f,_⟩|g|⟨j,_⟩;exact absurd (e▸f) (A.ownSh o l d);rw[y op c];exact A.own k o l (e▸g) d;exact absurd (e▸j) (A.ownRd o l d);rcases(n op c).2 x m with⟨f,_⟩|g|⟨j,_⟩;exact absurd (e▸f) (A.Yr l d);exact absurd d (A.Xr k l (e▸g));exact absurd (e▸j) (A.Yq l d);rcases(n op c).2 x m with⟨f,_⟩|g|⟨j,_⟩;exact absurd (e▸f) (A.Yr l d);exact absurd d (A.Xr k l (e▸g));exact absurd (e▸j) (A.Yq l d);rcases(n op c).2 x m with⟨f,_⟩|g|⟨_,j⟩;exact absurd (e▸f) (A.rdSh l d);exact absurd d (A.ownRd k l (e▸g));rw[j]at q;cases q;rcases(n op c).2 x m with⟨f,_⟩|g|⟨_,j⟩;exact absurd (e▸f) (A.rdSh l d);exact absurd d (A.ownRd k l (e▸g));rw[j]at q;cases q;rcases(n op c).2 x m with⟨f,_⟩|g|⟨j,_⟩;exact absurd (e▸f) (A.Sn l d);exact absurd d (A.Nj k l (e▸g));exact absurd d (A.SX l (e▸j));rcases getElem?_append_cases p with⟨_,p⟩|⟨_,z⟩;exact h.gs i op p;rw[y op z];exact D
def ET.aaw(A:F.Apart)(D:0<Z)(C:Z<=Y)(h:ET F Z Y t)(p:∀op∈u,OkM F op):ET F Z Y (t++u):=by
 have o:∀op∈u,op.g=0:=λop c=>(p op c).1
 refine⟨λq=> ?_,h.quiet.app λop c x g f=> ?_,λm a b l d=>(h.own m a b l d).app λop c x g e=> ?_,λl d=>(h.fr0 l d).app λop c x g e=>o op c,λm a b l d=>(h.fr m a b l d).app λop c x g e=> ?_,λl d=>(h.Zr l d).app λop c x g e z=>o op c,λm a b l d=>(h.rd m a b l d).app λop c x g e z=> ?_,λl d=>(h.mine l d).app λop c x g e=>o op c,λi op n=> ?_⟩;refine noRace_append (h.nr q) o (λi a s op c b B r=> ?_);rcases(p op c).2 b B with⟨f,y⟩|j|⟨k,v⟩;exact h.quiet.known f y (λ_=>rfl) i a s r;exact h.mine b.loc j i a s r.1;exact h.Zr b.loc k i a s r.1 (r.2.2.1.resolve_right (by simp[v]));rcases(p op c).2 x g with⟨_,y⟩|j|⟨k,_⟩;exact⟨y,λ_=>o op c⟩;exact absurd f (A.Sn _ j);exact absurd f (A.rdSh _ k);rcases(p op c).2 x g with⟨f,_⟩|j|⟨k,_⟩;exact absurd (e▸f) (A.ownSh m l d);exact absurd (e▸j) (A.Nj m l d);exact absurd (e▸k) (A.ownRd m l d);rcases(p op c).2 x g with⟨f,_⟩|j|⟨k,_⟩;exact absurd (e▸f) (A.Yr l d);exact absurd (e▸j) (A.Yp l d);exact absurd (e▸k) (A.Yq l d);rcases(p op c).2 x g with⟨f,_⟩|j|⟨_,k⟩;exact absurd (e▸f) (A.rdSh l d);exact absurd (e▸j) (A.SX l d);rw[k]at z;cases z;rcases getElem?_append_cases n with⟨_,n⟩|⟨_,w⟩;exact h.gs i op n;rw[o op w];omega
def ET.mute(h:ET F Z Y t){g}(o:g<Y)(q:∀op∈u,op.g=g)(s:∀op∈u,op.act.touch? =ah):ET F Z Y (t++u):=by
 have j:∀{P:Prop},∀op∈u,∀x,op.act.touch? =af x->P:=λop c x d=>by rw[s op c]at d;cases d
 refine⟨λn=>noRace_append (h.nr n) q (λi a w op c b r y=>j op c b r),h.quiet.app λop c x d z=>j op c x d,λm a b l f=>(h.own m a b l f).app λop c x d e=>j op c x d,λl f=>(h.fr0 l f).app λop c x d e=>j op c x d,λm a b l f=>(h.fr m a b l f).app λop c x d e=>j op c x d,λl f=>(h.Zr l f).app λop c x d e v=>j op c x d,λm a b l f=>(h.rd m a b l f).app λop c x d e v=>j op c x d,λl f=>(h.mine l f).app λop c x d e=>j op c x d,λi op k=> ?_⟩;rcases getElem?_append_cases k with⟨_,k⟩|⟨_,p⟩;exact h.gs i op k;rw[q op p];exact o
def pX(t:Trace)(l:Loc):Prop:=∀i a,touchAt t i=af a->a.loc≠l
def pX.perm{l}(h:pX t l)(g):Perm t g l:=λi a b e=>absurd e (h i a b)
def ET.rT{d}(h:ET F Z Y t)(i:d.sh=F.sh)(f:∀k,Z<=k->k<Y->∀l,d.own k l->F.own k l\/F.fr l\/pX t l)(e:∀l,d.fr l->F.fr l)(g:∀l,d.rd l->F.rd l)(hm:∀l,d.mine l->F.mine l\/pX t l):ET d Z Y t:=by refine⟨h.nr,by rw[i];exact h.quiet,λk a b l c=> ?_,λl c=>h.fr0 l (e l c),λk a b l c=>h.fr k a b l (e l c),λl c=>h.Zr l (g l c),λk a b l c=>h.rd k a b l (g l c),λl c=> ?_,h.gs⟩;rcases f k a b l c with x|x|x;exact h.own k a b l x;exact h.fr k a b l x;exact x.perm k;exact(hm l c).elim (h.mine l) λx=>x.perm 0
def ET.fork(O:Z<=Y)(h:ET F Z Y t){F'}(H:F'.sh=F.sh)(w:∀k,Z<=k->k<Y->∀l,F'.own k l->F.own k l)(v:∀l,F'.own Y l->F.mine l)(n:∀l,F'.fr l->F.fr l)(p:∀l,F'.rd l->F.rd l)(hm:∀l,F'.mine l->F.mine l)(N:0<Y){x y}(A:x.g=0/\x.act=.go Y)(B:y.g=Y/\y.act=.start)(L:Deaf t 0=0):ET F' Z (Y+1) (t++#[x,y]):=by
 have M:Deaf t Y=0:=Deaf_absent λi op Y e=>by have:=h.gs i op Y;omega
 have m:∀op∈ #[x,y],∀b,op.act.touch? =af b->False:=by intro op c b d;simp only[nU,b8,fO,or_false]at c;rcases c with rfl|rfl;rw[A.2]at d;cases d;rw[B.2]at d;cases d
 have old:∀{i:Nat}{a:Touch},touchAt (t++#[x,y]) i=af a->touchAt t i=af a:=by intro i a r;obtain⟨z,Q,C⟩:=touch_of r;rcases getElem?_append_cases Q with⟨_,I⟩|⟨_,J⟩;rw[touchAt_of I];exact C;exact(m z J a C).elim
 have E:∀{g:Nat}{l:Loc},Perm t g l->Perm (t++#[x,y]) g l:=λhp=>hp.app λop c b d _=>(m op c b d).elim
 have q:∀{g:Nat}{l:Loc},PermW t g l->PermW (t++#[x,y]) g l:=λhp=>hp.app λop c b d _ _=>(m op c b d).elim
 have K:∀{l:Loc},Perm t 0 l->Perm (t++#[x,y]) Y l:=λhp i a r e=>fork_knows A B L M (hp i a (old r) e)
 have G:∀{l:Loc},PermW t 0 l->PermW (t++#[x,y]) Y l:=λhp i a r e P=>fork_knows A B L M (hp i a (old r) e P)
 refine⟨λD=> ?_,by rw[H];exact h.quiet.app λop c b d _=>(m op c b d).elim,λk a b l f=> ?_,λl f=>E (h.fr0 l (n l f)),λk a b l f=> ?_,λl f=>q (h.Zr l (p l f)),λk a b l f=> ?_,λl f=>E (h.mine l (hm l f)),λi op o=> ?_⟩;have e:t++#[x,y]=(t++#[x])++#[y]:=by apply Array.ext';simp
 rw[e];refine noRace_append (g:=Y) (noRace_append (g:=0) (h.nr D) (λop c=>by simp at c;rw[c];exact A.1) (λi a _ op c b d _=>(m op (by simp at c|-;exact .inl c) b d).elim)) (λop c=>by simp at c;rw[c];exact B.1) (λi a _ op c b d _=>(m op (by simp at c|-;exact .inr c) b d).elim)
 rcases du k Y with j|s;exact E (h.own k a j l (w k a j l f));obtain rfl:k=Y:=by omega
 exact K (h.mine l (v l f));rcases du k Y with j|s;exact E (h.fr k a j l (n l f));obtain rfl:k=Y:=by omega
 exact K (h.fr0 l (n l f));rcases du k Y with j|s;exact q (h.rd k a j l (p l f));obtain rfl:k=Y:=by omega
 exact G (h.Zr l (p l f));rcases getElem?_append_cases o with⟨_,o⟩|⟨_,u⟩;exact Nat.lt_succ_of_lt (h.gs i op o);simp only[nU,b8,fO,or_false]at u;rcases u with rfl|rfl;rw[A.1];omega;rw[B.1];omega
end
end Rel
namespace Rel
abbrev Ren:=Nat->Nat->Prop
structure Ren.Ok(P:br) (π:Ren):Prop where
 fn:∀a b c,π a b->π a c->b=c
 inj:∀a b c,π a c->π b c->a=b
 RA:∀a b,π a b->(a<P.globals.size↔b<P.globals.size)
structure nK where
 fn:eu->Prop
 code:Code->Prop
 RA:Nat->Prop
 mem:Addr->Option Int:=λ_=>ah
 ext:eu->Prop:=λ_=>False
instance:CoeFun nK λ_=>eu->Prop:=⟨nK.fn⟩
structure Ext(P:br) (π NV:Ren):Prop where
 le:∀a b,π a b->NV a b
 ok:Ren.Ok P NV
def Ext.refl{P a}(h:Ren.Ok P a):Ext P a a:=⟨λ_ _ x=>x,h⟩
def Ext.trans{P a b c}(h:Ext P a b)(k:Ext P b c):Ext P a c:=⟨λ_ _ x=>k.le _ _ (h.le _ _ x),k.ok⟩
inductive gh{α β:Type} (R:α->β->Prop):Option α->Option β->Prop
 |none:gh R ah ah
 |some {a b}:R a b->gh R (af a) (af b)
def gh.mono{d e}{R c:d->e->Prop}(h:∀a b,R a b->c a b):∀{x y},gh R x y->gh c x y|_,_,.none=>.none|_,_,.some x=>.some (h _ _ x)
structure ig{α β:Type} (R:α->β->Prop) (x:Array α) (y:Array β):Prop where
 size:x.size=y.size
 at_:∀(i:Nat) a b,x[i]? =af a->y[i]? =af b->R a b
inductive dp{α β:Type} (R:α->β->Prop):List α->List β->Prop
 |nil:dp R [] []
 |cons {a b l m}:R a b->dp R l m->dp R (a::l) (b::m)
structure dK(π:Ren) (a b:Addr):Prop where
 block:π a.block b.block
 off:b.off=a.off
 spot:b.spot=a.spot
inductive Qn(S:nK) (π:Ren):Fn->Fn->Prop
 |func {f}:S f->Qn S π (.func f) (.func f)
 |yield {l m}:π l m->Qn S π (.yield l) (.yield m)
inductive bz(S:nK) (π:Ren):aB->aB->Prop
 |bool (b):bz S π (.bool b) (.bool b)
 |int (k n):bz S π (.int k n) (.int k n)
 |string (s):bz S π (.string s) (.string s)
 |fB:bz S π (.pointer ah) (.pointer ah)
 |pointer {a b}:dK π a b->bz S π (.pointer (af a)) (.pointer (af b))
 |jr (l c):bz S π (.slice ah l c) (.slice ah l c)
 |slice {a b} (l c):dK π a b->bz S π (.slice (af a) l c) (.slice (af b) l c)
 |uY:bz S π (.map ah) (.map ah)
 |map {a b}:π a b->bz S π (.map (af a)) (.map (af b))
 |sG:bz S π (.chan ah) (.chan ah)
 |func {f g:Fn} {x x' y y':Array aB}:Qn S π f g->x.size=x'.size->(∀(i:Nat) a b,x[i]? =af a->x'[i]? =af b->bz S π a b)->y.size=y'.size->(∀(i:Nat) a b,y[i]? =af a->y'[i]? =af b->bz S π a b)->bz S π (.func f x y) (.func g x' y')
 |nilFunc:bz S π .nilFunc .nilFunc
 |iface (t) {v v'}:bz S π v v'->bz S π (.iface t v) (.iface t v')
 |nilIface:bz S π .nilIface .nilIface
 |agg {x x':Array aB}:x.size=x'.size->(∀(i:Nat) a b,x[i]? =af a->x'[i]? =af b->bz S π a b)->bz S π (.agg x) (.agg x')
 |tuple {x x':Array aB}:x.size=x'.size->(∀(i:Nat) a b,x[i]? =af a->x'[i]? =af b->bz S π a b)->bz S π (.tuple x) (.tuple x')
abbrev cH(S:nK)(a:Ren):Array aB->Array aB->Prop:=ig (bz S a)
def dK.mono{P d c}(h:Ext P d c){a b}(x:dK d a b):dK c a b:=⟨h.le _ _ x.block,x.off,x.spot⟩
def Qn.mono{P S d c}(h:Ext P d c):∀{a b},Qn S d a b->Qn S c a b|_,_,.func s=>.func s|_,_,.yield x=>.yield (h.le _ _ x)
def bz.mono{P S d a}(h:Ext P d a){v b}(x:bz S d v b):bz S a v b:=by
 induction x with|bool=>exact .bool _|int=>exact .int _ _|string=>exact .string _|fB=>exact .fB|pointer x=>exact .pointer (x.mono h)|jr=>exact .jr _ _|slice l c x=>exact .slice _ _ (x.mono h)|uY=>exact .uY|map x=>exact .map (h.le _ _ x)|sG=>exact .sG|func f j _ k _ e g=>exact .func (f.mono h) j e k g|nilFunc=>exact .nilFunc|iface t _ i=>exact .iface _ i|nilIface=>exact .nilIface|agg s _ i=>exact .agg s i|tuple s _ i=>exact .tuple s i
structure nH(S:nK) (π:Ren) (e e':MapEntry):Prop where
 key:bz S π e.key e'.key
 val:bz S π e.val e'.val
 born:e'.born=e.born
structure ya(S:nK) (π:Ren) (a b:Loop):Prop where
 state:b.state=a.state
 pending:b.pending=a.pending
 okP:∀c,a.pending=af c->S.code c
 fn:b.fn=a.fn
 tmps:cH S π a.tmps b.tmps
 params:b.params=a.params
 assign:b.assign=a.assign
 okA:S.code a.assign
 body:b.body=a.body
 okB:S.code a.body
 defers:π a.defers b.defers
inductive jH(S:nK) (π:Ren):Obj->Obj->Prop
 |loop {a b:Loop}:ya S π a b->jH S π (.loop a) (.loop b)
 |number {a b:Addr} (lost:Bool):dK π a b->jH S π (.number a lost) (.number b lost)
 |deferred (b:Bool):jH S π (.deferred (if b then af []else ah)) (.deferred (if b then af []else ah))
 |cells {c c'} (t fr):cH S π c c'->jH S π (.cells c t fr) (.cells c' t fr)
 |map {e e'} (k):ig (nH S π) e e'->jH S π (.map e k) (.map e' k)
 |stringIter (s p):jH S π (.stringIter s p) (.stringIter s p)
 |mapIter {m m'} (since seen mj):gh π m m'->jH S π (.mapIter m since seen mj) (.mapIter m' since seen mj)
def _root_.Go.Halt.lost:Halt->Bool|.panic _|.stuck _=>ak|.unsupported (.initOrder _)=>aq|.unsupported _=>ak|_=>aq
def av(P:br)(S:nK){l p}(Q:Ren->l->p->Prop):Sem l->Ren->Sem p->Prop
 |.pure a,π,s'=>∃b,s'=.pure b/\Q π a b
 |.load m a k,π,s'=>m=.plain/\∃e c,s'=.load .plain e c/\((dK π a e/\∀v j,bz S π v j->av P S Q (k v) π (c j))\/(e=a/\∃x,S.mem a=af x/\av P S Q (k (.int .i64 x)) π (c (.int .i64 x))))|.store m a v k,π,s'=>m=.plain/\∃e j c,s'=.store .plain e j c/\dK π a e/\bz S π v j/\av P S Q k π c|.new o k,π,s'=>(∃g c,s'=.new g c/\jH S π o g/\∀i r d,Ext P π i->i r d->av P S Q (k r) i (c d))\/∀r,∃h,k r=.halt h/\h.lost=ak|.shape r k,π,s'=>∃d c,s'=.shape d c/\π r d/\∀x,av P S Q (k x) π (c x)
 |.freeze _ _ _,_,_=>False|.frozen a k,π,s'=>∃e c,s'=.frozen e c/\dK π a e/\∀x,av P S Q (k x) π (c x)
 |.getObj r k,π,s'=>∃d c,s'=.getObj d c/\π r d/\∀o g,jH S π o g->av P S Q (k o) π (c g)
 |.setObj r o k,π,s'=>∃d g c,s'=.setObj d g c/\π r d/\jH S π o g/\av P S Q k π c
 |.choose q k,π,s'=>∃c,s'=.choose q c/\∀n,av P S Q (k n) π (c n)
 |.sys _ _,_,_=>False|.program k,π,s'=>∃c,s'=.program c/\av P S Q (k P) π (c P)
 |.mark m k,π,s'=>(m=.noRoom\/∃f,m=.extern f/\S.ext f)/\∃c,s'=.mark m c/\av P S Q k π c|.halt h,_,_=>h.lost=ak
section
variable{P:br} {S:nK}
def av.bind{J K L M Q Q'}{k:J->Sem L}{l:K->Sem M}:∀{s}{i}{B},Ren.Ok P i->av P S Q s i B->(∀p a b,Ext P i p->Q p a b->av P S Q' (k a) p (l b))->av P S Q' (s >>= k) i (B >>= l):=by
 intro s
 induction s with
 |pure a=>rintro i _ f ⟨b,rfl,h⟩ d;exact d i a b (Ext.refl f) h
 |load m a k g=>rintro i _ f ⟨rfl,y,l,rfl,⟨h,j⟩|⟨rfl,x,h,j⟩⟩ d;exact⟨rfl,y,_,rfl,.inl ⟨h,λv C I=>g v f (j v C I) d⟩⟩;exact⟨rfl,y,_,rfl,.inr ⟨rfl,x,h,g _ f j d⟩⟩
 |store m a v k g=>rintro i _ f ⟨rfl,y,C,l,rfl,h,E,F⟩ d;exact⟨rfl,y,C,_,rfl,h,E,g f F d⟩
 |new o k g=>
  rintro i _ f (⟨u,l,rfl,h,j⟩|G) d;exact .inl ⟨u,_,rfl,h,λp r t e H=>g r e.ok (j p r t e H) λw a b D=>d w a b (e.trans D)⟩;refine .inr λr=> ?_
  obtain⟨x,e,z⟩:=G r;refine⟨x,?_,z⟩;show(k r).bind _=_;rw[e];rfl
 |shape r k g=>rintro i _ f ⟨t,l,rfl,h,j⟩ d;exact⟨t,_,rfl,h,λx=>g x f (j x) d⟩
 |freeze a n k g=>rintro i _ f h d;exact h.elim
 |frozen a k g=>rintro i _ f ⟨t,l,rfl,h,j⟩ d;exact⟨t,_,rfl,h,λx=>g x f (j x) d⟩
 |getObj r k g=>rintro i _ f ⟨t,l,rfl,h,j⟩ d;exact⟨t,_,rfl,h,λo u A=>g o f (j o u A) d⟩
 |setObj r o k g=>rintro i _ f ⟨t,u,l,rfl,h,A,j⟩ d;exact⟨t,u,_,rfl,h,A,g f j d⟩
 |choose q k g=>rintro i _ f ⟨l,rfl,h⟩ d;exact⟨_,rfl,λn=>g n f (h n) d⟩
 |sys c k g=>rintro i _ f h d;exact h.elim
 |program k g=>rintro i _ f ⟨l,rfl,h⟩ d;exact⟨_,rfl,g P f h d⟩
 |mark m k g=>rintro i _ f ⟨hm,l,rfl,h⟩ d;exact⟨hm,_,rfl,g f h d⟩
 |halt h=>intro i B _ z _;exact z
def av.mono{I J}{Q Q':Ren->I->J->Prop}{s t A}(i:Ren.Ok P t)(h:av P S Q s t A)(g:∀j a b,Ext P t j->Q j a b->Q' j a b):av P S Q' s t A:=by
 induction s generalizing t A with
 |pure a=>obtain⟨b,rfl,h⟩:=h;exact⟨b,rfl,g t a b (Ext.refl i) h⟩|load m a k d=>obtain⟨rfl,y,l,rfl,⟨h,f⟩|⟨rfl,x,h,f⟩⟩:=h;exact⟨rfl,y,_,rfl,.inl ⟨h,λv B H=>d v i (f v B H) g⟩⟩;exact⟨rfl,y,_,rfl,.inr ⟨rfl,x,h,d _ i f g⟩⟩|store m a v k d=>obtain⟨rfl,y,B,l,rfl,h,D,E⟩:=h;exact⟨rfl,y,B,_,rfl,h,D,d i E g⟩|new o k d=>rcases h with⟨u,l,rfl,h,f⟩|F;exact .inl ⟨u,_,rfl,h,λj r p e G=>d r e.ok (f j r p e G) λw a b C=>g w a b (e.trans C)⟩;exact .inr F
 |shape r k d=>obtain⟨p,l,rfl,h,f⟩:=h;exact⟨p,_,rfl,h,λx=>d x i (f x) g⟩|freeze a n k d=>exact h.elim|frozen a k d=>obtain⟨p,l,rfl,h,f⟩:=h;exact⟨p,_,rfl,h,λx=>d x i (f x) g⟩|getObj r k d=>obtain⟨p,l,rfl,h,f⟩:=h;exact⟨p,_,rfl,h,λo u z=>d o i (f o u z) g⟩|setObj r o k d=>obtain⟨p,u,l,rfl,h,z,f⟩:=h;exact⟨p,u,_,rfl,h,z,d i f g⟩|choose q k d=>obtain⟨l,rfl,h⟩:=h;exact⟨_,rfl,λn=>d n i (h n) g⟩|sys c k d=>exact h.elim|program k d=>obtain⟨l,rfl,h⟩:=h;exact⟨_,rfl,d P i h g⟩|mark m k d=>obtain⟨hm,l,rfl,h⟩:=h;exact⟨hm,_,rfl,d i h g⟩|halt f=>exact h
end
structure cg(P:br) (S:nK) (π:Ren) (L R:ar):Prop where
 ok:Ren.Ok P π
 obj:∀l r,π l r->∃o o',L.heap[l]? =af o/\R.heap[r]? =af o'/\jH S π o o'
 mG:P.globals.size<=L.heap.size
 rm:P.globals.size<=R.heap.size
 old:∀a x,S.mem a=af x->(∀r,¬π a.block r)/\(∀l,¬π l a.block)/\L.cell? a=af (.int .i64 x)/\R.cell? a=af (.int .i64 x)
def ig.mono{f g}{R c:f->g->Prop}{x y}(h:ig R x y)(k:∀a b,R a b->c a b):ig c x y:=⟨h.size,λi a b d e=>k _ _ (h.at_ i a b d e)⟩
def ig.get{e f}{R:e->f->Prop}{x y}(h:ig R x y){i:Nat}{a}(c:x[i]? =af a):∃b,y[i]? =af b/\R a b:=by
 have d:i<y.size:=by rw[<-h.size];exact(aC.1 c).1
 exact⟨y[i],aS d,h.at_ i a _ c (aS d)⟩
def ig.set{m n}{R:m->n->Prop}{x y}(h:ig R x y){i a b}(k:R a b):ig R (x.setIfInBounds i a) (y.setIfInBounds i b):=by
 refine⟨by simp[h.size],λj c d e g=> ?_⟩;by_cases f:i=j;subst f;have l:i<x.size:=by have:=(aC.1 e).1;simpa using this
 rw[aQ l]at e;rw[aQ (by rw[<-h.size];exact l)]at g;obtain rfl:=aX e;obtain rfl:=aX g;exact k;rw[aH f]at e g;exact h.at_ j c d e g
def nH.mono{P S c a}(h:Ext P c a){e b}(x:nH S c e b):nH S a e b:=⟨x.key.mono h,x.val.mono h,x.born⟩
def jH.mono{P S f d}(h:Ext P f d):∀{o e},jH S f o e->jH S d o e|_,_,.loop x=>.loop ⟨x.state,x.pending,x.okP,x.fn,x.tmps.mono λ_ _ y=>y.mono h,x.params,x.assign,x.okA,x.body,x.okB,h.le _ _ x.defers⟩|_,_,.number l x=>.number l (x.mono h)|_,_,.deferred b=>.deferred b|_,_,.cells t g x=>.cells t g (x.mono λ_ _ y=>y.mono h)|_,_,.map k x=>.map k (x.mono λ_ _ y=>y.mono h)|_,_,.stringIter s p=>.stringIter s p|_,_,.mapIter a b c x=>.mapIter a b c (x.mono λ_ _ y=>h.le _ _ y)
structure vu(π NV:Ren) (L R L' R':ar):Prop where
 tape:R'.tape=R.tape
 os:R'.os=R.os
 output:R'.output=R.output
 osL:L'.os=L.os
 tY:L'.output=L.output
 size:R.heap.size<=R'.heap.size
 BB:L.heap.size<=L'.heap.size
 sizes:R'.heap.size+L.heap.size=R.heap.size+L'.heap.size
 rest:∀r,r<R.heap.size->(∀l,¬π l r)->R'.heap[r]? =R.heap[r]?
 Jl:∀l,l<L.heap.size->(∀r,¬π l r)->L'.heap[l]? =L.heap[l]?
 new:∀l r,NV l r->π l r\/(L.heap.size<=l/\R.heap.size<=r/\r+L.heap.size=l+R.heap.size)
 all:∀l,L.heap.size<=l->l<L'.heap.size->∃r,NV l r
 le:∀l r,π l r->NV l r
def vu.refl(a L R):vu a a L R L R:=⟨rfl,rfl,rfl,rfl,rfl,ao _,ao _,bM _ _▸rfl,λ_ _ _=>rfl,λ_ _ _=>rfl,λ_ _ h=>.inl h,λl b c=>by omega,λ_ _ h=>h⟩
def vu.trans{p f a L R i o c d}(h:vu p f L R i o)(k:vu f a i o c d):vu p a L R c d:=by have t:=h.sizes;have u:=k.sizes;refine⟨k.tape.trans h.tape,k.os.trans h.os,k.output.trans h.output,k.osL.trans h.osL,k.tY.trans h.tY,bD h.size k.size,bD h.BB k.BB,by omega,λr b e=> ?_,λl g e=> ?_,λl r m=> ?_,λl q s=> ?_,λl r x=>k.le _ _ (h.le _ _ x)⟩;refine(k.rest r (bQ b h.size) λl g=> ?_).trans (h.rest r b e);rcases h.new l r g with x|x;exact e l x;omega;refine(k.Jl l (bQ g h.BB) λr b=> ?_).trans (h.Jl l g e);rcases h.new l r b with x|x;exact e r x;omega;have:=h.size;have:=h.BB;rcases k.new l r m with x|x;exact h.new l r x;exact .inr ⟨by omega,by omega,by omega⟩;rcases du l i.heap.size with n|j;obtain⟨r,b⟩:=h.all l q n;exact⟨r,k.le _ _ b⟩;exact k.all l j s
inductive zy(S:nK) (π:Ren):Event->Prop
 |cell {l:Nat} {a:Addr} (wr:Bool):π l a.block->zy S π ⟨.cell a,wr,aq⟩
 |obj {l r:Nat} (wr:Bool):π l r->zy S π ⟨.obj r,wr,aq⟩
 |room:zy S π ⟨.mark .noRoom,aq,ak⟩
 |ext {f:eu}:S.ext f->zy S π ⟨.mark (.extern f),aq,ak⟩
 |old {a:Addr} {x:Int}:S.mem a=af x->zy S π ⟨.cell a,aq,aq⟩
def zy.mono{P S b a}(h:Ext P b a):∀{e},zy S b e->zy S a e|_,.cell w x=>.cell w (h.le _ _ x)|_,.obj w x=>.obj w (h.le _ _ x)|_,.room=>.room|_,.ext h=>.ext h|_,.old h=>.old h
def l6{w b:ar}{a}(h:b.heap[a.block]? =w.heap[a.block]?):b.cell? a=w.cell? a:=by unfold da;rw[h]
def vE{w:ar}{a v}(h:w.cell? a=af v):a.block<w.heap.size:=by unfold da at h;rcases du a.block w.heap.size with c|b;exact c;rw[gP b]at h;cases h
section
variable{P:br} {S:nK}
def cg.lt{a L R}(h:cg P S a L R){l r}(x:a l r):l<L.heap.size/\r<R.heap.size:=by obtain⟨o,d,b,c,_⟩:=h.obj l r x;exact⟨(aC.1 b).1,(aC.1 c).1⟩
def cg.cell{c L R}(h:cg P S c L R){a d}(x:dK c a d):∀v,L.cell? a=af v->∃e,R.cell? d=af e/\bz S c v e:=by
 intro v b;obtain⟨o,m,f,g,i⟩:=h.obj _ _ x.block;unfold da at b|-;rw[f]at b;rw[g,x.spot,x.off];cases i with|cells t l j=>simp only at b|-;split at b;cases b;rename_i k;rw[if_neg k];exact j.get b|_=>cases b
def cg.shape{a L R}(h:cg P S a L R){l r}(x:a l r):R.shape? r=L.shape? l:=by
 obtain⟨o,g,b,c,d⟩:=h.obj _ _ x;unfold World.shape?;rw[b,c];cases d with|cells t f e=>simp[e.size]|_=>rfl
def cg.frozen{c L R}(h:cg P S c L R){a b}(x:dK c a b):R.frozen? b=L.frozen? a:=by obtain⟨o,g,d,e,f⟩:=h.obj _ _ x.block;unfold World.frozen?;rw[d,e,x.off];cases f<;>rfl
def cg.setBlock{c L R}(h:cg P S c L R){l r}(x:c l r){o d}(u:jH S c o d):cg P S c {L with heap:=L.heap.setIfInBounds l o} {R with heap:=R.heap.setIfInBounds r d}:=by
 refine⟨h.ok,λm n b=> ?_,by simpa using h.mG,by simpa using h.rm,λa y v=> ?_⟩;rotate_left;obtain⟨f,g,i,j⟩:=h.old a y v;have w:l≠a.block:=λe=>f r (e▸x)
 have z:r≠a.block:=λe=>g l (e▸x)
 exact⟨f,g,(l6 (aH w)).trans i,(l6 (aH z)).trans j⟩;obtain⟨p,A,k,q,s⟩:=h.obj m n b;by_cases hm:l=m;subst hm;have:=h.ok.fn _ _ _ x b;subst this;refine⟨o,d,?_,?_,u⟩;simp[aQ (h.lt x).1];simp[aQ (h.lt x).2];have t:r≠n:=λe=>hm (h.ok.inj _ _ _ (e▸x) b)
 exact⟨p,A,by simpa[aH hm]using k,by simpa[aH t]using q,s⟩
def setCell_eq{w:ar}{a v c t d}(h:w.heap[a.block]? =af (.cells c t d)):w.setCell a v={w with heap:=w.heap.setIfInBounds a.block (.cells (if a.spot.isSome then c else c.setIfInBounds a.off v) t d)}:=by
 have g:=(aC.1 h).1;have e:w.heap.modify a.block (λ|.cells c b frozen=>.cells (if a.spot.isSome then c else c.setIfInBounds a.off v) b frozen|o=>o)=w.heap.setIfInBounds a.block (.cells (if a.spot.isSome then c else c.setIfInBounds a.off v) t d):=by apply Array.ext_getElem?;intro i;rw[bp];by_cases f:a.block=i;subst f;rw[if_pos rfl,aQ g,h];rfl;rw[if_neg f,aH f]
 unfold dJ;exact congrArg (λhp=>({w with heap:=hp}:ar)) e
def cg.setCell{c L R}(h:cg P S c L R){a e}(x:dK c a e){v g}(l:bz S c v g){u}(d:L.cell? a=af u):cg P S c (L.setCell a v) (R.setCell e g):=by
 obtain⟨o,m,f,j,k⟩:=h.obj _ _ x.block;cases k with|cells t i b=>rw[setCell_eq f,setCell_eq j];refine h.setBlock x.block (.cells t i ?_);rw[x.spot,x.off];split;exact b;exact b.set l|_=>unfold da at d;rw[f]at d;cases d
def Ren.add(c:Ren)(l r:Nat):Ren:=λa b=>c a b\/(a=l/\b=r)
def cg.ext{i L R}(h:cg P S i L R):Ext P i (i.add L.heap.size R.heap.size):=by
 refine⟨λ_ _ x=>.inl x,⟨λa b c d g=> ?_,λa b c f d=> ?_,λa b e=> ?_⟩⟩
 rotate_right
 rcases e with e|⟨rfl,rfl⟩;exact h.ok.RA a b e;have:=h.mG;have:=h.rm;omega;rcases d with d|⟨rfl,rfl⟩<;>rcases g with g|⟨k,rfl⟩
 exact h.ok.fn _ _ _ d g;have:=(h.lt d).1;omega;have:=(h.lt g).1;omega;rfl;rcases f with f|⟨rfl,rfl⟩<;>rcases d with d|⟨rfl,j⟩
 exact h.ok.inj _ _ _ f d;have:=(h.lt f).2;omega;have:=(h.lt d).2;omega;rfl
def cg.new{d L R}(h:cg P S d L R){o c}(s:jH S d o c):cg P S (d.add L.heap.size R.heap.size) {L with heap:=L.heap.push o} {R with heap:=R.heap.push c}:=by refine⟨h.ext.ok,λl r b=> ?_,by have:=h.mG;simp;omega,by have:=h.rm;simp;omega,λa y u=> ?_⟩;rotate_left;obtain⟨i,j,f,g⟩:=h.old a y u;have w:=vE f;have x:=vE g;refine⟨λr t=>t.elim (i r) λe=>by omega,λl q=>q.elim (j l) λe=>by omega,(l6 ?_).trans f,(l6 ?_).trans g⟩;show(L.heap.push o)[a.block]? =_;rw[kX,if_neg (by omega)];show(R.heap.push c)[a.block]? =_;rw[kX,if_neg (by omega)];rcases b with b|⟨rfl,rfl⟩;obtain⟨p,v,k,m,n⟩:=h.obj l r b;have:=h.lt b;exact⟨p,v,by simp[kX,show l≠L.heap.size by omega,k],by simp[kX,show r≠R.heap.size by omega,m],n.mono h.ext⟩;exact⟨o,c,by simp,by simp,s.mono h.ext⟩
def cg.aa7{d L R}(h:cg P S d L R)(o):cg P S d {L with heap:=L.heap.push o} R:=by refine⟨h.ok,λl r b=> ?_,by have:=h.mG;simp;omega,h.rm,λa y m=> ?_⟩;obtain⟨p,n,i,j,k⟩:=h.obj l r b;have:=h.lt b;exact⟨p,n,by simp[kX,show l≠L.heap.size by omega,i],j,k⟩;obtain⟨e,f,c,g⟩:=h.old a y m;have q:=vE c;refine⟨e,f,(l6 ?_).trans c,g⟩;show(L.heap.push o)[a.block]? =_;rw[kX,if_neg (by omega)]
def UQ{b L R l r}(x:b l r)(o d):vu b b L R {L with heap:=L.heap.setIfInBounds l o} {R with heap:=R.heap.setIfInBounds r d}:=by
 refine⟨rfl,rfl,rfl,rfl,rfl,by simp,by simp,by simp[bM],λn _ a=> ?_,λn _ a=> ?_,λ_ _ h=>.inl h,λn f c=>by simp at c;omega,λ_ _ h=>h⟩;have:r≠n:=λe=>a l (e▸x)
 simp[aH this];have:l≠n:=λe=>a r (e▸x)
 simp[aH this]
def Hr{d L R a b}(x:dK d a b)(v g):vu d d L R (L.setCell a v) (R.setCell b g):=by
 refine⟨rfl,rfl,rfl,rfl,rfl,by simp[dJ],by simp[dJ],by simp[dJ,bM],λn _ c=> ?_,λn _ c=> ?_,λ_ _ h=>.inl h,λn i f=>by simp[dJ]at f;omega,λ_ _ h=>h⟩;have:b.block≠n:=λe=>c a.block (e▸x.block)
 simp[dJ,bp,this];have:a.block≠n:=λe=>c b.block (e▸x.block)
 simp[dJ,bp,this]
def MC(L R:ar)(d:Nat):Prop:=∀i q,L.drawn+i<d->R.tape (R.drawn+i) q=L.tape (L.drawn+i) q
def uh(P:br)(S:nK){k l}(Q:Ren->k->l->Prop)(i:Ren)(L R:ar)(m:Sem l)(g:Array Event):Result k×Array Event->Prop|(.ok a d,_)=>L.drawn<=d.drawn/\d.tape=L.tape/\(MC L R d.drawn->∃c b f j,Ext P i c/\m.runT P R g=(.ok b f,g++j)/\Q c a b/\cg P S c d f/\vu i c L R d f/\f.drawn+L.drawn=R.drawn+d.drawn/\∀e∈j,zy S c e)|(.halt h d,_)=>h.lost=ak/\∃c f,Ext P i c/\cg P S c d f
def uh.step{J K}{Q:Ren->J->K->Prop}{v d L R L1 R1 A z c Hw f}(F:L1.drawn=L.drawn)(y:L1.tape=L.tape)(o:R1.drawn=R.drawn)(t:R1.tape=R.tape)(e:Ext P v d)(TU:vu v d L R L1 R1)(s:∀e∈Hw,zy S d e)(k:A.runT P R c=z.runT P R1 (c++Hw))(h:uh P S Q d L1 R1 z (c++Hw) f):uh P S Q v L R A c f:=by
 obtain⟨r,N⟩:=f;cases r with
 |halt x _=>obtain⟨w,g,n,m,u⟩:=h;exact⟨w,g,n,e.trans m,u⟩|ok a M=>obtain⟨w,D,E⟩:=h;refine⟨by omega,D.trans y,λB=> ?_⟩;obtain⟨g,b,n,C,m,I,H,u,p,G,j⟩:=E (λi q O=>by rw[o,t,F,y];exact B i q (by omega));refine⟨g,b,n,Hw++C,e.trans m,by rw[k,I,Array.append_assoc],H,u,TU.trans p,by omega,λx l=> ?_⟩;rcases nl.1 l with l|l;exact(s x l).mono m;exact j x l
def yu{e}{L:ar}{o d}(c:jH S e o d){a}(b:L.heap[a.block]? =af o)(w):(L.noCell a w).lost=ak:=by unfold World.noCell;rw[b];cases c<;>rfl
def av.run{α β}{Q:Ren->α->β->Prop}:∀{s}{j}{s'}{L R},av P S Q s j s'->cg P S j L R->∀z g:Array Event,uh P S Q j L R s' g (s.runT P L z):=by
 intro s
 induction s with
 |pure a=>rintro j _ L R ⟨b,rfl,h⟩ d z g;exact⟨ao _,rfl,λ_=>⟨j,b,R,#[],Ext.refl d.ok,by simp[fQ],h,d,vu.refl _ _ _,rfl,by simp⟩⟩
 |load m a k B=>
  rintro j _ L R ⟨rfl,N,E,rfl,hh⟩ d z g;rcases hh with⟨h,G⟩|⟨rfl,x,h,G⟩;rotate_left;obtain⟨_,_,g3,g4⟩:=d.old _ x h;simp only[fQ,g3];refine uh.step (Hw:=#[⟨.cell N,aq,aq⟩]) rfl rfl rfl rfl (Ext.refl d.ok) (vu.refl _ _ _) (by intro y hy;simp at hy;subst hy;exact .old h) ?_ (B _ G d _ _);simp only[fQ,g4];rfl;simp only[fQ];cases hc:L.cell? a with
  |none=>
   obtain⟨o,I,D,K,M⟩:=d.obj _ _ h.block;have Z:L.farLoad P a (pC== .atomic)=.error (L.noCell a "load: no such cell"):=by unfold World.farLoad;rw[D];cases M<;>rfl
   simp only[Z];exact⟨yu M D _,j,R,Ext.refl d.ok,d⟩
  |some v=>obtain⟨V,W,hv⟩:=d.cell h v hc;refine uh.step (Hw:=#[⟨.cell N,aq,aq⟩]) rfl rfl rfl rfl (Ext.refl d.ok) (vu.refl _ _ _) (by intro x J;simp at J;subst J;exact .cell aq h.block) ?_ (B v (G v V hv) d _ _);simp only[fQ,W];rfl
 |store m a v k B=>
  rintro j _ L R ⟨rfl,N,V,E,rfl,h,hv,G⟩ d z g;have main:∀(C:(∀c,v≠.agg c)/\∀c,v≠.tuple c),uh P S Q j L R (.store pC N V E) g ((Sem.store pC a v k).runT P L z):=by
   intro C;have e1:(Sem.store pC a v k).runT P L z=match L.cell? a with
    |some _=>if L.frozen? a then(.halt (.unsupported (.unsafePointer "a write to bytes that a string shares")) L,z)else k.runT P (L.setCell a v) (z.push ⟨.cell a,ak,pC== .atomic⟩)|none=>match L.farStore P a v (pC== .atomic)with|.ok (w,GH)=>k.runT P w (z++GH.toArray.map (⟨.cell ·,ak,pC== .atomic⟩))|.error h=>(.halt h L,z):=by
    cases v<;>first|exact absurd rfl (C.1 _)|exact absurd rfl (C.2 _)|rfl
   have e2:(Sem.store pC N V E).runT P R g=match R.cell? N with
    |some _=>if R.frozen? N then(.halt (.unsupported (.unsafePointer "a write to bytes that a string shares")) R,g)else E.runT P (R.setCell N V) (g.push ⟨.cell N,ak,pC== .atomic⟩)|none=>match R.farStore P N V (pC== .atomic)with|.ok (w,GH)=>E.runT P w (g++GH.toArray.map (⟨.cell ·,ak,pC== .atomic⟩))|.error h=>(.halt h R,g):=by
    cases hv<;>first|exact absurd rfl (C.1 _)|exact absurd rfl (C.2 _)|rfl
   rw[e1];cases hc:L.cell? a with
   |none=>
    obtain⟨o,I,D,K,M⟩:=d.obj _ _ h.block;have Z:L.farStore P a v (pC== .atomic)=.error (L.noCell a "store: no such cell"):=by unfold World.farStore;rw[D];cases M<;>rfl
    simp only[Z];exact⟨yu M D _,j,R,Ext.refl d.ok,d⟩
   |some u=>
    obtain⟨u',W,_⟩:=d.cell h u hc;cases YJ:L.frozen? a with|true=>simp only[if_true];exact⟨rfl,j,R,Ext.refl d.ok,d⟩|false=>simp only[dg,if_false];refine uh.step (Hw:=#[⟨.cell N,ak,aq⟩]) (L1:=L.setCell a v) (R1:=R.setCell N V) rfl rfl rfl rfl (Ext.refl d.ok) (Hr h v V) (by intro x J;simp at J;subst J;exact .cell ak h.block) ?_ (B G (d.setCell h hv hc) _ _);rw[e2];simp only[W,d.frozen h,YJ,dg,if_false];rfl
  by_cases D:∃c,v=.agg c;obtain⟨c,rfl⟩:=D;simp only[fQ];exact⟨rfl,j,R,Ext.refl d.ok,d⟩;by_cases K:∃c,v=.tuple c;obtain⟨c,rfl⟩:=K;simp only[fQ];exact⟨rfl,j,R,Ext.refl d.ok,d⟩;exact main ⟨λc e=>D ⟨c,e⟩,λc e=>K ⟨c,e⟩⟩
 |new o k B=>
  rintro j _ L R (⟨I,E,rfl,h,G⟩|hd) d z g;rotate_left;obtain⟨x,e,hl⟩:=hd L.heap.size;simp only[fQ,e];exact⟨hl,j,R,Ext.refl d.ok,d.aa7 o⟩;simp only[fQ];refine uh.step (Hw:=#[]) (L1:={L with heap:=L.heap.push o}) (R1:={R with heap:=R.heap.push I}) rfl rfl rfl rfl d.ext ⟨rfl,rfl,rfl,rfl,rfl,by simp,by simp,by simp;omega,λn hn _=>by show(R.heap.push I)[n]? =R.heap[n]?;rw[kX,if_neg (by omega)],λn hn _=>by show(L.heap.push o)[n]? =L.heap[n]?;rw[kX,if_neg (by omega)],λl r hlr=> ?_,λl D K=>⟨R.heap.size,.inr ⟨by simp at K;omega,rfl⟩⟩,λ_ _ h=>.inl h⟩ (by simp) ?_ (B L.heap.size (G _ _ _ d.ext (.inr ⟨rfl,rfl⟩)) (d.new h) _ _)
  rcases hlr with x|⟨rfl,rfl⟩;exact .inl x;exact .inr ⟨ao _,ao _,by omega⟩;simp[fQ]
 |shape r k B=>rintro j _ L R ⟨U,E,rfl,h,G⟩ d z g;have:=B (L.shape? r) (G _) d z g;simp only[fQ];refine uh.step (Hw:=#[]) rfl rfl rfl rfl (Ext.refl d.ok) (vu.refl _ _ _) (by simp) ?_ (by simpa using this);simp[fQ,d.shape h]
 |freeze a n k B=>intro j _ L R h;exact h.elim|frozen a k B=>rintro j _ L R ⟨U,E,rfl,h,G⟩ d z g;have:=B (L.frozen? a) (G _) d z g;simp only[fQ];refine uh.step (Hw:=#[]) rfl rfl rfl rfl (Ext.refl d.ok) (vu.refl _ _ _) (by simp) ?_ (by simpa using this);simp[fQ,d.frozen h]
 |getObj r k B=>
  rintro j _ L R ⟨U,E,rfl,h,G⟩ d z g;obtain⟨o,I,D,K,M⟩:=d.obj _ _ h;have O:o.isChan=aq/\I.isChan=aq:=by cases M<;>exact⟨rfl,rfl⟩
  have H:(∃c t F,o=.cells c t F)\/((∀c t F,o≠.cells c t F)/\∀c t F,I≠.cells c t F):=by
   cases M with|cells t F _=>exact .inl ⟨_,_,_,rfl⟩|_=>exact .inr ⟨by simp,by simp⟩
  rcases H with⟨c,t,F,rfl⟩|⟨C,T⟩;simp only[fQ,D];exact⟨rfl,j,R,Ext.refl d.ok,d⟩;have eL:(Sem.getObj r k).runT P L z=(k o).runT P L (z.push ⟨.obj r,aq,aq⟩):=by simp only[fQ,D];cases o<;>first|exact absurd rfl (C _ _ _)|rfl|exact absurd O.1 (by simp[Obj.isChan])
  have eR:(Sem.getObj U E).runT P R g=(E I).runT P R (g++#[⟨.obj U,aq,aq⟩]):=by simp only[fQ,K];cases I<;>first|exact absurd rfl (T _ _ _)|rfl|exact absurd O.2 (by simp[Obj.isChan])
  rw[eL];exact uh.step rfl rfl rfl rfl (Ext.refl d.ok) (vu.refl _ _ _) (by intro x J;simp at J;subst J;exact .obj aq h) eR (B o (G _ _ M) d _ _)
 |setObj r o k B=>
  rintro j _ L R ⟨U,I,E,rfl,h,ho,G⟩ d z g;obtain⟨p,p',D,K,M⟩:=d.obj _ _ h;have O:o.isChan=aq/\I.isChan=aq:=by cases ho<;>exact⟨rfl,rfl⟩
  have H:(∃c t F,p=.cells c t F)\/((∀c t F,p≠.cells c t F)/\∀c t F,p'≠.cells c t F):=by
   cases M with|cells t F _=>exact .inl ⟨_,_,_,rfl⟩|_=>exact .inr ⟨by simp,by simp⟩
  rcases H with⟨c,t,F,rfl⟩|⟨C,T⟩;simp only[fQ,D];exact⟨rfl,j,R,Ext.refl d.ok,d⟩;have eL:(Sem.setObj r o k).runT P L z=k.runT P {L with heap:=L.heap.setIfInBounds r o} (z.push ⟨.obj r,ak,aq⟩):=by simp only[fQ,D,O.1];try(cases p<;>first|exact absurd rfl (C _ _ _)|rfl)
  have eR:(Sem.setObj U I E).runT P R g=E.runT P {R with heap:=R.heap.setIfInBounds U I} (g++#[⟨.obj U,ak,aq⟩]):=by simp only[fQ,K,O.2];cases p'<;>first|exact absurd rfl (T _ _ _)|rfl
  rw[eL];exact uh.step (Hw:=#[⟨.obj U,ak,aq⟩]) (L1:={L with heap:=L.heap.setIfInBounds r o}) (R1:={R with heap:=R.heap.setIfInBounds U I}) rfl rfl rfl rfl (Ext.refl d.ok) (UQ h o I) (by intro x J;simp at J;subst J;exact .obj ak h) eR (B G (d.setBlock h ho) _ _)
 |choose q k B=>
  rintro j _ L R ⟨E,rfl,h⟩ d z g;simp only[fQ];cases hqf:q.forced with
  |true=>simp only[if_true];refine uh.step (Hw:=#[]) rfl rfl rfl rfl (Ext.refl d.ok) (vu.refl _ _ _) (by simp) ?_ (B _ (h 0) d _ _);simp[fQ,hqf]|false=>
   simp only[dg,if_false];have key:∀R1:ar,cg P S j {L with drawn:=L.drawn+1} R1->_:=λR1 Xi=>B _ (h (q.cut (L.tape L.drawn q))) Xi z g
   have:=key {R with drawn:=R.drawn+1} ⟨d.ok,d.obj,d.mG,d.rm,d.old⟩;revert this;generalize (k (q.cut (L.tape L.drawn q))).runT P {L with drawn:=L.drawn+1} z=res;intro this;obtain⟨r,es1⟩:=res;cases r with
   |halt x _=>exact this|ok a L'=>
    obtain⟨D,K,M⟩:=this;simp only at D K;refine⟨by omega,K,λag=> ?_⟩;have X:=ag 0 q (by omega);simp only[j6]at X;obtain⟨NV,b,R',ev,e',hr,hq,YY,A,YI,Y⟩:=M (λi q' hi=>by simp only at hi|-;have:=ag (i+1) q' (by omega);rw[show R.drawn+1+i=R.drawn+(i+1)by omega,show L.drawn+1+i=L.drawn+(i+1)by omega];exact this)
    simp only at YI;refine⟨NV,b,R',ev,e',?_,hq,YY,⟨A.tape,A.os,A.output,A.osL,A.tY,A.size,A.BB,A.sizes,A.rest,A.Jl,A.new,A.all,A.le⟩,by omega,Y⟩;simp only[fQ,hqf,dg,if_false];rw[X];exact hr
 |sys c k B=>intro j _ L R h;exact h.elim|program k B=>rintro j _ L R ⟨E,rfl,h⟩ d z g;simp only[fQ];refine uh.step (Hw:=#[]) rfl rfl rfl rfl (Ext.refl d.ok) (vu.refl _ _ _) (by simp) ?_ (B _ h d _ _);simp[fQ]
 |mark m k B=>
  rintro j _ L R ⟨hm,E,rfl,h⟩ d z g;simp only[fQ];refine uh.step (Hw:=#[⟨.mark m,aq,ak⟩]) rfl rfl rfl rfl (Ext.refl d.ok) (vu.refl _ _ _) (by intro x J;simp at J;subst J;rcases hm with rfl|⟨f,rfl,Z⟩;exact .room;exact .ext Z) ?_ (B h d _ _)
  simp only[fQ];rfl
 |halt x=>intro j _ L R h d z g;exact⟨h,j,R,Ext.refl d.ok,d⟩
end
section
variable{P:br} {S:nK}
abbrev kZ{c:Type}:Ren->c->c->Prop:=λ_ a b=>a=b
abbrev VQ(S:nK):Ren->aB->aB->Prop:=λc a b=>bz S c a b
abbrev X6(S:nK):Ren->Array aB->Array aB->Prop:=λc a b=>cH S c a b
abbrev AQ:Ren->Addr->Addr->Prop:=λc a b=>dK c a b
def au{d e Q c a b}(h:Q c a b):av P S Q (Pure.pure a:Sem d) c (Pure.pure b:Sem e):=⟨b,rfl,h⟩
def me{b c Q d w}{a:Sem c}:av P S Q (stuck w:Sem b) d a:=rfl
def Nq{a b:Type}{Q:Ren->a->b->Prop}{e:Ren}{w:Unsupported}{d:Sem b}(c:(Halt.unsupported w).lost=ak:=by rfl):av P S Q (unsupported w:Sem a) e d:=c
def gu{c}:av P S (λ_ a b=>a=P/\b=P) program c program:=⟨_,rfl,_,rfl,rfl,rfl⟩
def nz{a}(q):av P S kZ (choose q) a (choose q):=⟨_,rfl,λn=>⟨n,rfl,rfl⟩⟩
def SR{c a b}(h:dK c a b):av P S (VQ S) (load a) c (load b):=⟨rfl,_,_,rfl,.inl ⟨h,λ_ e d=>⟨e,rfl,d⟩⟩⟩
def LJ{b a x}(h:S.mem a=af x):av P S (λ_ u v=>u=.int .i64 x/\v=.int .i64 x) (load a) b (load a):=⟨rfl,_,_,rfl,.inr ⟨rfl,x,h,⟨_,rfl,rfl,rfl⟩⟩⟩
def VV{b a c v d}(h:dK b a c)(e:bz S b v d):av P S kZ (store a v) b (store c d):=⟨rfl,_,_,_,rfl,h,e,(),rfl,rfl⟩
def Bc{c o d}(h:jH S c o d):av P S (λc a b=>c a b) (newObj o) c (newObj d):=.inl ⟨_,_,rfl,h,λ_ _ f _ e=>⟨f,rfl,e⟩⟩
def ni{b r a}(h:b r a):av P S kZ (shape r) b (shape a):=⟨_,_,rfl,h,λx=>⟨x,rfl,rfl⟩⟩
def tf{c a b}(h:dK c a b):av P S kZ (frozen a) c (frozen b):=⟨_,_,rfl,h,λx=>⟨x,rfl,rfl⟩⟩
def iB{c r d}(h:c r d):av P S (λc a b=>jH S c a b) (getObj r) c (getObj d):=⟨_,_,rfl,h,λ_ f e=>⟨f,rfl,e⟩⟩
def lr{a r c o b}(h:a r c)(d:jH S a o b):av P S kZ (setObj r o) a (setObj c b):=⟨_,_,_,rfl,h,d,(),rfl,rfl⟩
def fl{c}(d:Ren.Ok P c)(t):av P S (λ_ a b=>a=b/\P.info? t=af a) (typeInfo t) c (typeInfo t):=by
 refine av.bind d gu λf a b e h=> ?_
 obtain⟨rfl,rfl⟩:=h;cases b.info? t with|none=>exact me|some i=>exact au ⟨rfl,rfl⟩
def bE{c}(d:Ren.Ok P c)(t):av P S (λ_ a b=>a=b/\P.underlying t=af a) (underlying t) c (underlying t):=by
 refine av.bind d gu λf a b e h=> ?_
 obtain⟨rfl,rfl⟩:=h;cases b.underlying t with|none=>exact me|some i=>exact au ⟨rfl,rfl⟩
def fK{d}(c:Ren.Ok P d)(t):av P S kZ (sizeOf t) d (sizeOf t):=av.bind c (fl c t) λ_ a b _ h=>by obtain⟨rfl,_⟩:=h;exact au rfl
def No{d}(c:Ren.Ok P d)(t):av P S kZ (isAgg t) d (isAgg t):=av.bind c (bE c t) λ_ a b _ h=>by obtain⟨rfl,_⟩:=h;cases a<;>exact au rfl
def dK.add{c a b}(h:dK c a b)(n):dK c (a.add n) (b.add n):=by unfold Addr.add;split;exact h;exact⟨h.block,by simp[h.off],rfl⟩
def ig.push{k l}{R:k->l->Prop}{x y}(h:ig R x y){a b}(g:R a b):ig R (x.push a) (y.push b):=by refine⟨by simp[h.size],λi c d f e=> ?_⟩;rw[kX]at f e;rw[<-h.size]at e;split at f;rename_i j;rw[if_pos j]at e;obtain rfl:=aX f;obtain rfl:=aX e;exact g;rename_i j;rw[if_neg j]at e;exact h.at_ i c d f e
def yR{d}(k:Ren.Ok P d){a f}(h:dK d a f):∀n i acc b,cH S d acc b->av P S (X6 S) (loadCellsFrom a i n acc) d (loadCellsFrom f i n b):=by
 intro n
 induction n generalizing d with|zero=>intro i acc b c;exact au c|succ n j=>intro i acc b c;exact av.bind k (SR (h.add i)) λl v m e g=>j e.ok (h.mono e) (i+1) _ _ ((c.mono λ_ _ x=>x.mono e).push g)
def yB{b}(d:Ren.Ok P b){a c}(h:dK b a c)(n):av P S (X6 S) (loadCells a n) b (loadCells c n):=yR d h n 0 _ _ ⟨rfl,by simp⟩
def EC{f}(j:Ren.Ok P f)(t){a g}(h:dK f a g):av P S (VQ S) (loadVar t a) f (loadVar t g):=by
 refine av.bind j (No j t) λo b q e l=> ?_
 subst l;cases b with
 |true=>
  simp only[if_true];refine av.bind e.ok (fK e.ok t) λk n u d m=> ?_
  subst m;refine av.bind d.ok (yB d.ok ((h.mono e).mono d) n) λp c r s i=>au (.agg i.size i.at_)
 |false=>exact SR (h.mono e)
def rM{d}(k:Ren.Ok P d){a f}(h:dK d a f):∀{vs b} i,dp (bz S d) vs b->av P S kZ (storeCells a vs i) d (storeCells f b i):=by
 intro vs
 induction vs generalizing d with
 |nil=>intro b i c;cases c;exact au rfl|cons v vs g=>
  intro b i c;cases c with
  |cons c j=>
   exact av.bind k (VV (h.add i) c) λl _ _ e _=>g e.ok (h.mono e) (i+1) (by
    clear g
    induction j with
    |nil=>exact .nil|cons x _ y=>exact .cons (x.mono e) y)
def dp.lf{n o}{R:n->o->Prop}{x y}(h:ig R x y):dp R x.toList y.toList:=by
 obtain⟨x⟩:=x;obtain⟨y⟩:=y;have e:=h.size;have f:=h.at_;simp at e f|-;clear h
 induction x generalizing y with
 |nil=>cases y with|nil=>exact .nil|cons b m=>simp at e
 |cons a l k=>cases y with|nil=>simp at e|cons b m=>refine .cons (f 0 a b (by simp) (by simp)) (k m (by simpa using e) λi c d g j=>f (i+1) c d (by simpa using g) (by simpa using j))
def bz.cells{c v g}(h:bz S c v g):cH S c v.cells g.cells:=by
 have one:∀{x y:aB},bz S c x y->cH S c #[x] #[y]:=λ{x y} e=>⟨rfl,λi a b d f=>by
  have j:i=0:=by have:=(aC.1 d).1;simpa using this
  subst j;simp at d f;subst d;subst f;exact e⟩
 cases h with|agg s i=>exact⟨s,i⟩|_=>exact one (by constructor<;>assumption)
def LO{b}(f:Ren.Ok P b)(t){a c}(h:dK b a c){v g}(j:bz S b v g):av P S kZ (storeVar t a v) b (storeVar t c g):=by
 refine av.bind f (fK f t) λk n l e i=> ?_
 subst i;have d:=(j.mono e).cells;rw[<-d.size];split;exact rfl;exact rM e.ok (h.mono e) 0 (dp.lf d)
def wE{a}(t)(e:Ren.Ok P a){c b}(h:cH S a c b):av P S AQ (newRow t c) a (newRow t b):=av.bind e (Bc (.cells t (0,0) h)) λ_ _ _ _ d=>au ⟨d,rfl,rfl⟩
def Je{a}(t)(c:Ren.Ok P a){v b}(h:bz S a v b):av P S AQ (newVar t v) a (newVar t b):=wE t c h.cells
def xZ(S:nK)(v:aB):Prop:=∀a,bz S a v v
def pY(P:br)(S:nK):Prop:=∀t i v,P.info? t=af i->i.zero=af v->xZ S v
def kB{f}(j:pY P S)(d:Ren.Ok P f)(t):av P S (λ_ a b=>a=b/\xZ S a) (zeroValue t) f (zeroValue t):=by
 refine av.bind d (fl d t) λk i l e h=> ?_
 obtain⟨rfl,g⟩:=h;cases c:i.zero with|none=>exact Nq|some v=>exact au ⟨rfl,j t i v g c⟩
end
section
variable{P:br} {S:nK}
def jo{k l Q g}(i:Ren.Ok P g)(x j)(f:(∀a b c d,x≠.typeAssertion a b c d)/\x≠.panicNil):av P S Q (runtimePanic x:Sem k) g (runtimePanic j:Sem l):=by
 refine av.bind i gu λm a b e h=> ?_
 cases x with|typeAssertion=>exact absurd rfl (f.1 _ _ _ _)|panicNil=>exact absurd rfl f.2|_=>exact rfl
def iW{c d Q a}(b:Ren.Ok P a)(m):av P S Q (runtimePanic (.error m):Sem c) a (runtimePanic (.error m):Sem d):=jo b _ _ ⟨by simp,by simp⟩
def oO{c d Q a}(b:Ren.Ok P a):av P S Q (runtimePanic .nilDeref:Sem c) a (runtimePanic .nilDeref:Sem d):=jo b _ _ ⟨by simp,by simp⟩
def j2{j l Q g}(f:Ren.Ok P g)(k i y c):av P S Q (boundsPanic k i y c:Sem j) g (boundsPanic k i y c:Sem l):=by
 unfold boundsPanic;split;refine av.bind (Q:=kZ) f ?_ λd a b e h=>by subst h;exact jo e.ok _ _ ⟨by simp,by simp⟩
 exact av.bind f (nz _) λd a b e h=>by subst h;exact au rfl
 exact av.bind (Q:=kZ) f (au rfl) λd a b e h=>by subst h;exact jo e.ok _ _ ⟨by simp,by simp⟩
def qC{b v a}(h:bz S b v a):av P S kZ (asIntOf v) b (asIntOf a):=by cases h<;>first|exact au rfl|exact Nq|exact me
def wB{c}(e:Ren.Ok P c){v d}(h:bz S c v d):av P S kZ (asInt v) c (asInt d):=av.bind e (qC h) λ_ a b _ h=>by subst h;exact au rfl
def AW{b v a}(h:bz S b v a):av P S kZ (asBool v) b (asBool a):=by cases h<;>first|exact au rfl|exact me
def VJ{b v a}(h:bz S b v a):av P S (X6 S) (asAgg v) b (asAgg a):=by
 cases h with|agg s i=>exact au ⟨s,i⟩|_=>exact me
def I7{a}(c:Ren.Ok P a){v b}(h:bz S a v b):av P S AQ (asAddr v) a (asAddr b):=by
 cases h with|pointer x=>exact au x|fB=>exact oO c|_=>exact me
def oP{b v a}(h:bz S b v a):av P S AQ (Instr.sureAddr v) b (Instr.sureAddr a):=by
 cases h with|pointer x=>exact au x|_=>exact me
def Ja{a}(d:Ren.Ok P a)(t){v b}(h:bz S a v b):av P S (VQ S) (eo t v) a (eo t b):=av.bind d (oP h) λ_ _ _ e c=>EC e.ok t c
def PF{a}(g:Ren.Ok P a)(t){v b x c}(h:bz S a v b)(f:bz S a x c):av P S kZ (fg t v x) a (fg t b c):=av.bind g (oP h) λ_ _ _ e d=>LO e.ok t d (f.mono e)
def aa8{a}(b:Ren.Ok P a)(t){v c}(h:bz S a v c):av P S (VQ S) (Instr.box t v) a (Instr.box t c):=av.bind b (Je t b h) λ_ _ _ _ d=>au (.pointer d)
def VI{f}(i:pY P S)(d:Ren.Ok P f)(t):av P S (VQ S) (Instr.alloc t ak (.tuple #[])) f (Instr.alloc t ak (.tuple #[])):=by
 refine av.bind d (kB i d t) λc a b e h=> ?_
 obtain⟨rfl,h⟩:=h;exact av.bind e.ok (Je t e.ok (h c)) λ_ _ _ _ g=>au (.pointer g)
def Jf{c}(j:Ren.Ok P c){r f}(h:c r f):av P S (λ_ a b=>a=ah/\b=ah) (viewAt r) c (viewAt f):=by
 unfold viewAt;refine av.bind j (ni h) λd a b e i=> ?_
 subst i;cases a with
 |some x=>exact au ⟨rfl,rfl⟩|none=>
  refine av.bind e.ok (iB (e.le _ _ h)) λd a b e g=> ?_
  cases g<;>exact au ⟨rfl,rfl⟩
def Bd{b}(d:Ren.Ok P b){a c}(h:dK b a c):av P S kZ (noView a) b (noView c):=by
 unfold noView;refine av.bind d (Jf d h.block) λg x y e f=> ?_
 obtain⟨rfl,rfl⟩:=f;exact au rfl
def oM{c}(g:Ren.Ok P c){a d}(h:dK c a d):av P S kZ (byteOf a) c (byteOf d):=by
 unfold byteOf;rw[h.spot,h.off];cases a.spot with
 |some s=>exact au rfl|none=>
  refine av.bind g gu λi p m b hp=> ?_
  obtain⟨rfl,rfl⟩:=hp;refine av.bind b.ok (Bd b.ok (h.mono b)) λj _ _ e _=> ?_
  refine av.bind e.ok (ni ((h.mono b).mono e).block) λk x y l f=> ?_
  subst f;cases x with|none=>exact me|some x=>simp only;split;exact au rfl;split;exact au rfl;exact me
def SV{g}(j:Ren.Ok P g){a b}(h:dK g a b)(n m):av P S AQ (partAt a n m) g (partAt b n m):=by
 unfold partAt;refine av.bind j (oM j h) λi x y d f=> ?_
 subst f;have c:dK i {block:=a.block,off:=a.off+n} {block:=b.block,off:=b.off+n}:=⟨(h.mono d).block,by simp[h.off],rfl⟩;refine av.bind d.ok (oM d.ok c) λk l o e f=> ?_
 subst f;split;exact au (c.mono e);exact au ⟨(c.mono e).block,(c.mono e).off,rfl⟩
def F9{c}(e:Ren.Ok P c){a d}(h:dK c a d)(f):av P S AQ (fieldPlace a f) c (fieldPlace d f):=by
 unfold fieldPlace;refine av.bind e (fK e _) λi x y b g=> ?_
 subst g;split;exact SV b.ok (h.mono b) _ _;exact au ((h.mono b).add _)
def Px{c}(g:Ren.Ok P c)(s){v i}(h:bz S c v i)(f):av P S (VQ S) (Instr.fieldAt s v f) c (Instr.fieldAt s i f):=by
 unfold Instr.fieldAt;refine av.bind g (bE g s) λm x y d l=> ?_
 obtain⟨rfl,_⟩:=l;split;split;refine av.bind d.ok (oP (h.mono d)) λn a p e j=> ?_
 exact av.bind e.ok (F9 e.ok j _) λo b q r k=>au (.pointer k)
 exact me;exact me
end
section
variable{P:br} {S:nK}
def tR(t:cD)(k:IntKind)(i:Int)(x:Option Addr×Nat×cD):Sem aB:=do
 let(base,len,elem):=x
 let b:=len<=1&&(match<-underlying t with|.array ..=>ak|_=>aq)
 match base with
 |some a=>
  if 0<=i/\i<len then pure (.pointer (af (a.add (i.toNat*(<-sizeOf elem)))))
  else if b then unsupported (.noEntry "op/indexAddr.an index out of range at an array of length 0 or 1 (ledger 616)")
  else boundsPanic k i len .index
 |none=>boundsPanic k i 0 .index
def xJ{b}(f:Ren.Ok P b)(t k n){o e}(h:gh (dK b) o e)(l c):av P S (VQ S) (tR t k n (o,l,c)) b (tR t k n (e,l,c)):=by
 unfold tR;refine av.bind f (bE f t) λp d r a j=> ?_
 obtain⟨rfl,_⟩:=j;cases h with
 |none=>exact j2 a.ok _ _ _ _|some i=>
  simp only;split;exact av.bind a.ok (fK a.ok _) λq s u g m=>by subst m;exact au (.pointer (((i.mono a).mono g).add _))
  split<;>(split<;>first|exact rfl|exact j2 a.ok _ _ _ _)
def EA{j}(w:Ren.Ok P j)(t){x q i p}(v:bz S j x q)(u:bz S j i p):av P S (VQ S) (Instr.indexAt t x i) j (Instr.indexAt t q p):=by
 unfold Instr.indexAt;refine av.bind w (qC u) λy a b m h=> ?_
 subst h;obtain⟨k,n⟩:=a;simp only;refine av.bind m.ok (bE m.ok t) λz d C f s=> ?_
 obtain⟨rfl,_⟩:=s;have e:=(v.mono m).mono f;cases d with
 |array l g=>simp only;exact av.bind f.ok (oP e) λA a B r o=>xJ r.ok t k n (.some o) l g|slice g=>
  cases e with|jr l c=>exact xJ f.ok t k n .none l g|slice l c o=>exact xJ f.ok t k n (.some o) l g|_=>exact rfl
 |_=>cases e<;>exact rfl
def Gc{d}(g:Ren.Ok P d){x e}(h:bz S d x e)(y c):av P S kZ (Instr.sliceBound x y c) d (Instr.sliceBound e y c):=by
 unfold Instr.sliceBound;refine av.bind g (qC h) λj a b f h=> ?_
 subst h;obtain⟨k,i⟩:=a;simp only;split;exact au rfl;exact j2 f.ok _ _ _ _
def Dl{m Q f}(i:Ren.Ok P f){x j}(h:bz S f x j)(y c){k g:Nat->Sem m}(l:∀d n,Ext P f d->av P S Q (k n) d (g n)):av P S Q (Instr.sliceBound x y c >>= k) f (Instr.sliceBound j y c >>= g):=av.bind i (Gc i h y c) λd a b e h=>by subst h;exact l d a e
def lu{h}(a:Ren.Ok P h)(b len c){m f l d n g}(i:gh (bz S h) m f)(k:gh (bz S h) l d)(hm:gh (bz S h) n g):av P S kZ (Instr.sliceBounds b len c m l n) h (Instr.sliceBounds b len c f d g):=by
 unfold Instr.sliceBounds;cases hm with
 |none=>cases k with
  |none=>cases i with|none=>exact au rfl|some x=>exact Dl a x _ _ λ_ _ _=>au rfl
  |some y=>cases i with|none=>exact Dl a y _ _ λ_ _ _=>au rfl|some x=>exact Dl a y _ _ λ_ _ e=>Dl e.ok (x.mono e) _ _ λ_ _ _=>au rfl
 |some z=>cases k with
  |none=>exact Dl a z _ _ λ_ _ _=>rfl|some y=>cases i with|none=>exact Dl a z _ _ λ_ _ e=>Dl e.ok (y.mono e) _ _ λ_ _ _=>au rfl|some x=>exact Dl a z _ _ λ_ _ e=>Dl e.ok (y.mono e) _ _ λ_ _ j=>Dl j.ok ((x.mono e).mono j) _ _ λ_ _ _=>au rfl
def VU{r}(I:Ren.Ok P r)(t){x J}(Q:bz S r x J){F w E v G y}(O:gh (bz S r) F w)(N:gh (bz S r) E v)(hm:gh (bz S r) G y):av P S (VQ S) (Instr.slice t x F E G) r (Instr.slice t J w v y):=by
 unfold Instr.slice;refine av.bind I (bE I t) λR d K f D=> ?_
 obtain⟨rfl,_⟩:=D;have k:=Q.mono f;have j:=O.mono λ_ _ x=>bz.mono f x
 have i:=N.mono λ_ _ x=>bz.mono f x
 have q:=hm.mono λ_ _ x=>bz.mono f x
 cases d with
 |string=>
  cases k with
  |string s=>
   simp only;cases hm with|some=>exact rfl|none=>exact av.bind f.ok (lu f.ok _ _ _ j i .none) λ_ a b e h=>by subst h;exact au (.string _)
  |_=>exact rfl
 |slice M=>
  cases k with
  |jr l c=>
   simp only;refine av.bind f.ok (lu f.ok _ _ _ j i q) λz a b g h=> ?_
   subst h;refine av.bind g.ok (fK g.ok _) λA n H o h=> ?_
   subst h;obtain⟨l,h,m⟩:=a;simp only[Option.map_none,ite_self];exact au (.jr _ _)
  |slice l c B=>
   simp only;refine av.bind f.ok (lu f.ok _ _ _ j i q) λz a b g h=> ?_
   subst h;refine av.bind g.ok (fK g.ok _) λA n H o h=> ?_
   subst h;obtain⟨l,h,m⟩:=a;simp only;split;exact au (.slice _ _ ((B.mono g).mono o));exact au (.slice _ _ (((B.mono g).mono o).add _))
  |_=>exact rfl
 |pointer arr=>
  simp only;refine av.bind f.ok (I7 f.ok k) λz a V g B=> ?_
  refine av.bind g.ok (bE g.ok arr) λA d K o D=> ?_
  obtain⟨rfl,_⟩:=D;cases d with
  |array n M=>
   have p:=g.trans o;refine av.bind o.ok (lu o.ok _ _ _ (j.mono λ_ _ x=>bz.mono p x) (i.mono λ_ _ x=>bz.mono p x) (q.mono λ_ _ x=>bz.mono p x)) λT b W C h=> ?_
   subst h;refine av.bind C.ok (fK C.ok _) λU n H L h=> ?_
   subst h;obtain⟨l,h,m⟩:=b;have u:=((B.mono o).mono C).mono L;simp only;split;exact au (.slice _ _ u);exact au (.slice _ _ (u.add _))
  |_=>exact rfl
 |_=>cases k<;>exact rfl
def PE{e}(y:Ren.Ok P e)(t){x z}(u:bz S e x z){v p s j w q}(E:gh (bz S e) v p)(D:gh (bz S e) s j)(hm:gh (bz S e) w q):av P S (VQ S) (Instr.sliceAt t x v s w) e (Instr.sliceAt t z p j q):=by
 unfold Instr.sliceAt;refine av.bind y (bE y t) λF d L c C=> ?_
 obtain⟨rfl,_⟩:=C;have k:=E.mono λ_ _ x=>bz.mono c x
 have i:=D.mono λ_ _ x=>bz.mono c x
 have o:=hm.mono λ_ _ x=>bz.mono c x
 cases d with
 |array n M=>
  simp only;refine av.bind c.ok (oP (u.mono c)) λG a J f B=> ?_
  refine av.bind f.ok (lu f.ok _ _ _ (k.mono λ_ _ x=>bz.mono f x) (i.mono λ_ _ x=>bz.mono f x) (o.mono λ_ _ x=>bz.mono f x)) λH b K r h=> ?_
  subst h;refine av.bind r.ok (fK r.ok _) λI n N A h=> ?_
  subst h;obtain⟨l,h,m⟩:=b;have g:=(B.mono r).mono A;simp only;split;exact au (.slice _ _ g);exact au (.slice _ _ (g.add _))
 |_=>exact VU c.ok t (u.mono c) k i o
end
section
variable{P:br} {S:nK}
def ig.extract{j k}{R:j->k->Prop}{x y}(h:ig R x y)(a b):ig R (x.extract a b) (y.extract a b):=by refine⟨by simp[h.size],λi c d e f=> ?_⟩;rw[Array.getElem?_extract]at e f;rw[<-h.size]at f;split at e;rename_i g;rw[if_pos g]at f;exact h.at_ _ c d e f;cases e
def nO{g}(k:Ren.Ok P g)(t){c d}(h:cH S g c d)(a):av P S (VQ S) (part t c a) g (part t d a):=by
 unfold part;refine av.bind k (No k t) λi b s e m=> ?_
 subst m;have j:cH S i c d:=h.mono λ_ _ x=>x.mono e
 cases b with
 |true=>
  simp only[if_true];refine av.bind e.ok (fK e.ok t) λr n u l p=> ?_
  subst p;have:=(j.extract a (a+n)).mono λ_ _ x=>bz.mono l x
  exact au (.agg this.size this.at_)
 |false=>
  simp only[dg,if_false];cases o:c[a]? with|none=>exact rfl|some v=>obtain⟨w,f,q⟩:=j.get o;rw[f];exact au q
def VO{c}(g:Ren.Ok P c)(t){x i}(h:bz S c x i)(f):av P S (VQ S) (Instr.field t x f) c (Instr.field t i f):=by
 unfold Instr.field;refine av.bind g (bE g t) λm d p e l=> ?_
 obtain⟨rfl,_⟩:=l;cases d with
 |struct b=>
  simp only;cases b[f]? with|none=>exact rfl|some q=>exact av.bind e.ok (VJ (h.mono e)) λn a o j k=>nO j.ok _ k _
 |_=>exact rfl
def VP{f}(w:Ren.Ok P f)(t){x p i o}(u:bz S f x p)(r:bz S f i o):av P S (VQ S) (Instr.index t x i) f (Instr.index t p o):=by
 unfold Instr.index;refine av.bind w (qC r) λy a b g h=> ?_
 subst h;obtain⟨k,n⟩:=a;simp only;refine av.bind g.ok (bE g.ok t) λz d B e q=> ?_
 obtain⟨rfl,_⟩:=q;have c:=(u.mono g).mono e;cases d with
 |array l C=>
  cases c with
  |agg s v=>
   simp only;split;exact av.bind e.ok (fK e.ok _) λA m D j hm=>by subst hm;exact nO j.ok _ (ig.mono ⟨s,v⟩ λ_ _ x=>bz.mono j x) _
   exact j2 e.ok _ _ _ _
  |_=>exact rfl
 |string=>
  cases c with|string s=>simp only;split;exact au (.int _ _);exact j2 e.ok _ _ _ _|_=>exact rfl
 |_=>cases c<;>exact rfl
def Pw{b x c}(h:bz S b x c)(i):av P S (VQ S) (Instr.extract x i) b (Instr.extract c i):=by
 unfold Instr.extract;cases h with
 |tuple s f=>
  rename_i x y;simp only;cases d:x[i]? with|none=>exact rfl|some v=>obtain⟨g,a,e⟩:=ig.get (R:=bz S b) ⟨s,f⟩ d;rw[a];exact au e
 |_=>exact rfl
end
end Rel
section
open Go.RowKit
def BR(X:BitVec 64):IntKind.i64.wrap (X.toNat:Int)=X.toInt:=by have h:=X.isLt;rw[IntKind.wrap_i64,BitVec.toInt_eq_toNat_cond];split<;>omega
def Hf(a b):bits .and .i64 a b=(BitVec.ofInt 64 a &&& BitVec.ofInt 64 b).toInt:=BR _
def UH(a b):bits .or .i64 a b=(BitVec.ofInt 64 a ||| BitVec.ofInt 64 b).toInt:=BR _
def jJ(m a b c:Int):Bool:=(bits .and .i64 m a==a)&&(bits .and .i64 m b==0)&&(c==0||bits .and .i64 m c !=0)
def Fits(a:Int):Prop:= -9223372036854775808<=a/\a<=9223372036854775807
def and_zero(m):bits .and .i64 m 0=0:=by rw[Hf];simp
def parts{m a b c}:jJ m a b c=(jJ m a 0 0&&jJ m 0 b 0&&jJ m 0 0 c):=by simp[jJ,and_zero]
def FF(m):jJ m 0 0 0=ak:=by simp[jJ,and_zero]
structure bw where
 k:Int
 v:List Int
def bw.list(b:bw):List Int:=b.k::b.v
structure Query where
 vd:Int
 nt:Int
 any:Int
def Query.list(q:Query):List Int:=[q.vd,q.nt,q.any]
structure Sys where
 q:Query
 read:Int
 write:Int
 act:Int
 n:Int
def Sys.list(s:Sys):List Int:=[s.q.vd,s.q.nt,s.q.any,s.read,s.write,s.act,s.n]
def ck(m:Int):Bool:=decide (0<=m)&&decide (m<=255)
def gK(b:bw)(j:Nat):Int:=if b.k.toNat.testBit j=aq/\b.v.getD j 0≠0 then 4 else if b.v.getD j 0< -1000000000\/1000000000<b.v.getD j 0 then 1 else 0
def fS:List Int->Int|[]=>0|e::r=>if e=0 then fS r else e
def bx(b:bw):Int:=if ck b.k then fS ((bB 8).map (gK b))else 1
def fX(q:Query):Int:=if ck q.vd&&ck q.nt&&ck q.any then 0 else 1
def dH(s:Sys):Int:=
 if fX s.q≠0 then fX s.q
 else if !(ck s.read)|| !(ck s.write)||decide (s.act<1)||decide (3<s.act)||decide (s.n< -1000000)||decide (1000000<s.n)then 1
 else if(decide (s.act=3)&&decide (s.n≠0))||(decide (s.act≠2)&&decide (s.read≠0))then 4 else 0
def eM(m:Int)(q:Query):Bool:=jJ m q.vd q.nt q.any
def rU(l r)(h:∀e∈l,e=0):fS (l++r)=fS r:=by
 induction l with|nil=>rfl|cons a l c=>rw[List.cons_append,fS,if_pos (h a (by simp)),c λe b=>h e (by simp[b])]
def sD(b j)(e:j<8)(d:ck b.k=ak)(a:∀i,i<j->gK b i=0)(c:gK b j≠0):bx b=gK b j:=by unfold bx;rw[if_pos d,show(8:Nat)=j+(1+(7-j))from by omega,List.range_add,List.map_append,rU _ _ (by simpa using a),bM 1,List.range_succ_eq_map];simp[fS,c]
def mY(b)(c:ck b.k=ak)(a:∀i,i<8->gK b i=0):bx b=0:=by unfold bx;rw[if_pos c];have:=rU ((bB 8).map (gK b)) [] (by simpa using a);rw[List.append_nil]at this;exact this
def jQ(b)(h:bx b=0):(0<=b.k/\b.k<=255)/\∀j,j<8->(b.k.toNat.testBit j=aq->b.v.getD j 0=0)/\ -1000000000<=b.v.getD j 0/\b.v.getD j 0<=1000000000:=by
 have f:ck b.k=ak:=by unfold bx at h;split at h;assumption;simp at h
 refine⟨by simpa[ck]using f,?_⟩;have a:∀j,j<8->gK b j=0:=by
  intro j
  induction j using lj with|ind j n=>intro e;by_cases d:gK b j=0;exact d;have:=sD b j e f (λi m=>n i m (by omega)) d;exact absurd (this.symm.trans h) d
 intro j e;have c:=a j e;unfold gK at c;split at c;simp at c;rename_i k;split at c;simp at c;rename_i o;refine⟨λl=> ?_,by omega⟩;by_cases g:b.v.getD j 0=0;exact g;exact absurd ⟨l,g⟩ k
def QR(b)(e:0<=b.k/\b.k<=255)(h:∀j,j<8->(b.k.toNat.testBit j=aq->b.v.getD j 0=0)/\ -1000000000<=b.v.getD j 0/\b.v.getD j 0<=1000000000):bx b=0:=by
 refine mY b (by simpa[ck]using e) λj d=> ?_
 obtain⟨c,f,g⟩:=h j d;unfold gK;rw[if_neg (λa=>a.2 (c a.1)),if_neg (by omega)]
def k8(n:Int):Int:=if n< -1000000000 then-1000000000 else if 1000000000<n then 1000000000 else n
def wl(b:bw)(s:Sys):List Nat:=kinds (b.k.toNat &&& s.write.toNat)
def rl(b:bw)(s:Sys):List Nat:=kinds (b.k.toNat &&& s.read.toNat)
def kD(b:bw)(s:Sys)(l:List Nat):Int:=l.foldl (λa k=>a+b.v.getD k 0) s.n
def gn(b:bw)(s:Sys)(l:List Nat)(i:Nat):Int:=if s.act=1 then k8 (b.v.getD (l.getD i 0) 0+s.n)else if s.act=2 then k8 (kD b s (rl b s))else b.v.getD (l.getD ((i+1) % l.length) 0) 0
def mO(f:Nat->Int)(l:List Nat)(v:List Int):Nat->List Int|0=>v|i+1=>(mO f l v i).set (l.getD i 0) (f i)
def bU(b:bw)(s:Sys):bw:=if eM b.k s.q then⟨b.k,mO (gn b s (wl b s)) (wl b s) b.v (wl b s).length⟩else b
def mW:bw:=⟨0,[0,0,0,0,0,0,0,0]⟩
def qy(f l v i):(mO f l v i).length=v.length:=by
 induction i with|zero=>rfl|succ i a=>simp[mO,a]
def nf{l:List Nat}{j}(h):l.getD j 0=l[j]:=by simp[bu,aj h]
def sO(v:List Int)(i k x):(v.set i x).getD k 0=if i=k/\k<v.length then x else v.getD k 0:=by simp only[bu,fE];by_cases h:i=k;subst h;by_cases a:i<v.length;simp[a];simp[a];simp[h]
def FU(f l v)(d:l.Nodup):∀i,i<=l.length->∀j,j<i->l.getD j 0<v.length->(mO f l v i).getD (l.getD j 0) 0=f j:=by
 intro i
 induction i with
 |zero=>intro _ j c;omega|succ i g=>intro h j c b;unfold mO;rw[sO,qy];by_cases a:j=i;subst a;rw[if_pos ⟨rfl,b⟩];rw[if_neg];exact g (by omega) j (by omega) b;rintro⟨e,_⟩;rw[nf (show i<l.length by omega),nf (show j<l.length by omega)]at e;exact(List.pairwise_iff_getElem.1 (List.nodup_iff_pairwise_ne.1 d) j i (by omega) (by omega) (by omega)) e.symm
def AK(f l v k)(a:k∉l):∀i,i<=l.length->(mO f l v i).getD k 0=v.getD k 0:=by
 intro i
 induction i with
 |zero=>intro _;rfl|succ i b=>intro c;unfold mO;rw[sO,if_neg];exact b (by omega);rintro⟨e,_⟩;rw[nf (show i<l.length by omega)]at e;exact a (e▸List.getElem_mem _)
def wh{l:List Nat}{k}(h:k∈l):∃j,j<l.length/\l.getD j 0=k:=by obtain⟨j,a,e⟩:=bR.1 h;exact⟨j,a,by simp[bu,aj a,e]⟩
def mZ(b s):(bU b s).k=b.k:=by unfold bU;split<;>rfl
def eX(b s):(bU b s).v.length=b.v.length:=by unfold bU;split<;>simp[qy]
def TF(b s):(wl b s).Nodup:=pe _
def lM(b s k):k∈wl b s↔k<8/\b.k.toNat.testBit k=ak/\s.write.toNat.testBit k=ak:=by unfold wl;rw[iM,lk,ay]
def gj(b s k)(a:k∉wl b s):(bU b s).v.getD k 0=b.v.getD k 0:=by unfold bU;split;exact AK _ _ _ _ a _ (ao _);rfl
def oB(b s)(d:b.v.length=8)(c:eM b.k s.q=ak)(j)(a:j<(wl b s).length):(bU b s).v.getD ((wl b s).getD j 0) 0=gn b s (wl b s) j:=by
 unfold bU;rw[if_pos c];refine FU _ _ _ (TF b s) _ (ao _) j a ?_;have hm:(wl b s).getD j 0∈wl b s:=by simp[bu,aj a]
 have:=((lM b s _).1 hm).1;omega
def zT(n): -1000000000<=k8 n/\k8 n<=1000000000:=by unfold k8;split<;>(try split)<;>omega
def vJ(b s)(l:b.v.length=8)(m:bx b=0):bx (bU b s)=0:=by
 obtain⟨p,k⟩:=jQ b m;refine QR _ (by rw[mZ];exact p) λj o=> ?_
 rw[mZ];by_cases hm:eM b.k s.q=ak/\j∈wl b s;have d:=hm.1;have hm:=hm.2;obtain⟨i,n,e⟩:=wh hm;have a:=oB b s l d i n;rw[e]at a;have c:=((lM b s j).1 hm).2.1;refine⟨λh=>absurd (c.symm.trans h) (by simp),?_⟩;rw[a];unfold gn;split;exact zT _;split;exact zT _;have f:(i+1) % (wl b s).length<(wl b s).length:=Nat.mod_lt _ (by omega);have g:(wl b s).getD ((i+1) % (wl b s).length) 0∈wl b s:=by simp[bu,aj f]
 exact(k _ ((lM b s _).1 g).1).2;have a:(bU b s).v.getD j 0=b.v.getD j 0:=by
  by_cases d:eM b.k s.q=ak;exact gj b s j λh=>hm ⟨d,h⟩
  unfold bU;rw[if_neg d]
 rw[a];exact k j o
def Aw:∀a b:Int,0<=a/\a<=255->0<=b/\b<=255->bits .and .i64 a b=((a.toNat &&& b.toNat:Nat):Int)/\a.toNat &&& b.toNat<256:=by
 have h:∀a b:Fin 256,bits .and .i64 (a.val:Int) (b.val:Int)=((a.val &&& b.val:Nat):Int)/\a.val &&& b.val<256:=by
  intro a b;have c:=a.isLt;have d:=b.isLt;have e:a.val &&& b.val<256:=Nat.lt_of_le_of_lt Nat.and_le_left c;refine⟨?_,e⟩;rw[Hf];have f:∀x:Nat,x<256->BitVec.ofInt 64 (x:Int)=BitVec.ofNat 64 x:=λx _=>by rw[BitVec.ofInt_natCast]
  rw[f _ c,f _ d,<-BitVec.ofNat_and,BitVec.toInt_eq_toNat_cond,BitVec.toNat_ofNat,Nat.mod_eq_of_lt (by omega)];rw[if_pos (by omega)]
 intro a b c d;have:=h ⟨a.toNat,by omega⟩ ⟨b.toNat,by omega⟩;simp only[Int.toNat_of_nonneg c.1,Int.toNat_of_nonneg d.1]at this;exact this
def gi(s t:Sys):Bool:=bits .or .i64 (bits .and .i64 s.write (bits .or .i64 t.read t.write)) (bits .and .i64 t.write s.read) !=0
def JX{x}(h:x<256):(BitVec.ofNat 64 x).toInt=x:=by rw[BitVec.toInt_eq_toNat_cond,BitVec.toNat_ofNat,Nat.mod_eq_of_lt (by omega),if_pos (by omega)]
def yv{a}(h:0<=a/\a<=255):BitVec.ofInt 64 a=BitVec.ofNat 64 a.toNat:=by have:=BitVec.ofInt_natCast 64 a.toNat;rwa[Int.toNat_of_nonneg h.1]at this
def Xp(a b)(d:0<=a/\a<=255)(e:0<=b/\b<=255):bits .or .i64 a b=((a.toNat ||| b.toNat:Nat):Int)/\a.toNat ||| b.toNat<256:=by have c:a.toNat ||| b.toNat<2^8:=Nat.or_lt_two_pow (by omega) (by omega);refine⟨?_,c⟩;rw[UH,yv d,yv e,<-BitVec.ofNat_or,JX c]
def tI{s t}(i:ck s.read=ak)(j:ck s.write=ak)(l:ck t.read=ak)(f:ck t.write=ak):gi s t=ak↔∃k,k<8/\((s.write.toNat.testBit k=ak/\(t.read.toNat.testBit k=ak\/t.write.toNat.testBit k=ak))\/(t.write.toNat.testBit k=ak/\s.read.toNat.testBit k=ak)):=by
 simp only[ck,ay,decide_eq_true_eq]at i j l f;obtain⟨m,v⟩:=Xp _ _ l f;obtain⟨n,w⟩:=Aw s.write ((t.read.toNat ||| t.write.toNat:Nat):Int) j (by omega);obtain⟨o,x⟩:=Aw t.write s.read f i;unfold gi;rw[m,n,o];obtain⟨p,u⟩:=Xp ((s.write.toNat &&& ((t.read.toNat ||| t.write.toNat:Nat):Int).toNat:Nat):Int) ((t.write.toNat &&& s.read.toNat:Nat):Int) (by omega) (by omega);rw[p];simp only[Int.toNat_natCast]at*;generalize q:(s.write.toNat &&& (t.read.toNat ||| t.write.toNat)) ||| (t.write.toNat &&& s.read.toNat)=X at*;have a:∀k,X.testBit k=((s.write.toNat.testBit k&&(t.read.toNat.testBit k||t.write.toNat.testBit k))||(t.write.toNat.testBit k&&s.read.toNat.testBit k)):=by intro k;rw[<-q];simp[Nat.testBit_or,lk]
 constructor;intro h;have d:X≠0:=by intro e;rw[e]at h;simp at h
 obtain⟨k,b⟩:=Nat.exists_testBit_of_ne_zero d;refine⟨k,?_,?_⟩;apply Decidable.byContradiction;intro r;have g:X<2^k:=bQ u (bD (by decide:256<=2^8) (Nat.pow_le_pow_right (by omega) (by omega)));rw[Nat.testBit_lt_two_pow g]at b;exact absurd b (by simp);rw[a]at b;simpa using b;rintro⟨k,_,b⟩;have c:X.testBit k=ak:=by rw[a];simpa using b
 have d:X≠0:=by intro e;rw[e]at c;simp at c
 simp;omega
def KE{s t}(e:ck s.read=ak)(f:ck s.write=ak)(g:ck t.read=ak)(i:ck t.write=ak):gi t s=gi s t:=by have a:=tI e f g i;have b:=tI g i e f;rw[fj,a,b];constructor;rintro⟨k,d,h⟩;refine⟨k,d,?_⟩;rcases h with⟨h,c|c⟩|⟨h,c⟩;exact cc ⟨h,c⟩;exact bq ⟨c,cc h⟩;exact bq ⟨h,bq c⟩;rintro⟨k,d,h⟩;refine⟨k,d,?_⟩;rcases h with⟨h,c|c⟩|⟨h,c⟩;exact cc ⟨h,c⟩;exact bq ⟨c,cc h⟩;exact bq ⟨h,bq c⟩
def DC{a b:bw}(c:a.k=b.k)(f:a.v.length=8)(g:b.v.length=8)(h:∀k,k<8->a.v.getD k 0=b.v.getD k 0):a=b:=by
 cases a with|mk j l=>cases b with|mk m n=>
 simp only at c f g h;subst c;congr 1;apply List.ext_getElem (by omega);intro i d e;have:=h i (by omega);simpa[bu,aj d,aj e]using this
def Dv{b a}(h:a.k=b.k)(s):wl a s=wl b s:=by unfold wl;rw[h]
def acp{b a}(h:a.k=b.k)(s):rl a s=rl b s:=by unfold rl;rw[h]
def rH{b c s l i}(m:c.k=b.k)(f:i<l.length)(d:∀k∈l,c.v.getD k 0=b.v.getD k 0)(e:s.act=2->∀k∈rl b s,c.v.getD k 0=b.v.getD k 0):gn c s l i=gn b s l i:=by
 have hm:∀j,j<l.length->l.getD j 0∈l:=λj g=>by simp[bu,aj g]
 unfold gn;split;rw[d _ (hm i f)];split;rename_i h;rw[acp m];have:∀(l:List Nat)(a:Int),(∀k∈l,c.v.getD k 0=b.v.getD k 0)->l.foldl (λa k=>a+c.v.getD k 0) a=l.foldl (λa k=>a+b.v.getD k 0) a:=by
  intro l
  induction l with|nil=>intro a _;rfl|cons k l o=>intro a h;rw[o5,o5,h k (by simp),o _ λq n=>h q (by simp[n])]
 unfold kD;rw[this _ _ (e h)];exact d _ (hm _ (Nat.mod_lt _ (by omega)))
def Ln(b s k):k∈rl b s↔k<8/\b.k.toNat.testBit k=ak/\s.read.toNat.testBit k=ak:=by unfold rl;rw[iM,lk,ay]
def apart(b s t)(v:b.v.length=8)(x:ck s.read=ak)(y:ck s.write=ak)(z:ck t.read=ak)(A:ck t.write=ak)(B:gi s t=aq):bU (bU b s) t=bU (bU b t) s:=by
 have m:∀k,k<8->¬((s.write.toNat.testBit k=ak/\(t.read.toNat.testBit k=ak\/t.write.toNat.testBit k=ak))\/(t.write.toNat.testBit k=ak/\s.read.toNat.testBit k=ak)):=by intro k w h;have:=(tI x y z A).2 ⟨k,w,h⟩;rw[B]at this;exact absurd this (by simp)
 have d:(bU b s).k=b.k:=mZ b s;have f:(bU b t).k=b.k:=mZ b t;by_cases r:eM b.k s.q=ak;by_cases u:eM b.k t.q=ak;refine DC (by rw[mZ,d,mZ,f]) (by rw[eX,eX,v]) (by rw[eX,eX,v]) λk w=> ?_
 by_cases o:k∈wl b s;have l:k∉wl b t:=λh=>by have a:=(lM _ _ _).1 o;have c:=(lM _ _ _).1 h;exact m k w (bq ⟨a.2.2,cc c.2.2⟩)
 obtain⟨j,q,g⟩:=wh o;rw[gj (bU b s) t k (by rw[Dv d];exact l)];have a:=oB b s v r j q;have c:=oB (bU b t) s (by rw[eX,v]) (by rw[f];exact r) j (by rw[Dv f];exact q);rw[Dv f,g]at c;rw[g]at a;rw[a,c];refine(rH f q (λi p=>gj b t i λh=> ?_) (λ_ i p=>gj b t i λh=> ?_)).symm;have a:=(lM _ _ _).1 p;have c:=(lM _ _ _).1 h;exact m i a.1 (bq ⟨a.2.2,cc c.2.2⟩);have a:=(Ln _ _ _).1 p;have c:=(lM _ _ _).1 h;exact m i a.1 (cc ⟨c.2.2,a.2.2⟩);rw[gj (bU b t) s k (by rw[Dv f];exact o)];by_cases l:k∈wl b t;obtain⟨j,q,g⟩:=wh l;have a:=oB b t v u j q;have c:=oB (bU b s) t (by rw[eX,v]) (by rw[d];exact u) j (by rw[Dv d];exact q);rw[Dv d,g]at c;rw[g]at a;rw[a,c];refine rH d q (λi p=>gj b s i λh=> ?_) (λ_ i p=>gj b s i λh=> ?_);have a:=(lM _ _ _).1 p;have c:=(lM _ _ _).1 h;exact m i a.1 (bq ⟨c.2.2,cc a.2.2⟩);have a:=(Ln _ _ _).1 p;have c:=(lM _ _ _).1 h;exact m i a.1 (bq ⟨c.2.2,bq a.2.2⟩);rw[gj (bU b s) t k (by rw[Dv d];exact l),gj b s k o,gj b t k l];have e:∀n:bw,n.k=b.k->bU n t=n:=λn h=>by unfold bU;rw[h,if_neg u]
 rw[e _ d,e b rfl];have e:∀n:bw,n.k=b.k->bU n s=n:=λn h=>by unfold bU;rw[h,if_neg r]
 rw[e _ f,e b rfl]
end
def rB(m:Nat):Nat->Int|0=> -1|k+1=>if m.testBit k&&decide (rB m k<0)then k else rB m k
def mq(m:Nat):Nat->Int|0=> -1|k+1=>if m.testBit k then k else mq m k
def pN(r:Nat)(v:List Int)(n:Int):Nat->Int|0=>n|k+1=>if r.testBit k then pN r v n k+v.getD k 0 else pN r v n k
def lV(m:Nat)(a n:Int)(v:List Int):Nat->List Int
 |0=>v|k+1=>if m.testBit k then
   (let o:=if a=1 then(lV m a n v k).set k (k8 (v.getD k 0+n))else lV m a n v k
    if a=3/\0<=mq m k then o.set (mq m k).toNat (v.getD k 0)else o)
  else lV m a n v k
def Di(m:Nat)(a n:Int)(v:List Int):List Int:=if a=3/\0<=mq m 8 then(lV m a n v 8).set (mq m 8).toNat (v.getD (rB m 8).toNat 0)else lV m a n v 8
def o0(m:Nat)(a n b:Int)(v:List Int):Nat->List Int|0=>Di m a n v|k+1=>if a=2/\m.testBit k=ak then(o0 m a n b v k).set k (k8 b)else o0 m a n b v k
def ES(r v n):∀k,pN r v n k=((bB k).filter λi=>r.testBit i).foldl (λa i=>a+v.getD i 0) n|0=>rfl|k+1=>by rw[pN,List.range_succ,List.filter_append,List.foldl_append,ES r v n k];cases h:r.testBit k<;>simp[h]
def JE(l:List Int)(i j x)(a:i<l.length):(l.set i x).getD j 0=if j=i then x else l.getD j 0:=by rw[a7,a7,fE];by_cases h:j=i;subst h;simp[a];rw[if_neg h,if_neg (λe=>h e.symm)]
def aaB{a b:List Int}(e:a.length=8)(f:b.length=8)(h:∀i,i<8->a.getD i 0=b.getD i 0):a=b:=by
 refine List.ext_getElem (by omega) λi c d=> ?_
 have:=h i (by omega);rw[a7,a7,aj c,aj d]at this;exact this
def Es(m)(g:Nat->Int)(f v)(l:v.length=8)(c:∀j,f j=g ((kinds m).getD j 0)){i}(d:i<8):(mO f (kinds m) v (kinds m).length).getD i 0=if m.testBit i then g i else v.getD i 0:=by
 have k:(kinds m).Nodup:=List.nodup_range.filter _;cases h:m.testBit i;rw[if_neg (by simp)];exact AK f _ v i (λhm=>by unfold kinds at hm;have:=(b3.1 hm).2;simp[h]at this) _ (ao _);rw[if_pos rfl];have hm:i∈kinds m:=b3.2 ⟨List.mem_range.2 d,h⟩;obtain⟨j,b,e⟩:=bR.1 hm;have a:(kinds m).getD j 0=i:=by rw[a7,aj b];exact e
 have:=FU f (kinds m) v k _ (ao _) j b (by rw[a];omega);rw[a]at this;rw[this,c,a]
def AJ(m n v)(d:v.length=8):∀k,k<=8->(lV m 1 n v k).length=8/\∀i,(lV m 1 n v k).getD i 0=if i<k/\m.testBit i=ak then k8 (v.getD i 0+n)else v.getD i 0
 |0,_=>⟨d,λi=>by simp[lV]⟩|k+1,hk=>by
  obtain⟨a,b⟩:=AJ m n v d k (by omega);rw[lV];cases c:m.testBit k;refine⟨by simpa using a,λi=> ?_⟩;simp only[dg,if_false];rw[b];by_cases e:i=k;subst e;simp[c];have:i<k+1↔i<k:=by omega
  simp only[this];simp only[if_true,show¬((1:Int)=3)by decide,false_and,if_false];refine⟨by simpa using a,λi=> ?_⟩;rw[JE _ _ _ _ (by omega),b];by_cases e:i=k;subst e;simp[c];have:i<k+1↔i<k:=by omega
  simp only[if_neg e,this]
def wq(m a n v):∀k,(lV m a n v k).length=v.length
 |0=>rfl|k+1=>by
  rw[lV];simp only
  repeat' split
  all_goals simp[wq m a n v k]
def SB(m a n v):(Di m a n v).length=v.length:=by unfold Di;split<;>simp[wq]
def IZ(m a n b v):∀k,(o0 m a n b v k).length=v.length|0=>SB m a n v|k+1=>by rw[o0];split<;>simp[IZ m a n b v k]
def FC(m):∀k,-1<=mq m k/\mq m k<k\/k=0/\mq m k= -1|0=>.inr ⟨rfl,rfl⟩|k+1=>by have:=FC m k;rw[mq];split<;>omega
def MU(m):∀k,-1<=rB m k/\rB m k<k/\(0<=mq m k->0<=rB m k)\/k=0
 |0=>.inr rfl|k+1=>by have h:=MU m k;left;rw[rB,mq];cases m.testBit k;rcases h with h|rfl;simp;omega;simp[rB,mq];by_cases a:rB m k<0;simp[a];omega;rcases h with h|rfl;simp[a];omega;simp[rB]at a
def AI(m a n v)(b:a≠1)(c:a≠3):∀k,lV m a n v k=v|0=>rfl|k+1=>by rw[lV,AI m a n v b c k];simp[b,c]
def I0(m n a v)(f:v.length=8):∀k,k<=8->(o0 m 2 n a v k).length=8/\∀i,(o0 m 2 n a v k).getD i 0=if i<k/\m.testBit i=ak then k8 a else v.getD i 0
 |0,_=>by
  have e:o0 m 2 n a v 0=v:=by rw[o0,Di,if_neg (by simp),AI m 2 n v (by decide) (by decide)]
  rw[e];exact⟨f,λi=>by simp⟩
 |k+1,hk=>by
  obtain⟨b,c⟩:=I0 m n a v f k (by omega);rw[o0];cases d:m.testBit k;refine⟨by simpa using b,λi=> ?_⟩;simp only[dg,and_false,if_false];rw[c];by_cases e:i=k;subst e;simp[d];have:i<k+1↔i<k:=by omega
  simp only[this];simp only[and_true,if_true];refine⟨by simpa using b,λi=> ?_⟩;rw[JE _ _ _ _ (by omega),c];by_cases e:i=k;subst e;simp[d];have:i<k+1↔i<k:=by omega
  simp only[if_neg e,this]
def xE(m a n b v)(h:a≠2):∀k,o0 m a n b v k=Di m a n v|0=>rfl|k+1=>by rw[o0,if_neg (by simp[h]),xE m a n b v h k]
def BJ(m:Nat):Nat->List Nat|0=>bB 8|k+1=>if m.testBit k then(if 0<=mq m k then(BJ m k).set (mq m k).toNat k else BJ m k)else BJ m k
def Tz(m:Nat):List Nat:=if 0<=mq m 8 then(BJ m 8).set (mq m 8).toNat (rB m 8).toNat else BJ m 8
def ND(l:List Nat):Nat->List Nat|0=>bB 8|i+1=>(ND l i).set (l.getD i 0) (l.getD ((i+1) % l.length) 0)
def TA:∀m:Fin 256,Tz m.val=ND (kinds m.val) (kinds m.val).length:=by decide+kernel
def ED(v:List Int)(a:v.length=8):(bB 8).map (λi=>v.getD i 0)=v:=by
 match v,a with|[_,_,_,_,_,_,_,_],_=>rfl
def Ep(m n v)(a:v.length=8):∀k,lV m 3 n v k=(BJ m k).map λi=>v.getD i 0|0=>(ED v a).symm|k+1=>by rw[lV,BJ,Ep m n v a k];cases m.testBit k;simp;by_cases h:0<=mq m k;simp[h,jG];simp[h]
def Pa(m n v)(a:v.length=8):Di m 3 n v=(Tz m).map λi=>v.getD i 0:=by unfold Di Tz;rw[Ep m n v a];by_cases h:0<=mq m 8;simp[h,jG];simp[h]
def EV(l v)(a:v.length=8):∀i,mO (λi=>v.getD (l.getD ((i+1) % l.length) 0) 0) l v i=(ND l i).map λi=>v.getD i 0|0=>(ED v a).symm|i+1=>by rw[mO,ND,EV l v a i,jG]
def Tl{b s}(a:b.v.length=8)(g:b.k.toNat<256)(c:s.act=1\/s.act=2\/s.act=3):o0 (b.k.toNat &&& s.write.toNat) s.act s.n (pN (b.k.toNat &&& s.read.toNat) b.v s.n 8) b.v 8=mO (gn b s (wl b s)) (wl b s) b.v (wl b s).length:=by
 have hm:b.k.toNat &&& s.write.toNat<256:=Nat.lt_of_le_of_lt Nat.and_le_left g;have k:pN (b.k.toNat &&& s.read.toNat) b.v s.n 8=kD b s (rl b s):=ES _ _ _ _;rw[k];unfold wl;generalize b.k.toNat &&& s.write.toNat=m at*;rcases c with h|h|h;rw[h,xE m 1 s.n _ b.v (by decide)];unfold Di;rw[if_neg (by simp)];obtain⟨e,f⟩:=AJ m s.n b.v a 8 (ao _);refine aaB e (by rw[qy,a]) λi d=> ?_
 rw[f,Es m (λi=>k8 (b.v.getD i 0+s.n)) _ b.v a (λj=>by unfold gn;rw[if_pos h]) d];simp[d];rw[h];obtain⟨e,f⟩:=I0 m s.n (kD b s (rl b s)) b.v a 8 (ao _);refine aaB e (by rw[qy,a]) λi d=> ?_
 rw[f,Es m (λ_=>k8 (kD b s (rl b s))) _ b.v a (λj=>by unfold gn;rw[if_neg (by omega),if_pos h]) d];simp[d];rw[h,xE m 3 s.n _ b.v (by decide),Pa m s.n b.v a,TA ⟨m,hm⟩,<-EV (kinds m) b.v a];congr 1;funext j;unfold gn;rw[if_neg (by omega),if_neg (by omega)]
structure Chg where
 at_:Hd
 old:List Int
 now:List Int
namespace Rel
section
variable{P:br} {S:nK}
abbrev yc(S:nK)(c:Ren):Nat×aB->Nat×aB->Prop:=λa b=>a.1=b.1/\bz S c a.2 b.2
def Ib{n:Ren}:∀(l f:List (aB×Nat))(d:Nat)(c e:Array aB),cH S n c e->dp (λa b=>bz S n a.1 b.1/\a.2=b.2) l f->cH S n (l.foldl (λg(c,j)=>g.setIfInBounds (d+j) c) c) (f.foldl (λg(c,j)=>g.setIfInBounds (d+j) c) e):=by
 intro l
 induction l with
 |nil=>intro f d c e h k;cases k;exact h|cons a l r=>
  intro f d c e h k;cases k with|cons i q=>obtain⟨v,j⟩:=a;rename_i b m;obtain⟨t,s⟩:=b;obtain⟨o,p⟩:=i;simp only at o p;subst p;exact r m d _ _ (ig.set h o) q
def MA{e}:∀{l c} n,dp (bz S e) l c->dp (λa b=>bz S e a.1 b.1/\a.2=b.2) (l.zipIdx n) (c.zipIdx n):=by
 intro l
 induction l with
 |nil=>intro c n h;cases h;exact .nil|cons a l g=>
  intro c n h;cases h with|cons d f=>exact .cons ⟨d,rfl⟩ (g (n+1) f)
def C6{d:Ren}{v f:Array aB}(h:cH S d v f)(a:Nat){c e:Array aB}(g:cH S d c e):cH S d (v.zipIdx.foldl (λb(x,j)=>b.setIfInBounds (a+j) x) c) (f.zipIdx.foldl (λb(x,j)=>b.setIfInBounds (a+j) x) e):=by rw[<-Array.foldl_toList,<-Array.foldl_toList,Array.toList_zipIdx,Array.toList_zipIdx];exact Ib _ _ a _ _ g (MA 0 (dp.lf h))
def zY{π}(a):∀e b c f,cH S π c f->dp (yc S π) e b->gh (cH S π) (fN a c e) (fN a f b):=by
 intro e
 induction e with
 |nil=>intro b c f h j;cases j;exact .some h|cons p e r=>
  intro b c f h j;cases j with
  |cons g o=>
   obtain⟨i,v⟩:=p;rename_i q m;obtain⟨t,u⟩:=q;obtain⟨l,n⟩:=g;simp only at l n;subst l;unfold fN;cases a i with|none=>exact .none|some s=>obtain⟨k,size⟩:=s;simp only;have d:=n.cells;rw[<-d.size,<-h.size];split;exact .none;exact r m _ _ (C6 d k h) o
def Jc{j n:Type}{f:j->Sem n}(k:∀a d,Ren.Ok P d->av P S kZ (f a) d (f a)):∀(l:List j) d,Ren.Ok P d->av P S kZ (l.mapM f) d (l.mapM f):=by
 intro l
 induction l with|nil=>intro d e;rw[List.mapM_nil];exact au rfl|cons a l m=>intro d e;rw[List.mapM_cons];exact av.bind e (k a d e) λg b p i h=>by subst h;exact av.bind i.ok (m g i.ok) λo c q r h=>by subst h;exact au rfl
def Zn{e i:Type}{f:e->Sem i}(g:∀a c,Ren.Ok P c->av P S kZ (f a) c (f a))(x:Array e){c}(d:Ren.Ok P c):av P S kZ (x.mapM f) c (x.mapM f):=by rw[Array.mapM_eq_mapM_toList];exact av.bind d (Jc g _ c d) λj b k l h=>by subst h;exact au rfl
def VL{π}(F:pY P S)(s:Ren.Ok P π)(t){m j}(h:dp (yc S π) m.toList j.toList):av P S (VQ S) (Instr.build t m) π (Instr.build t j):=by
 unfold Instr.build;refine av.bind s (kB F s t) λH z K u C=> ?_
 obtain⟨rfl,B⟩:=C;refine av.bind u.ok (bE u.ok t) λA d I q D=> ?_
 obtain⟨rfl,_⟩:=D;have mono:∀{π o:Ren},Ext P π o->∀{l w:List (Nat×aB)},dp (yc S π) l w->dp (yc S o) l w:=by
  intro π o e l w E
  induction E with|nil=>exact .nil|cons x _ y=>exact .cons ⟨x.1,x.2.mono e⟩ y
 have v:∀(g:Ren),Ext P A g->∀c:Nat->Option (Nat×Nat),av P S (VQ S)
  (match fN c z.cells m.toList with|some cells=>pure (.agg cells)|_=>stuck "build: no such field, or a part of the wrong size") g
  (match fN c z.cells j.toList with|some cells=>pure (.agg cells)|_=>stuck "build: no such field, or a part of the wrong size"):=by
  intro g r c;have:=zY (S:=S) (π:=g) c m.toList j.toList z.cells z.cells (B g).cells (mono (u.trans (q.trans r)) h);revert this;generalize fN c z.cells m.toList=a;generalize fN c z.cells j.toList=b;intro this;cases this with|none=>exact rfl|some x=>exact au (.agg x.size x.at_)
 cases d with
 |struct k=>
  simp only;refine av.bind q.ok (Zn (λf π s=>av.bind s (fK s _) λ_ a b _ h=>by subst h;exact au rfl) k q.ok) λg p G r hp=> ?_
  subst hp;exact v g r _
 |array n J=>
  simp only;refine av.bind q.ok (fK q.ok _) λg p G r hp=> ?_
  subst hp;have:=zY (S:=S) (π:=g) (λi=>af (i*p,p)) m.toList j.toList z.cells z.cells (B g).cells (mono (u.trans (q.trans r)) h);revert this;generalize fN _ z.cells m.toList=a;generalize fN _ z.cells j.toList=b;intro this;cases this with|none=>exact rfl|some x=>exact au (.agg x.size x.at_)
 |_=>exact rfl
end
section
variable{P:br} {S:nK}
def GI(a):bz S a default default:=by show bz S a (.bool default) (.bool default);exact .bool _
def Wc{a z}(h:cH S a z z)(i:Nat):bz S a z[i]! z[i]! :=by
 rw[getElem!_def];cases b:z[i]? with|none=>exact GI a|some v=>exact h.at_ i v v b b
def vi{e z}(h:cH S e z z)(n):cH S e ((oY n).map (z[· % z.size]!)) ((oY n).map (z[· % z.size]!)):=by refine⟨rfl,λi a b c d=> ?_⟩;rw[c]at d;obtain rfl:=aX d;rw[gd]at c;obtain⟨j,_,rfl⟩:=aG.1 c;exact Wc h _
def Ex{a}(n):av P S kZ (askRoom n) a (askRoom n):=by unfold askRoom;split;exact⟨.inl rfl,_,rfl,(),rfl,rfl⟩;exact au rfl
def F6{π}(D:pY P S)(s:Ren.Ok P π)(t len){j f}(h:dp (yc S π) j.toList f.toList):av P S (VQ S) (gB t len j) π (gB t len f):=by
 have mono:∀{π g:Ren},Ext P π g->∀{l r:List (Nat×aB)},dp (yc S π) l r->dp (yc S g) l r:=by
  intro π g e l r A
  induction A with|nil=>exact .nil|cons x _ y=>exact .cons ⟨x.1,x.2.mono e⟩ y
 unfold gB;refine av.bind s (bE s t) λE d G o v=> ?_
 obtain⟨rfl,_⟩:=v;cases d with
 |slice q=>
  simp only;refine av.bind o.ok (fK o.ok _) λk n I m B=> ?_
  subst B;split;exact rfl;have tail:∀c z,Ext P k c->cH S c z z->av P S (VQ S)
   (match fN (λi=>af (i*n,n)) ((oY (len*n)).map (z[· % z.size]!)) j.toList with|some cells=>do pure (.slice (af (<-newRow q cells)) len len)|_=>stuck "buildSlice: a part of the wrong size") c
   (match fN (λi=>af (i*n,n)) ((oY (len*n)).map (z[· % z.size]!)) f.toList with|some cells=>do pure (.slice (af (<-newRow q cells)) len len)|_=>stuck "buildSlice: a part of the wrong size"):=by
   intro c z p C;have:=zY (S:=S) (π:=c) (λi=>af (i*n,n)) j.toList f.toList _ _ (vi C (len*n)) (mono (o.trans (m.trans p)) h);revert this;generalize fN _ _ j.toList=a;generalize fN _ _ f.toList=b;intro this;cases this with|none=>exact rfl|some x=>exact av.bind p.ok (wE _ p.ok x) λF a b H u=>au (.slice _ _ u)
  split;exact tail k #[] (Ext.refl m.ok) ⟨rfl,by simp⟩;exact av.bind m.ok (kB D m.ok q) λc a b e h=>by obtain⟨rfl,w⟩:=h;exact tail c _ e (w c).cells
 |_=>exact rfl
end
section
variable{P:br} {S:nK}
def Jb{r}(L:pY P S)(D:Ren.Ok P r)(t){l C c w}(J:bz S r l C)(G:bz S r c w):av P S (VQ S) (Instr.makeSlice t l c) r (Instr.makeSlice t C w):=by
 unfold Instr.makeSlice;refine av.bind D (bE D t) λM d R p H=> ?_
 obtain⟨rfl,_⟩:=H;cases d with
 |slice f=>
  simp only;refine av.bind p.ok (wB p.ok (J.mono p)) λN a g u h=> ?_
  subst h;refine av.bind u.ok (wB u.ok ((G.mono p).mono u)) λO b Q A h=> ?_
  subst h;refine av.bind A.ok (fl A.ok f) λo i T q h=> ?_
  obtain⟨rfl,_⟩:=h;have tail:∀e n z,Ext P o e->cH S e z z->av P S (VQ S)
   (do let g<-newRow f ((oY n).map (z[· % z.size]!));pure (er (af g) (IntKind.i64.wrap a).toNat (IntKind.i64.wrap b).toNat)) e
   (do let g<-newRow f ((oY n).map (z[· % z.size]!));pure (er (af g) (IntKind.i64.wrap a).toNat (IntKind.i64.wrap b).toNat)):=by
   intro e n z k K;exact av.bind k.ok (wE _ k.ok (vi K n)) λm a b B F=>au (.slice _ _ F)
  have E:av P S (VQ S) (do
   askRoom ((IntKind.i64.wrap b).toNat*i.bytes)
   let n:=(IntKind.i64.wrap b).toNat*(<-sizeOf f)
   let zero<-if n=0 then pure #[]else do pure (<-zeroValue f).cells
   let g<-newRow f ((oY n).map (zero[· % zero.size]!))
   pure (er (af g) (IntKind.i64.wrap a).toNat (IntKind.i64.wrap b).toNat)) o (do
   askRoom ((IntKind.i64.wrap b).toNat*i.bytes)
   let n:=(IntKind.i64.wrap b).toNat*(<-sizeOf f)
   let zero<-if n=0 then pure #[]else do pure (<-zeroValue f).cells
   let g<-newRow f ((oY n).map (zero[· % zero.size]!))
   pure (er (af g) (IntKind.i64.wrap a).toNat (IntKind.i64.wrap b).toNat)):=by
   refine av.bind q.ok (Ex _) λv _ _ j _=> ?_
   refine av.bind j.ok (fK j.ok _) λe s U k h=> ?_
   subst h;simp only;split;exact tail e _ #[] (j.trans k) ⟨rfl,by simp⟩;exact av.bind k.ok (kB L k.ok f) λm x y B h=>by obtain⟨rfl,I⟩:=h;exact tail m _ _ (j.trans (k.trans B)) (I m).cells
  split;split;exact iW q.ok _;split;exact iW q.ok _;refine av.bind q.ok (nz _) λv x y j h=> ?_
  subst h;first|exact iW j.ok _|(split<;>exact iW j.ok _)
  exact E
 |_=>exact rfl
end
section
variable{P:br} {S:nK}
def ig.opt{f g}{R:f->g->Prop}{x y}(h:ig R x y)(i:Nat):gh R x[i]? y[i]?:=by
 cases d:x[i]? with
 |none=>
  have:y[i]? =ah:=by rw[Array.getElem?_eq_none_iff]at d|-;rw[<-h.size];exact d
  rw[this];exact .none
 |some a=>obtain⟨b,e,c⟩:=h.get d;rw[e];exact .some c
def aa'{j}(p:Ren.Ok P j)(i t){x y}(h:cH S j x y):av P S (VQ S) (Builtin.len_ i t x) j (Builtin.len_ i t y):=by
 unfold Builtin.len_;have f:=h.opt 0;revert f;generalize x[0]? =a;generalize y[0]? =b;intro f;cases i[0]? with
 |none=>cases f<;>exact rfl|some A=>
  cases f with
  |none=>exact rfl|some z=>
   simp only;refine av.bind p (bE p A) λB d q e g=> ?_
   obtain⟨rfl,_⟩:=g;have c:=z.mono e;cases d with
   |array n m=>cases c<;>exact au (.int _ _)|string=>cases c<;>first|exact au (.int _ _)|exact rfl
   |slice m=>cases c<;>first|exact au (.int _ _)|exact rfl
   |chan C m=>cases c<;>first|exact au (.int _ _)|exact rfl
   |map k v=>
    cases c with
    |uY=>exact au (.int _ _)|map w=>
     refine av.bind e.ok (iB w) λl o D r u=> ?_
     cases u with|map k s=>simp only;rw[s.size];exact au (.int _ _)|_=>exact rfl
    |_=>exact rfl
   |pointer arr=>
    cases c<;>
     (refine av.bind e.ok (bE e.ok arr) λl d q r g=> ?_
      obtain⟨rfl,_⟩:=g;cases d<;>first|exact au (.int _ _)|exact rfl)
   |_=>cases c<;>exact rfl
end
section
variable{P:br} {S:nK}
def LK{a f b x e y g}(h:Qn S a f b)(c:cH S a x e)(d:cH S a y g):av P S (VQ S) (Instr.makeFunc f x y) a (Instr.makeFunc b e g):=au (.func h c.size c.at_ d.size d.at_)
def aa9{j}(l:Ren.Ok P j)(i t){x y}(h:cH S j x y):av P S (VQ S) (Builtin.cap_ i t x) j (Builtin.cap_ i t y):=by
 unfold Builtin.cap_;have e:=h.opt 0;revert e;generalize x[0]? =a;generalize y[0]? =b;intro e;cases i[0]? with
 |none=>cases e<;>exact rfl|some p=>
  cases e with
  |none=>exact rfl|some o=>
   simp only;refine av.bind l (bE l p) λq d m f g=> ?_
   obtain⟨rfl,_⟩:=g;have c:=o.mono f;cases d with
   |array n k=>cases c<;>exact au (.int _ _)|slice k=>cases c<;>first|exact au (.int _ _)|exact rfl
   |chan s k=>cases c<;>first|exact au (.int _ _)|exact rfl
   |pointer arr=>
    cases c<;>
     (refine av.bind f.ok (bE f.ok arr) λr d m u g=> ?_
      obtain⟨rfl,_⟩:=g;cases d<;>first|exact au (.int _ _)|exact rfl)
   |_=>cases c<;>exact rfl
def A8{a}(op k x y):av P S (VQ S) (Op.intArith op k x y) a (Op.intArith op k x y):=by cases op<;>first|exact au (.int _ _)|exact rfl
def SP{a}(b:Ren.Ok P a)(op k x y):av P S (VQ S) (Op.intDiv op k x y) a (Op.intDiv op k x y):=by unfold Op.intDiv;split;exact iW b _;cases op<;>first|exact au (.int _ _)|exact rfl
def EB{a}(op k x y):av P S (VQ S) (Op.intBits op k x y) a (Op.intBits op k x y):=by cases op<;>first|exact au (.int _ _)|exact rfl
def VT{b}(c:Ren.Ok P b)(op k x a y):av P S (VQ S) (Op.shift op k x a y) b (Op.shift op k x a y):=by unfold Op.shift;split;exact iW c _;cases op<;>first|exact au (.int _ _)|exact rfl
def SO{a}(op x y):av P S (VQ S) (Op.intCmp op x y) a (Op.intCmp op x y):=by cases op<;>first|exact au (.bool _)|exact rfl
def vg{a}(op x y):av P S (VQ S) (Op.stringOp op x y) a (Op.stringOp op x y):=by unfold Op.stringOp;cases op<;>first|exact au (.bool _)|exact rfl|(simp only;split<;>first|exact rfl|exact au (.string _))
def VW{b}(op){x a}(h:bz S b x a):av P S (VQ S) (Op.unary op x) b (Op.unary op a):=by cases op<;>cases h<;>first|exact rfl|exact A8 _ _ _ _|exact EB _ _ _ _|exact au (.int _ _)|exact au (.bool _)
def Zp{f}(m:Ren.Ok P f){x i y j}(l:bz S f x i)(g:bz S f y j):av P S (VQ S) (Builtin.min2 x y) f (Builtin.min2 i j):=by
 cases l with
 |int=>cases g<;>first|exact rfl|exact au (.int _ _)
 |string=>
  cases g with
  |string=>
   refine av.bind m (vg _ _ _) λn a b e h=> ?_
   refine av.bind e.ok (AW h) λo c d p k=> ?_
   subst k;cases c<;>exact au (.string _)
  |_=>exact rfl
 |_=>cases g<;>exact rfl
def Zo{f}(m:Ren.Ok P f){x i y j}(l:bz S f x i)(g:bz S f y j):av P S (VQ S) (Builtin.max2 x y) f (Builtin.max2 i j):=by
 cases l with
 |int=>cases g<;>first|exact rfl|exact au (.int _ _)
 |string=>
  cases g with
  |string=>
   refine av.bind m (vg _ _ _) λn a b e h=> ?_
   refine av.bind e.ok (AW h) λo c d p k=> ?_
   subst k;cases c<;>exact au (.string _)
  |_=>exact rfl
 |_=>cases g<;>exact rfl
def I9{f}(r:∀c x d y o,Ren.Ok P c->bz S c x d->bz S c y o->av P S (VQ S) (f x y) c (f d o)):∀{l j}{c}{x d},Ren.Ok P c->dp (bz S c) l j->bz S c x d->av P S (VQ S) (l.foldlM f x) c (j.foldlM f d):=by
 intro l
 induction l with
 |nil=>intro j c x d m g k;cases g;exact au k|cons a l n=>
  intro j c x d m g k;cases g with
  |cons p g=>
   refine av.bind m (r c _ _ _ _ m k p) λs b t e q=>n e.ok ?_ q
   clear n
   induction g with|nil=>exact .nil|cons h _ i=>exact .cons (h.mono e) i
def abd{a}(c:Ren.Ok P a)(d t){x y}(h:cH S a x y):av P S (VQ S) (Builtin.min_ d t x) a (Builtin.min_ d t y):=by
 unfold Builtin.min_;have b:=dp.lf h;generalize x.toList=l at b;generalize y.toList=j at b;cases b with|nil=>exact rfl|cons e f=>exact I9 (λa x k y m c g i=>Zp c g i) c f e
def abb{a}(c:Ren.Ok P a)(d t){x y}(h:cH S a x y):av P S (VQ S) (Builtin.max_ d t x) a (Builtin.max_ d t y):=by
 unfold Builtin.max_;have b:=dp.lf h;generalize x.toList=l at b;generalize y.toList=j at b;cases b with|nil=>exact rfl|cons e f=>exact I9 (λa x k y m c g i=>Zo c g i) c f e
end
section
variable{P:br} {S:nK}
def Np{b x a}(h:bz S b x a):av P S kZ (Builtin.lenOf x) b (Builtin.lenOf a):=by cases h<;>first|exact au rfl|exact rfl
def cH.append{f x g y j}(h:cH S f x g)(k:cH S f y j):cH S f (x++y) (g++j):=by refine⟨by simp[h.size,k.size],λi a b d c=> ?_⟩;rw[Array.getElem?_append]at d c;rw[<-h.size]at c;split at d;rename_i e;rw[if_pos e]at c;exact h.at_ i a b d c;rename_i e;rw[if_neg e]at c;exact k.at_ _ a b d c
def OT{f}(l:Array UInt8):cH S f (l.map λb=>aD .u8 b.toNat) (l.map λb=>aD .u8 b.toNat):=by refine⟨rfl,λi a b d e=> ?_⟩;rw[d]at e;obtain rfl:=aX e;rw[gd]at d;obtain⟨c,_,rfl⟩:=aG.1 d;exact .int _ _
def rL{a}(e:Ren.Ok P a)(size n){x b}(h:bz S a x b):av P S (X6 S) (gQ size n x) a (gQ size n b):=by
 cases h with|jr=>exact au ⟨rfl,by simp⟩|slice l c d=>exact yB e d _|string s=>exact au (OT _)|_=>exact rfl
def wC{b}(f:Ren.Ok P b){a c}(h:dK b a c)(n):av P S kZ (Builtin.holdsCells a n) b (Builtin.holdsCells c n):=by
 unfold Builtin.holdsCells;refine av.bind f (ni h.block) λg x y e d=> ?_
 subst d;cases x with|none=>exact au rfl|some x=>simp only[h.spot,h.off];exact au rfl
def LM{h}(i:Ren.Ok P h)(size g n){b b'}(C:gh (dK h) b b'){x u}(E:bz S h x u):av P S kZ (Builtin.mayShare size g n b x) h (Builtin.mayShare size g n b' u):=by
 unfold Builtin.mayShare;have tail:∀(f:Ren)(t:Bool),Ext P h f->av P S kZ (do
  if !t then return ak
  match x with
   |.slice (af c) _ _=>do pure (!(<-Builtin.holdsCells c (n*size))||b.any (·.block==c.block))
   |_=>pure aq) f (do
  if !t then return ak
  match u with
   |.slice (af c) _ _=>do pure (!(<-Builtin.holdsCells c (n*size))||b'.any (·.block==c.block))
   |_=>pure aq):=by
  intro f t r;cases t with
  |false=>exact au rfl|true=>
   cases E with
   |slice l c B=>
    refine av.bind r.ok (wC r.ok (B.mono r) _) λv x y e a=> ?_
    subst a;cases C with
    |none=>exact au rfl|some d=>
     rename_i m o p q;refine au ?_;have:(p.block==m.block)=(q.block==o.block):=by
      have j:=d.block;have A:=B.block;by_cases k:p.block=m.block;rw[k]at j;have:=i.fn _ _ _ j A;simp[k,this];have:q.block≠o.block:=λs=>by rw[s]at j;exact k (i.inj _ _ _ j A)
      rw[beq_eq_false_iff_ne.2 k,beq_eq_false_iff_ne.2 this]
     show(!x||(p.block==m.block))=(!x||(q.block==o.block));rw[this]
   |_=>exact au rfl
 cases C with
 |none=>exact tail h ak (Ext.refl i)|some d=>
  refine av.bind i (wC i d _) λf x y e a=> ?_
  subst a;refine av.bind e.ok (tf ((d.mono e).add _)) λv x y z a=> ?_
  subst a;exact av.bind (Q:=kZ) z.ok (au rfl) λw x y D a=>by subst a;exact tail w x (e.trans (z.trans D))
def nY(b:cD)(h:Option Addr)(g f size:Nat)(s x:aB)(jE:Bool)(n:Nat):Sem aB:=do
 let d:Sem (Array aB):=
  if !jE then gQ size n x
  else if n*size=0 then pure #[]
  else do pure (jz (<-zeroValue b).cells n)
 let c:=g+n
 if c<=f then
  let new<-d
  if let af a:=h then storeCells (a.add (g*size)) new.toList
  pure (.slice h c f)
 else
  if(c:Int)>IntKind.i64.max/\(jE\/(<-typeInfo b).bytes=0)then runtimePanic (.error "growslice: len out of range")
  if Builtin.nextslicecap c f*(<-typeInfo b).bytes>2^48 then(if jE then runtimePanic (.error "growslice: len out of range")else do
   if !(<-Builtin.mayShare size g n h x)then mark .noRoom
   unsupported (.resourceLimit "append: a slice or a string whose bytes no memory bears"))
  let e<-choose (.appendCap c f b)
  askRoom (e*(<-typeInfo b).bytes)
  let old<-gQ size g s
  let new<-d
  let i:=jz (<-zeroValue b).cells (e-c)
  pure (.slice (af (<-newRow b (old++new++i))) c e)
def tE{a z}(h:cH S a z z)(n):cH S a (jz z n) (jz z n):=vi h _
def cH.mono{b a}(e:Ext P b a){x y}(h:cH S b x y):cH S a x y:=ig.mono h λ_ _ k=>k.mono e
def AV{f}(l:pY P S)(d:Ren.Ok P f)(c size){x i}(jE n)(k:bz S f x i):av P S (X6 S) (if !jE then gQ size n x else if n*size=0 then pure #[]else do pure (jz (<-zeroValue c).cells n)) f (if !jE then gQ size n i else if n*size=0 then pure #[]else do pure (jz (<-zeroValue c).cells n)):=by split;exact rL d _ _ k;split;exact au ⟨rfl,by simp⟩;exact av.bind d (kB l d c) λg a b e h=>by obtain⟨rfl,j⟩:=h;exact au (tE (j g).cells _)
def Pr{m}(w:pY P S)(I:Ren.Ok P m)(d k j size){s y x A}(jE n f)(F:bz S m s y)(H:bz S m x A):av P S (VQ S) (do
 let b<-choose (.appendCap f j d)
 askRoom (b*(<-typeInfo d).bytes)
 let old<-gQ size k s
 let new<-(if !jE then gQ size n x else if n*size=0 then pure #[]else do pure (jz (<-zeroValue d).cells n))
 let g:=jz (<-zeroValue d).cells (b-f)
 pure (.slice (af (<-newRow d (old++new++g))) f b)) m (do
 let b<-choose (.appendCap f j d)
 askRoom (b*(<-typeInfo d).bytes)
 let old<-gQ size k y
 let new<-(if !jE then gQ size n A else if n*size=0 then pure #[]else do pure (jz (<-zeroValue d).cells n))
 let g:=jz (<-zeroValue d).cells (b-f)
 pure (.slice (af (<-newRow d (old++new++g))) f b)):=by
 refine av.bind I (nz _) λJ c R p h=> ?_
 subst h;refine av.bind p.ok (fl p.ok _) λK i U u h=> ?_
 obtain⟨rfl,_⟩:=h;refine av.bind u.ok (Ex _) λL _ _ B _=> ?_
 have e:=p.trans (u.trans B);refine av.bind e.ok (rL e.ok _ _ (F.mono e)) λM o V q E=> ?_
 refine av.bind q.ok (AV w q.ok d size jE n ((H.mono e).mono q)) λN v W r G=> ?_
 refine av.bind r.ok (kB w r.ok d) λt z X l h=> ?_
 obtain⟨rfl,D⟩:=h;refine av.bind l.ok (wE _ l.ok (((((E.mono r).mono l)).append (G.mono l)).append (tE (D t).cells _))) λO a Q T C=>au (.slice _ _ C)
def Ew{j}(t:pY P S)(l:Ren.Ok P j)(d){b b'}(a f size){s u x w}(jE n)(r:gh (dK j) b b')(y:bz S j s u)(o:bz S j x w):av P S (VQ S) (nY d b a f size s x jE n) j (nY d b' a f size u w jE n):=by
 unfold nY;simp only;split;refine av.bind l (AV t l d size jE n o) λp v E g z=> ?_
 cases r with|none=>exact au (.jr _ _)|some k=>exact av.bind g.ok (rM g.ok ((k.mono g).add _) 0 (dp.lf z)) λq _ _ m _=>au (.slice _ _ ((k.mono g).mono m))
 refine av.bind l (fl l _) λp i A g h=> ?_
 obtain⟨rfl,_⟩:=h;split;exact iW g.ok _;refine av.bind g.ok (fl g.ok _) λq i A m h=> ?_
 obtain⟨rfl,_⟩:=h;have e:=g.trans m;split;refine av.bind (Q:=λ_ _ _=>False) e.ok ?_ λ_ _ _ _ h=>h.elim
 cases jE with
 |true=>exact iW e.ok _|false=>
  simp only[dg,if_false];refine av.bind e.ok (LM (b:=b) (b':=b') e.ok size a n ?_ (o.mono e)) λB c C D h=> ?_
  cases r with|none=>exact .none|some k=>exact .some (k.mono e)
  subst h;cases c with|true=>exact rfl|false=>exact⟨.inl rfl,_,rfl,rfl⟩
 exact Pr t e.ok d a f size jE n (a+n) (y.mono e) (o.mono e)
end
section
variable{P:br} {S:nK}
def zK(a:cD)(g:Option cD)(c:Option Addr)(f e:Nat)(s x:aB):Sem aB:=do
 let size<-sizeOf a
 let jE<-match g with
  |some b=>do pure ((<-underlying b) matches .int _)
  |none=>pure aq
 let n<-if jE then do
  let l:=IntKind.i64.wrap (<-asInt x)
  if l<0 then runtimePanic (.error "makeslice: len out of range")
  if l*(<-typeInfo a).bytes>2^48 then
   let d<-choose (.extern "append.ofMake.carriedOut" 2)
   runtimePanic (.error (if d==1 then "makeslice: len out of range" else "growslice: len out of range"))
  pure l.toNat
  else Builtin.lenOf x
 nY a c f e size s x jE n
def gh.addr{d a}(e:Ext P d a){c b}(h:gh (dK d) c b):gh (dK a) c b:=gh.mono (λ_ _ k=>k.mono e) h
def I6{y}(J:pY P S)(K:Ren.Ok P y)(g F){c A}(l t){s E x w}(H:gh (dK y) c A)(I:bz S y s E)(D:bz S y x w):av P S (VQ S) (zK g F c l t s x) y (zK g F A l t E w):=by
 unfold zK;refine av.bind K (fK K g) λG n W q h=> ?_
 subst h;have L:∀(o:Ren)(z:Bool),Ext P y o->av P S (VQ S) (if z then do
  let v:=IntKind.i64.wrap (<-asInt x)
  let C:=λ(_:Unit)=>do
   let i<-typeInfo g
   let j:=λ(_:Unit)=>do
    let k<-pure v.toNat
    nY g c l t n s x z k
   if v*i.bytes>2^48 then do
    let m<-choose (.extern "append.ofMake.carriedOut" 2)
    let r<-runtimePanic (.error (if m==1 then "makeslice: len out of range" else "growslice: len out of range"))
    j r
   else j ()
  if v<0 then do
   let r<-runtimePanic (.error "makeslice: len out of range")
   C r
  else C ()
  else do
   let k<-Builtin.lenOf x
   nY g c l t n s x z k) o (if z then do
   let v:=IntKind.i64.wrap (<-asInt w)
   let C:=λ(_:Unit)=>do
    let i<-typeInfo g
    let j:=λ(_:Unit)=>do
     let k<-pure v.toNat
     nY g A l t n E w z k
    if v*i.bytes>2^48 then do
     let m<-choose (.extern "append.ofMake.carriedOut" 2)
     let r<-runtimePanic (.error (if m==1 then "makeslice: len out of range" else "growslice: len out of range"))
     j r
    else j ()
   if v<0 then do
    let r<-runtimePanic (.error "makeslice: len out of range")
    C r
   else C ()
  else do
   let k<-Builtin.lenOf w
   nY g A l t n E w z k):=by
  intro o z f;cases z with
  |false=>
   refine av.bind f.ok (Np (D.mono f)) λp k N u h=> ?_
   subst h;have e:=f.trans u;exact Ew J e.ok g l t n aq k (gh.addr e H) (I.mono e) (D.mono e)
  |true=>
   refine av.bind f.ok (wB f.ok (D.mono f)) λR a T B h=> ?_
   subst h;simp only;split;exact av.bind (Q:=λ_ _ _=>False) B.ok (iW B.ok _) λ_ _ _ _ h=>h.elim
   refine av.bind B.ok (fl B.ok _) λG i V q h=> ?_
   obtain⟨rfl,_⟩:=h;split;refine av.bind q.ok (nz _) λo c A f h=> ?_
   subst h;exact av.bind (Q:=λ_ _ _=>False) f.ok (iW f.ok _) λ_ _ _ _ h=>h.elim
   refine av.bind (Q:=kZ) q.ok (au rfl) λp k N u h=> ?_
   subst h;have e:=f.trans (B.trans (q.trans u));exact Ew J e.ok g l t n ak _ (gh.addr e H) (I.mono e) (D.mono e)
 cases F with
 |none=>exact av.bind (Q:=kZ) q.ok (au rfl) λp a b u h=>by subst h;exact L p a (q.trans u)|some O=>
  refine av.bind q.ok (bE q.ok O) λo d U f M=> ?_
  obtain⟨rfl,_⟩:=M;exact av.bind (Q:=kZ) f.ok (au rfl) λp a b u h=>by subst h;exact L p a (q.trans (f.trans u))
def append_eq(a:Array cD)(t:cD)(x:Array aB):Builtin.append_ a t x=(match a[0]?,x[0]?,x[1]? with
 |some b,af s,af v=>do
  let .slice el<-underlying b|stuck "append: slice type expected"
  let .slice base l cp:=s|stuck "append: slice expected"
  zK el a[1]? base l cp s v
 |_,_,_=>stuck "append: two arguments expected"):=by
 unfold Builtin.append_ zK nY;cases a[0]?<;>cases x[0]?<;>cases x[1]?<;>rfl
def SL{k}(q:pY P S)(r:Ren.Ok P k)(g t){x y}(h:cH S k x y):av P S (VQ S) (Builtin.append_ g t x) k (Builtin.append_ g t y):=by
 rw[append_eq,append_eq];have e:=h.opt 0;have f:=h.opt 1;revert e f;generalize x[0]? =a;generalize y[0]? =z;generalize x[1]? =b;generalize y[1]? =A;generalize g[1]? =s;intro e f;cases g[0]? with
 |none=>cases e<;>cases f<;>exact rfl|some v=>
  cases e with
  |none=>exact rfl|some o=>
   cases f with
   |none=>exact rfl|some p=>
    refine av.bind r (bE r v) λw d B c u=> ?_
    obtain⟨rfl,_⟩:=u;cases d with
    |slice m=>
     have j:=o.mono c;cases j with|jr l i=>exact I6 q c.ok m s l i .none (.jr _ _) (p.mono c)|slice l i n=>exact I6 q c.ok m s l i (.some n) (.slice _ _ n) (p.mono c)|_=>exact rfl
    |_=>cases o<;>exact rfl
def vG(d:cD)(b:Option Addr)(c:Nat)(e:aB):Sem aB:=do
 let n:=Nat.min (<-Builtin.lenOf e) c
 let cells<-gQ (<-sizeOf d) n e
 if let af a:=b then storeCells a cells.toList
 pure (goInt n)
def Ez{d}(r:Ren.Ok P d)(f){c i}(l){x m}(p:gh (dK d) c i)(j:bz S d x m):av P S (VQ S) (vG f c l x) d (vG f i l m):=by
 unfold vG;refine av.bind r (Np j) λs n A a h=> ?_
 subst h;refine av.bind a.ok (fK a.ok f) λt k z b h=> ?_
 subst h;refine av.bind b.ok (rL b.ok _ _ ((j.mono a).mono b)) λu v B e q=> ?_
 have g:=gh.addr (a.trans (b.trans e)) p;cases g with|none=>exact au (.int _ _)|some o=>exact av.bind e.ok (rM e.ok o 0 (dp.lf q)) λw _ _ y _=>au (.int _ _)
def copy_eq(a:Array cD)(t:cD)(x:Array aB):Builtin.copy_ a t x=(match a[0]?,x[0]?,x[1]? with
 |some b,af s,af v=>do
  let .slice el<-underlying b|stuck "copy: slice type expected"
  let .slice base l _:=s|stuck "copy: slice expected"
  vG el base l v
 |_,_,_=>stuck "copy: two arguments expected"):=by
 unfold Builtin.copy_ vG;cases a[0]?<;>cases x[0]?<;>cases x[1]?<;>rfl
def Zm{j}(o:Ren.Ok P j)(i t){x y}(h:cH S j x y):av P S (VQ S) (Builtin.copy_ i t x) j (Builtin.copy_ i t y):=by
 rw[copy_eq,copy_eq];have e:=h.opt 0;have f:=h.opt 1;revert e f;generalize x[0]? =a;generalize y[0]? =v;generalize x[1]? =b;generalize y[1]? =w;intro e f;cases i[0]? with
 |none=>cases e<;>cases f<;>exact rfl|some s=>
  cases e with
  |none=>exact rfl|some m=>
   cases f with
   |none=>exact rfl|some n=>
    refine av.bind o (bE o s) λu d z c r=> ?_
    obtain⟨rfl,_⟩:=r;cases d with
    |slice k=>
     have g:=m.mono c;cases g with|jr l p=>exact Ez c.ok k l .none (n.mono c)|slice l p q=>exact Ez c.ok k l (.some q) (n.mono c)|_=>exact rfl
    |_=>cases m<;>exact rfl
end
section
variable{P:br} {S:nK}
def Nn{n p:Type}{f g d}(i:Ren.Ok P d)(h:∀c,Ext P d c->∀x s,av P S kZ (f x s) c (g x s)):∀(l:List n)(s:p),av P S kZ (forIn l s f) d (forIn l s g):=by
 intro l
 induction l generalizing d with
 |nil=>intro s;exact au rfl|cons a l m=>
  intro s;rw[List.forIn_cons,List.forIn_cons];refine av.bind i (h d (Ext.refl i) a s) λo r q e k=> ?_
  subst k;cases r with|done b=>exact au rfl|yield b=>exact m e.ok (λc j=>h c (e.trans j)) b
def AZ{e g:Type}{f c b}(d:Ren.Ok P b)(h:∀a,Ext P b a->∀x s,av P S kZ (f x s) a (c x s))(l:Array e)(s:g):av P S kZ (forIn l s f) b (forIn l s c):=by rw[<-Array.forIn_toList,<-Array.forIn_toList];exact Nn d h _ _
def A7{e f c b}(d:Ren.Ok P b)(h:∀a,Ext P b a->∀x s,av P S kZ (f x s) a (c x s))(r:Std.Legacy.Range)(s:e):av P S kZ (forIn r s f) b (forIn r s c):=by rw[Std.Legacy.Range.forIn_eq_forIn_range',Std.Legacy.Range.forIn_eq_forIn_range'];exact Nn d h _ _
def sy{j}(k:Ren.Ok P j){a b g i}(c:dK j a g)(d:dK j b i):(a==b)=(g==i):=by
 have f:a=b↔g=i:=by
  constructor;rintro rfl;have:=k.fn _ _ _ c.block d.block;cases g;cases i
  simp_all
  exact⟨c.off.trans d.off.symm,c.spot.trans d.spot.symm⟩;rintro rfl;have:=k.inj _ _ _ c.block d.block;cases a;cases b
  simp_all
  exact⟨c.off.symm.trans d.off,c.spot.symm.trans d.spot⟩
 by_cases h:a=b;rw[beq_iff_eq.2 h,beq_iff_eq.2 (f.1 h)];rw[beq_eq_false_iff_ne.2 h,beq_eq_false_iff_ne.2 λe=>h (f.2 e)]
def xe{g}(k:Ren.Ok P g){a b d f}(i:g a d)(j:g b f):(a==b)=(d==f):=by have c:a=b↔d=f:=⟨λh=>by subst h;exact k.fn _ _ _ i j,λh=>by subst h;exact k.inj _ _ _ i j⟩;by_cases h:a=b;rw[beq_iff_eq.2 h,beq_iff_eq.2 (c.1 h)];rw[beq_eq_false_iff_ne.2 h,beq_eq_false_iff_ne.2 λe=>h (c.2 e)]
def yC{c}(g:Ren.Ok P c){a d}(h:dK c a d):av P S kZ (stringish a) c (stringish d):=by
 unfold stringish;refine av.bind g (tf h) λi x y e b=> ?_
 subst b;cases x with
 |true=>exact au rfl|false=>
  simp only[dg,if_false];refine av.bind e.ok (ni (e.le _ _ h.block)) λj x y f b=> ?_
  subst b;cases x with|none=>exact au rfl|some x=>exact tf ⟨(e.trans f).le _ _ h.block,rfl,rfl⟩
def LL{h}(m:Ren.Ok P h){a b i j}(k:dK h a i)(l:dK h b j):av P S kZ (mayBeOne a b) h (mayBeOne i j):=by
 unfold mayBeOne;refine av.bind m (yC m k) λn x y d c=> ?_
 subst c;refine av.bind d.ok (yC d.ok (l.mono d)) λo x y g c=> ?_
 subst c;refine av.bind (Q:=kZ) g.ok (av.bind g.ok (ni ((k.mono d).mono g).block) λf x y e c=>by subst c;exact au rfl) λf x y e c=> ?_
 subst c;refine av.bind (Q:=kZ) e.ok (av.bind e.ok (ni (((l.mono d).mono g).mono e).block) λf x y e c=>by subst c;exact au rfl) λp x y q c=> ?_
 subst c;exact au rfl
def Be{i}(m:Ren.Ok P i){a b n o}(f:dK i a n)(g:dK i b o):av P S kZ (sameAddr a b) i (sameAddr n o):=by
 unfold sameAddr;rw[xe m f.block g.block,sy m f g];split;exact au rfl;refine av.bind m (tf f) λq x y j c=> ?_
 subst c;refine av.bind j.ok (tf (g.mono j)) λr x y k c=> ?_
 subst c;have d:=j.trans k;split;exact rfl;refine av.bind k.ok (Bd k.ok (f.mono d)) λs x y h c=> ?_
 refine av.bind h.ok (Bd h.ok ((g.mono d).mono h)) λt x y l c=> ?_
 have e:=(d.trans h).trans l;refine av.bind l.ok (LL l.ok (f.mono e) (g.mono e)) λu x y p c=> ?_
 subst c;cases x with|true=>exact av.bind p.ok (nz _) λv x y w c=>by subst c;exact au rfl|false=>exact au rfl
def jm{c}(i:Ren.Ok P c){a g}(h:dK c a g):av P S (λc p q=>dK c p.1 q.1/\q.2=p.2) (behindNumber a) c (behindNumber g):=by
 unfold behindNumber;refine av.bind (Q:=λc a b=>gh (λp q:Addr×Bool=>dK c p.1 q.1/\q.2=p.2) a b) i ?_ λf x y e d=>by
  cases d with|none=>exact au ⟨h.mono e,rfl⟩|some k=>exact au k
 unfold numberAt;refine av.bind i (ni h.block) λf x y e d=> ?_
 subst d;cases x with
 |some x=>exact au .none|none=>
  refine av.bind e.ok (iB (e.le _ _ h.block)) λn o s r m=> ?_
  cases m with|number l j=>exact au (.some ⟨j,rfl⟩)|_=>exact au .none
end
section
variable{P:br} {S:nK}
def K5(t:cD)(a b:Addr):Sem Bool:=do
 let(a,b):=((<-behindNumber a).1,(<-behindNumber b).1)
 if a.block==b.block&&a.block<(<-program).globals.size then return (<-byteOf a)==(<-byteOf b)
 let .named "sync.copyChecker" _:=(<-typeInfo t).desc|unsupported .addressObserved
 if a==b then pure ak else unsupported .addressObserved
def SQ{g}(s:Ren.Ok P g)(t){a b m n}(u:dK g a m)(v:dK g b n):av P S kZ (K5 t a b) g (K5 t m n):=by
 unfold K5;refine av.bind s (jm s u) λD p C h hp=> ?_
 refine av.bind h.ok (jm h.ok (v.mono h)) λE q J o A=> ?_
 have e:=hp.1.mono o;have f:=A.1;refine av.bind o.ok gu λF r k c B=> ?_
 obtain⟨rfl,rfl⟩:=B;have e:=e.mono c;have f:=f.mono c;rename_i k;have w:decide (p.1.block<k.globals.size)=decide (C.1.block<k.globals.size):=decide_eq_decide.2 (c.ok.RA _ _ e.block);rw[xe c.ok e.block f.block,w];split;refine av.bind c.ok (oM c.ok e) λl x y d j=> ?_
 subst j;refine av.bind d.ok (oM d.ok (f.mono d)) λG x y H j=> ?_
 subst j;exact au rfl;refine av.bind c.ok (fl c.ok t) λl i I d z=> ?_
 obtain⟨rfl,_⟩:=z;rw[sy d.ok (e.mono d) (f.mono d)];split;split;exact au rfl;exact rfl;exact rfl
def Pv:∀d t{J}{x R y T},Ren.Ok P J->bz S J x R->bz S J y T->av P S kZ (Op.equalIn d t x y) J (Op.equalIn d t R T):=by
 intro d
 induction d with
 |zero=>intros;exact rfl|succ d N=>
  intro t J x R y T W l g;refine av.bind W (bE W t) λC ds ds' q hd=> ?_
  obtain⟨rfl,_⟩:=hd;have l:=l.mono q;have g:=g.mono q;cases ds with
  |bool=>cases l<;>first|exact rfl|(cases g<;>first|exact au rfl|exact rfl)
  |int k=>
   cases l with
   |int k a=>
    cases g with
    |int V b=>by_cases h:k=V;simp only[h,if_true];exact au rfl;simp only[h,if_false];exact rfl|pointer w=>rcases a with(_|n)|n<;>first|exact au rfl|exact rfl
    |fB=>rcases a with(_|n)|n<;>exact rfl
    |_=>exact rfl
   |pointer B=>
    cases g with
    |int V b=>rcases b with(_|n)|n<;>first|exact au rfl|exact rfl
    |pointer w=>exact SQ q.ok t B w|_=>exact rfl
   |fB=>cases g<;>exact rfl|_=>cases g<;>exact rfl
  |float k=>cases l<;>first|exact rfl|(cases g<;>exact rfl)
  |complex k=>cases l<;>first|exact rfl|(cases g<;>exact rfl)
  |string=>cases l<;>first|exact rfl|(cases g<;>first|exact au rfl|exact rfl)
  |pointer G=>
   cases l with
   |fB=>cases g<;>first|exact au rfl|exact rfl
   |pointer B=>
    cases g with
    |fB=>exact au rfl|pointer w=>
     refine av.bind q.ok (fK q.ok G) λE n n' o h=> ?_
     subst h;split;exact Be o.ok (B.mono o) (w.mono o);rw[sy o.ok (B.mono o) (w.mono o)];split;exact au rfl;exact av.bind o.ok (nz _) λz a b p h=>by subst h;exact au rfl
    |_=>exact rfl
   |_=>exact rfl
  |unsafePointer=>
   cases l with
   |fB=>cases g<;>first|exact au rfl|exact rfl
   |pointer B=>
    cases g with|fB=>exact au rfl|pointer w=>exact Be q.ok B w|_=>exact rfl
   |_=>exact rfl
  |chan dd G=>cases l<;>first|exact rfl|(cases g<;>first|exact au rfl|exact rfl)
  |interface ms=>
   cases l with
   |nilIface=>cases g<;>first|exact au rfl|exact rfl
   |iface O vx=>
    cases g with
    |nilIface=>exact au rfl|iface ty vy=>
     simp only;split;exact au rfl;refine av.bind q.ok (fl q.ok O) λE i i' o hi=> ?_
     obtain⟨rfl,_⟩:=hi;split;refine av.bind o.ok gu λz r X p H=> ?_
     obtain⟨rfl,rfl⟩:=H;refine av.bind p.ok gu λK r X u H=> ?_
     obtain⟨rfl,rfl⟩:=H;split;exact rfl;refine av.bind (Q:=kZ) u.ok (av.bind u.ok (fl u.ok O) λF j j' A hj=> ?_) λF s Y A h=> ?_
     obtain⟨rfl,_⟩:=hj;simp only;split;exact rfl;exact au rfl;subst h;exact iW A.ok _;exact N O o.ok (vx.mono o) (vy.mono o)
    |_=>exact rfl
   |_=>exact rfl
  |struct fs=>
   cases l with
   |agg D L=>
    cases g with
    |agg I M=>
     have l:cH S C _ _:=⟨D,L⟩;have g:cH S C _ _:=⟨I,M⟩;refine av.bind q.ok gu λE r X o H=> ?_
     obtain⟨rfl,rfl⟩:=H;split;exact rfl;refine av.bind (Q:=kZ) o.ok (AZ o.ok (λz p f s=> ?_) fs _) λz s Y p h=> ?_
     have e:=o.trans p;split;refine av.bind p.ok (nO p.ok _ (cH.mono e l) _) λK a Z u B=> ?_
     refine av.bind u.ok (nO u.ok _ (cH.mono (e.trans u) g) _) λF b b' A w=> ?_
     refine av.bind A.ok (N _ A.ok (B.mono A) w) λU c c' e6 h=> ?_
     subst h;cases c<;>exact au rfl;exact au rfl;subst h;obtain⟨D,I⟩:=s;cases D<;>exact au rfl
    |_=>exact rfl
   |_=>exact rfl
  |array n G=>
   cases l with
   |agg D L=>
    cases g with
    |agg I M=>
     have l:cH S C _ _:=⟨D,L⟩;have g:cH S C _ _:=⟨I,M⟩;refine av.bind q.ok (fK q.ok G) λE m m' o h=> ?_
     subst h;refine av.bind (Q:=kZ) o.ok (A7 o.ok (λz p f s=> ?_) _ _) λz s Y p h=> ?_
     have e:=o.trans p;refine av.bind p.ok (nO p.ok _ (cH.mono e l) _) λK a Z u B=> ?_
     refine av.bind u.ok (nO u.ok _ (cH.mono (e.trans u) g) _) λF b b' A w=> ?_
     refine av.bind A.ok (N _ A.ok (B.mono A) w) λU c c' e6 h=> ?_
     subst h;cases c<;>exact au rfl;subst h;obtain⟨D,I⟩:=s;cases D<;>exact au rfl
    |_=>exact rfl
   |_=>exact rfl
  |slice G=>cases l<;>first|exact rfl|(cases g<;>first|exact au rfl|exact rfl)
  |map k v=>cases l<;>first|exact rfl|(cases g<;>first|exact au rfl|exact rfl)
  |func a b c=>cases l<;>first|exact rfl|(cases g<;>first|exact au rfl|exact rfl)
  |_=>cases l<;>cases g<;>exact rfl
def Nl(t){a x b y c}(f:Ren.Ok P a)(d:bz S a x b)(e:bz S a y c):av P S kZ (Op.equal t x y) a (Op.equal t b c):=Pv _ t f d e
end
section
variable{P:br} {S:nK}
def ig.Nf{g j}{R:g->j->Prop}:∀{x}{y},dp R x y->ig R x.toArray y.toArray:=by
 intro x y h
 induction h with
 |nil=>exact⟨rfl,by simp⟩|cons a _ f=>
  refine⟨by simpa using f.size,λi c d b e=> ?_⟩;cases i with|zero=>simp at b e;subst b;subst e;exact a|succ i=>exact f.at_ i c d (by simpa using b) (by simpa using e)
def ig.Em{a b}{R:a->b->Prop}{x y}(h:dp R x.toList y.toList):ig R x y:=by have:=ig.Nf h;simpa using this
abbrev xY(S:nK)(a:Ren):Array MapEntry->Array MapEntry->Prop:=ig (nH S a)
abbrev Qm(S:nK)(a:Ren):List MapEntry->List MapEntry->Prop:=dp (nH S a)
abbrev Kn(S:nK)(c:Ren):Option (Nat×aB)->Option (Nat×aB)->Prop:=gh λa b=>b.1=a.1/\bz S c a.2 b.2
def dp.mono{f g}{R d:f->g->Prop}(h:∀a b,R a b->d a b){l m}(x:dp R l m):dp d l m:=by
 induction x with|nil=>exact .nil|cons c _ e=>exact .cons (h _ _ c) e
def Qm.mono{b a}(e:Ext P b a){l m}(x:Qm S b l m):Qm S a l m:=dp.mono (λ_ _ h=>h.mono e) x
def xY.mono{b a}(e:Ext P b a){l m}(x:xY S b l m):xY S a l m:=ig.mono x λ_ _ h=>h.mono e
def rK(b):∀n t{r}{v z},Ren.Ok P r->bz S r v z->av P S kZ (fH b n t v) r (fH b n t z):=by
 intro n
 induction n with
 |zero=>intros;exact rfl|succ n y=>
  intro t r v z B p;refine av.bind B (bE B t) λq E F g I=> ?_
  obtain⟨rfl,_⟩:=I;have p:=p.mono g;cases E with
  |interface V=>
   cases p with
   |nilIface=>exact au rfl|iface d L=>
    refine av.bind g.ok (fl g.ok d) λM i R o J=> ?_
    obtain⟨rfl,_⟩:=J;split;split;exact jo o.ok (.unhashable d) (.unhashable d) ⟨by simp,by simp⟩;refine av.bind (Q:=kZ) o.ok (av.bind o.ok (fl o.ok d) λl j T e K=> ?_) λl s C e h=> ?_
    obtain⟨rfl,_⟩:=K;simp only;split;exact rfl;exact au rfl;subst h;exact iW e.ok _;exact y d o.ok (L.mono o)
   |_=>exact rfl
  |array len H=>
   cases p with
   |agg s h=>
    have x:cH S q _ _:=⟨s,h⟩;refine av.bind (Q:=kZ) g.ok (A7 g.ok (λk c f s=> ?_) _ _) λk s C c h=>au rfl
    refine av.bind c.ok (fK c.ok H) λN m U u h=> ?_
    subst h;refine av.bind u.ok (nO u.ok _ (cH.mono (c.trans u) x) _) λl a D e w=> ?_
    exact av.bind e.ok (y _ e.ok w) λA _ _ G _=>au rfl
   |_=>exact rfl
  |struct O=>
   cases p with
   |agg s h=>
    have x:cH S q _ _:=⟨s,h⟩;refine av.bind (Q:=kZ) g.ok (AZ g.ok (λk c f s=> ?_) _ _) λk s C c h=>au rfl
    split;refine av.bind c.ok (nO c.ok _ (cH.mono c x) _) λl a D e w=> ?_
    exact av.bind e.ok (y _ e.ok w) λA _ _ G _=>au rfl
    exact au rfl
   |_=>exact rfl
  |_=>exact au rfl
def Ga(t):∀{l m}{c}{k f} i,Ren.Ok P c->Qm S c l m->bz S c k f->av P S (λc=>Kn S c) (Instr.findAsking t k l i) c (Instr.findAsking t f m i):=by
 intro l
 induction l with
 |nil=>intro m c k f i j h g;cases h;exact au .none|cons a l o=>
  intro m c k f i j h g;cases h with
  |cons d n=>
   refine av.bind j (Nl t j g d.key) λp b q e h=> ?_
   subst h;cases b with|true=>exact au (.some ⟨rfl,d.val.mono e⟩)|false=>exact o (i+1) e.ok (Qm.mono e n) (g.mono e)
def JC{g}(d){a e b f}(h:bz S g a e)(c:bz S g b f):Instr.sameNow d a b=Instr.sameNow d e f:=by
 cases h with|int=>cases d<;>cases c<;>rfl|string=>cases d<;>cases c<;>rfl|bool=>cases d<;>cases c<;>rfl|_=>cases d<;>rfl
def H'{c}(d){k e}(f:bz S c k e):∀{l m} i,Qm S c l m->gh (Kn S c) (Instr.findNow d k l i) (Instr.findNow d e m i):=by
 intro l
 induction l with
 |nil=>intro m i h;cases h;exact .some .none|cons a l j=>
  intro m i h;cases h with|cons b g=>unfold Instr.findNow;rw[JC d f b.key];split;exact .some (.some ⟨rfl,b.val⟩);exact j (i+1) g;exact .none
def xI{a}(f:Ren.Ok P a)(t){k c}(e:bz S a k c){l m}(h:Qm S a l m):av P S (λa=>Kn S a) (jw t k l) a (jw t c m):=by
 unfold jw;refine av.bind f (bE f t) λn d o b g=> ?_
 obtain⟨rfl,_⟩:=g;have:=H' d (e.mono b) 0 (Qm.mono b h);revert this;generalize Instr.findNow d k l 0=r;generalize Instr.findNow d c m 0=p;intro j;cases j with|none=>exact Ga t 0 b.ok (Qm.mono b h) (e.mono b)|some i=>exact au i
def y9{a l m}(h:xY S a l m):m.isEmpty=l.isEmpty:=by simp only[Array.isEmpty,h.size]
def wD{e:Ren}(O:pY P S)(n:Ren.Ok P e)(r A:cD){E l:aB}(L:bz S e E l)(c:Bool){B g:Array MapEntry}(h:xY S e B g):av P S (VQ S) (do
 fH B.isEmpty 10000 r E
 let(v,n)<-match<-jw r E B.toList with|some (_,v)=>pure (v,ak)|none=>pure (<-zeroValue A,aq)
 pure (if c then .tuple #[v,.bool n]else v)) e (do
 fH g.isEmpty 10000 r l
 let(v,n)<-match<-jw r l g.toList with|some (_,v)=>pure (v,ak)|none=>pure (<-zeroValue A,aq)
 pure (if c then .tuple #[v,.bool n]else v)):=by
 have o:∀(m:Ren)(v u:aB)(b:Bool),bz S m v u->bz S m (if c then .tuple #[v,.bool b]else v) (if c then .tuple #[u,.bool b]else u):=by
  intro m v u b t;cases c with
  |false=>exact t|true=>
   refine .tuple rfl λi x y d k=> ?_
   match i,d,k with|0,d,k=>simp at d k;subst d;subst k;exact t|1,d,k=>simp at d k;subst d;subst k;exact .bool _|i+2,d,_=>simp at d
 rw[y9 h];refine av.bind n (rK _ _ _ n L) λR _ _ s _=> ?_
 refine av.bind s.ok (xI s.ok r (L.mono s) (Qm.mono s (dp.lf h))) λT f U w C=> ?_
 cases C with
 |none=>
  refine av.bind w.ok (kB O w.ok A) λF z V M D=> ?_
  obtain⟨rfl,C⟩:=D;exact av.bind (Q:=λe a b=>b.2=a.2/\bz S e a.1 b.1) M.ok (au ⟨rfl,C F⟩) λG a b N j=>by obtain⟨H,I⟩:=a;obtain⟨J,K⟩:=b;obtain⟨p,q⟩:=j;simp only at p q;subst p;exact au (o _ _ _ _ q)
 |some t=>rename_i a b;obtain⟨H,I⟩:=a;obtain⟨J,K⟩:=b;exact av.bind (Q:=λe a b=>b.2=a.2/\bz S e a.1 b.1) w.ok (au ⟨rfl,t.2⟩) λG a b N j=>by obtain⟨H,I⟩:=a;obtain⟨J,K⟩:=b;obtain⟨p,q⟩:=j;simp only at p q;subst p;exact au (o _ _ _ _ q)
def SS{e}(q:pY P S)(u:Ren.Ok P e)(t){x v r h}(l:bz S e x v)(j:bz S e r h)(c):av P S (VQ S) (lC t x r c) e (lC t v h c):=by
 unfold lC;refine av.bind u (bE u t) λA d C i w=> ?_
 obtain⟨rfl,_⟩:=w;have l:=l.mono i;have j:=j.mono i;cases d with
 |map s p=>
  cases l with
  |uY=>exact av.bind (Q:=λe a b=>xY S e a b) i.ok (au ⟨rfl,by simp⟩) λm a b g f=>wD q g.ok s p (j.mono g) c f|map z=>
   refine av.bind i.ok (iB z) λm o D g y=> ?_
   cases y with|map cl k=>exact av.bind (Q:=λe a b=>xY S e a b) g.ok (au k) λB a b n f=>wD q n.ok s p (j.mono (g.trans n)) c f|_=>exact rfl
  |_=>exact rfl
 |_=>exact rfl
def Pz{k}(i:Ren.Ok P k)(t){r m}(h:gh (bz S k) r m):av P S (VQ S) (Instr.makeMap t r) k (Instr.makeMap t m):=by
 unfold Instr.makeMap;have n:∀{c:Ren},Ren.Ok P c->av P S (VQ S) (do pure (Value.map (af (<-newObj (.map #[] 0))))) c (do pure (Value.map (af (<-newObj (.map #[] 0))))):=λ{c} j=>av.bind j (Bc (.map 0 ⟨rfl,by simp⟩)) λl a b e g=>au (.map g)
 cases h with
 |none=>exact n i|some q=>
  refine av.bind i (bE i t) λc d s f p=> ?_
  obtain⟨rfl,_⟩:=p;cases d with|map v u=>exact av.bind f.ok (wB f.ok (q.mono f)) λl _ _ o _=>n o.ok|_=>exact rfl
end
section
variable{P:br} {S:nK}
def Mz{π f g}(d:∀a h b i,bz S π a h->bz S π b i->f (a,b)=g (h,i)):∀{x e y c},dp (bz S π) x e->dp (bz S π) y c->(x.zip y).all f=(e.zip c).all g:=by
 intro x e y c m
 induction m generalizing y c with
 |nil=>intro _;rfl|cons j _ o=>
  intro n;cases n with|nil=>rfl|cons k l=>simp only[List.zip_cons_cons,List.all_cons,d _ _ _ _ j k,o l]
def Gt{π}(j:Ren.Ok P π):∀n{a d b e},bz S π a d->bz S π b e->Instr.sameBits n a b=Instr.sameBits n d e:=by
 intro n
 induction n with
 |zero=>
  intro a d b e f c;cases f with
  |pointer x=>cases c with|pointer y=>show(af _==af _)=(af _==af _);rw[Option.some_beq_some,Option.some_beq_some];exact sy j x y|_=>rfl
  |fB=>cases c<;>rfl|bool|int|string|sG|nilIface=>cases c<;>rfl|_=>cases c<;>rfl
 |succ n i=>
  intro a d b e f c;cases f with
  |pointer x=>cases c with|pointer y=>show(af _==af _)=(af _==af _);rw[Option.some_beq_some,Option.some_beq_some];exact sy j x y|_=>rfl
  |iface t h=>cases c with|iface u k=>show(t==u&&_)=(t==u&&_);rw[i h k]|_=>rfl
  |agg s h=>cases c with|agg l m=>show(_==_&&List.all _ _)=(_==_&&List.all _ _);rw[s,l,Mz (S:=S) (π:=π) (g:=λ(x,y)=>Instr.sameBits n x y) (λa d b e f c=>i f c) (dp.lf ⟨s,h⟩) (dp.lf ⟨l,m⟩)]|_=>rfl
  |_=>cases c<;>rfl
def Ba{d}(k:Ren.Ok P d){a g b i}(j:bz S d a g)(f:bz S d b i):av P S (VQ S) (Instr.keyThatStays a b) d (Instr.keyThatStays g i):=by
 unfold Instr.keyThatStays;rw[Gt k _ j f];split;exact au f;refine av.bind k (nz _) λl c m e h=> ?_
 subst h;split;exact au (f.mono e);exact au (j.mono e)
def aaY{f d c}(h:xY S f d c)(i:Nat){k g}(j:bz S f k g):bz S f (((d[i]?).map (·.key)).getD k) (((c[i]?).map (·.key)).getD g):=by
 have:=h.opt i;revert this;generalize d[i]? =a;generalize c[i]? =b;intro e;cases e with|none=>exact j|some h=>exact h.key
def xY.modify{n p k}(h:xY S n p k)(i){f g}(o:∀a b,nH S n a b->nH S n (f a) (g b)):xY S n (p.modify i f) (k.modify i g):=by refine⟨by simp[h.size],λj a b m l=> ?_⟩;rw[bp]at m l;split at m;rename_i e;rw[if_pos e]at l;obtain⟨c,q,rfl⟩:=aG.1 m;obtain⟨d,r,rfl⟩:=aG.1 l;exact o _ _ (h.at_ j c d q r);rename_i e;rw[if_neg e]at l;exact h.at_ j a b m l
def dp.eraseIdx{d e}{R:d->e->Prop}{l m}(h:dp R l m):∀i,dp R (l.eraseIdx i) (m.eraseIdx i):=by
 induction h with
 |nil=>intro i;exact .nil|cons a b c=>
  intro i;cases i with|zero=>exact b|succ i=>exact .cons a (c i)
def xY.erase{c b a}(h:xY S c b a)(i):xY S c (b.eraseIdxIfInBounds i) (a.eraseIdxIfInBounds i):=by refine ig.Em ?_;rw[Array.toList_eraseIdxIfInBounds,Array.toList_eraseIdxIfInBounds];exact dp.eraseIdx (dp.lf h) i
def Jd{n}(B:Ren.Ok P n)(t){m A k z v C}(hm:bz S n m A)(j:bz S n k z)(w:bz S n v C):av P S kZ (Instr.mapUpdate t m k v) n (Instr.mapUpdate t A z C):=by
 unfold Instr.mapUpdate;refine av.bind B (bE B t) λI d T p E=> ?_
 obtain⟨rfl,_⟩:=E;cases d with
 |map H U=>
  cases hm.mono p with
  |uY=>exact jo p.ok (.plain _) (.plain _) ⟨by simp,by simp⟩|map l=>
   refine av.bind p.ok (iB l) λJ o W q G=> ?_
   cases G with
   |map cl c=>
    have e:=p.trans q;refine av.bind q.ok (rK _ _ _ q.ok (j.mono e)) λK _ _ h _=> ?_
    have e:=e.trans h;refine av.bind h.ok (xI h.ok H (j.mono e) (Qm.mono h (dp.lf c))) λL f V i F=> ?_
    have e:=e.trans i;have c:=xY.mono (h.trans i) c;have l:=(q.trans (h.trans i)).le _ _ l;cases F with
    |none=>exact lr l (.map _ (ig.push c ⟨j.mono e,w.mono e,rfl⟩))|some g=>
     rename_i a b;obtain⟨N,O⟩:=a;obtain⟨Q,R⟩:=b;obtain⟨u,D⟩:=g;simp only at u D;subst u;refine av.bind i.ok (Ba i.ok (aaY c _ (j.mono e)) (j.mono e)) λM x y r s=> ?_
     exact lr (r.le _ _ l) (.map _ (xY.modify (xY.mono r c) _ λa b g=>⟨s,w.mono (e.trans r),g.born⟩))
   |_=>exact rfl
  |_=>exact rfl
 |_=>exact rfl
def F8{s:Ren}(v:Ren.Ok P s)(g:cD){m x k q:aB}(hm:bz S s m x)(u:bz S s k q):av P S (VQ S) (do
 match m with
 |.map ah=>fH ak 10000 g k|.map (af r)=>
  let .map es clock<-getObj r|stuck "delete: map expected"
  fH es.isEmpty 10000 g k
  match<-jw g k es.toList with|some (i,_)=>setObj r (.map (es.eraseIdxIfInBounds i) clock)|none=>setObj r (.map es clock)
 |_=>stuck "delete: map expected"
 pure (.tuple #[])) s (do
 match x with
 |.map ah=>fH ak 10000 g q|.map (af r)=>
  let .map es clock<-getObj r|stuck "delete: map expected"
  fH es.isEmpty 10000 g q
  match<-jw g q es.toList with|some (i,_)=>setObj r (.map (es.eraseIdxIfInBounds i) clock)|none=>setObj r (.map es clock)
 |_=>stuck "delete: map expected"
 pure (.tuple #[])):=by
 have d:∀l,bz S l (.tuple #[]) (.tuple #[]):=λl=>.tuple rfl (by simp)
 cases hm with
 |uY=>exact av.bind v (rK _ _ _ v u) λB _ _ e _=>au (d _)|map j=>
  refine av.bind v (iB j) λC o K n A=> ?_
  cases A with
  |map cl c=>
   simp only[y9 c];refine av.bind n.ok (rK _ _ _ n.ok (u.mono n)) λD _ _ h _=> ?_
   have e:=n.trans h;refine av.bind h.ok (xI h.ok g (u.mono e) (Qm.mono h (dp.lf c))) λE f J p z=> ?_
   have e:=e.trans p;have c:=xY.mono (h.trans p) c;have j:=e.le _ _ j;cases z with|none=>exact av.bind p.ok (lr j (.map _ c)) λ_ _ _ e _=>au (d _)|some t=>rename_i a b;obtain⟨F,G⟩:=a;obtain⟨H,I⟩:=b;obtain⟨w,y⟩:=t;simp only at w y;subst w;exact av.bind p.ok (lr j (.map _ (xY.erase c _))) λ_ _ _ e _=>au (d _)
  |_=>exact rfl
 |_=>exact rfl
def DN(a:Array cD)(t:cD)(x:Array aB):kJ a t x=(match a[0]?,x[0]?,x[1]? with
 |some b,af m,af k=>do
  let .map kt _<-underlying b|stuck "delete: map type expected"
  match m with
  |.map ah=>fH ak 10000 kt k|.map (af r)=>
   let .map es clock<-getObj r|stuck "delete: map expected"
   fH es.isEmpty 10000 kt k
   match<-jw kt k es.toList with|some (i,_)=>setObj r (.map (es.eraseIdxIfInBounds i) clock)|none=>setObj r (.map es clock)
  |_=>stuck "delete: map expected"
  pure (.tuple #[])
 |_,_,_=>stuck "delete: two arguments expected"):=by
 unfold kJ;cases a[0]?<;>cases x[0]?<;>cases x[1]?<;>rfl
def SN{i}(j:Ren.Ok P i)(g t){x y}(h:cH S i x y):av P S (VQ S) (kJ g t x) i (kJ g t y):=by
 rw[DN,DN];have c:=h.opt 0;have e:=h.opt 1;revert c e;generalize x[0]? =a;generalize y[0]? =q;generalize x[1]? =b;generalize y[1]? =r;intro c e;cases g[0]? with
 |none=>cases c<;>cases e<;>exact rfl|some o=>
  cases c with
  |none=>exact rfl|some l=>
   cases e with
   |none=>exact rfl|some m=>
    refine av.bind j (bE j o) λp d s f k=> ?_
    obtain⟨rfl,_⟩:=k;cases d with|map n u=>exact F8 f.ok n (l.mono f) (m.mono f)|_=>exact rfl
def VS{g}(u:Ren.Ok P g)(t){x v}(l:bz S g x v):av P S (VQ S) (Instr.range t x) g (Instr.range t v):=by
 unfold Instr.range;have p:∀{c:Ren}{o i:Obj},Ren.Ok P c->jH S c o i->av P S (VQ S) (do let m<-pure o;pure (.pointer (af ⟨<-newObj m,0,ah⟩))) c (do let m<-pure i;pure (.pointer (af ⟨<-newObj m,0,ah⟩))):=λ{c o i} n k=>av.bind (Q:=λg a b=>jH S g a b) n (au k) λq a b e j=>av.bind e.ok (Bc j) λz r E B h=>au (.pointer ⟨h,rfl,rfl⟩)
 refine av.bind u (bE u t) λc d A f w=> ?_
 obtain⟨rfl,_⟩:=w;cases d with
 |string=>cases l.mono f<;>first|exact p f.ok (.stringIter _ _)|exact rfl
 |map D C=>
  cases l.mono f with
  |uY=>exact p f.ok (.mapIter _ _ _ .none)|map h=>
   refine av.bind f.ok (iB h) λq o i s k=> ?_
   cases k with|map cl y=>exact p s.ok (.mapIter _ _ _ (.some (s.le _ _ h)))|_=>exact rfl
  |_=>exact rfl
 |_=>cases l<;>exact rfl
end
section
variable{P:br} {S:nK}
def dp.filter{f g}{R:f->g->Prop}{p q}(d:∀a b,R a b->p a=q b){l m}(h:dp R l m):dp R (l.filter p) (m.filter q):=by
 induction h with|nil=>exact .nil|cons c _ e=>rw[List.filter_cons,List.filter_cons,d _ _ c];split;exact .cons c e;exact e
def dp.allEq{f g}{R:f->g->Prop}{p q}(d:∀a b,R a b->p a=q b){l m}(h:dp R l m):l.all p=m.all q:=by
 induction h with|nil=>rfl|cons c _ e=>rw[List.all_cons,List.all_cons,d _ _ c,e]
def dp.find{f g}{R:f->g->Prop}{p q}(d:∀a b,R a b->p a=q b){l m}(h:dp R l m):gh R (l.find? p) (m.find? q):=by
 induction h with|nil=>exact .none|cons c _ e=>rw[mm,mm,d _ _ c];split;exact .some c;exact e
def xY.filter{d p q}(c:∀a b,nH S d a b->p a=q b){l m}(h:xY S d l m):xY S d (l.filter p) (m.filter q):=by refine ig.Em ?_;rw[Array.toList_filter,Array.toList_filter];exact dp.filter c (dp.lf h)
def ig.append{j l}{R:j->l->Prop}{x y f g}(h:ig R x f)(k:ig R y g):ig R (x++y) (f++g):=by refine⟨by simp[h.size,k.size],λi a b d c=> ?_⟩;rw[Array.getElem?_append]at d c;rw[<-h.size]at c;split at d;rename_i e;rw[if_pos e]at c;exact h.at_ i a b d c;rename_i e;rw[if_neg e]at c;exact k.at_ _ a b d c
def ig.map{o p q r R j}{f:o->q}{g:p->r}(e:∀a b,R a b->j (f a) (g b)){x y}(h:ig R x y):ig j (x.map f) (y.map g):=by refine⟨by simp[h.size],λi a b k l=> ?_⟩;rw[gd]at k l;obtain⟨c,m,rfl⟩:=aG.1 k;obtain⟨d,n,rfl⟩:=aG.1 l;exact e _ _ (h.at_ i c d m n)
def ZB{e a d}(h:bz S e a d):bz S e (.tuple #[a]) (.tuple #[d]):=by
 refine .tuple rfl λi x y b c=> ?_
 match i,b,c with|0,b,c=>simp at b c;subst b;subst c;exact h|i+1,b,_=>simp at b
def acv{e a f b g}(h:bz S e a f)(k:bz S e b g):bz S e (.tuple #[a,b]) (.tuple #[f,g]):=by
 refine .tuple rfl λi x y c d=> ?_
 match i,c,d with|0,c,d=>simp at c d;subst c;subst d;exact h|1,c,d=>simp at c d;subst c;subst d;exact k|i+2,c,_=>simp at c
def abl{f a g b j c m}(h:bz S f a g)(k:bz S f b j)(l:bz S f c m):bz S f (.tuple #[a,b,c]) (.tuple #[g,j,m]):=by
 refine .tuple rfl λi x y d e=> ?_
 match i,d,e with|0,d,e=>simp at d e;subst d;subst e;exact h|1,d,e=>simp at d e;subst d;subst e;exact k|2,d,e=>simp at d e;subst d;subst e;exact l|i+3,d,_=>simp at d
def FL(r m b:Nat)(c:Array Nat)(d:Nat):Sem aB:=do
 let .map es clock<-getObj m|stuck "Next: map expected"
 if !c.isEmpty&& !es.isEmpty&&es.all (·.born≥d)then unsupported (.noEntry "instr/Next: every entry that the ranged map held at the last iteration is gone, and it holds new ones")
 let left:=es.filter λe=> !c.contains e.born
 let old:=left.filter (·.born<b)
 let new:=left.filter (·.born≥b)
 let a:=(if old.isEmpty then #[ah]else #[])++(old++new).map af
 match a[<-choose (.mapNext a.size)]? with
 |some (af e)=>
  setObj r (.mapIter (af m) b (c.push e.born) clock)
  pure (.tuple #[.bool ak,e.key,e.val])
 |some ah=>pure (.tuple #[.bool aq])|none=>stuck "Next: no such candidate"
def PD{D}(R:Ren.Ok P D){r L m K}(Q:D r L)(hm:D m K)(d f j):av P S (VQ S) (FL r m d f j) D (FL L K d f j):=by
 unfold FL;refine av.bind R (iB hm) λw o X H J=> ?_
 cases J with
 |map cl s=>
  rename_i A l;have u:A.all (·.born≥j)=l.all (·.born≥j):=by rw[<-Array.all_toList,<-Array.all_toList];exact dp.allEq (λa b h=>by simp only[h.born]) (dp.lf s)
  simp only[y9 s,u];split;exact rfl;have k:xY S w (A.filter λe=> !f.contains e.born) (l.filter λe=> !f.contains e.born):=xY.filter (λa b h=>by simp only[h.born]) s;have hold:=xY.filter (p:=λx=>decide (x.born<d)) (q:=λx=>decide (x.born<d)) (λa b h=>by simp only[h.born]) k;have v:=xY.filter (p:=λx=>decide (x.born≥d)) (q:=λx=>decide (x.born≥d)) (λa b h=>by simp only[h.born]) k;simp only[<-y9 hold];generalize J:(A.filter λe=> !f.contains e.born).filter (λx=>decide (x.born<d))=old at*;generalize O:(l.filter λe=> !f.contains e.born).filter (λx=>decide (x.born<d))=g at*;generalize W:(A.filter λe=> !f.contains e.born).filter (λx=>decide (x.born≥d))=new at*;generalize N:(l.filter λe=> !f.contains e.born).filter (λx=>decide (x.born≥d))=n at*;have C:ig (gh (nH S w)) ((if g.isEmpty then #[ah]else #[])++(old++new).map af) ((if g.isEmpty then #[ah]else #[])++(g++n).map af):=by
   refine ig.append ?_ (ig.map (λa b h=>.some h) (ig.append hold v));split;refine⟨rfl,λi a b t B=> ?_⟩
   match i,t,B with|0,t,B=>simp at t B;subst t;subst B;exact .none|i+1,t,_=>simp at t
   exact⟨rfl,by simp⟩
  generalize (if g.isEmpty then #[ah]else #[])++(old++new).map af=M at C;generalize (if g.isEmpty then #[ah]else #[])++(g++n).map af=E at C;rw[<-C.size];refine av.bind H.ok (nz _) λT c V z h=> ?_
  subst h;have:=C.opt c;revert this;generalize M[c]? =x;generalize E[c]? =y;intro G;cases G with
  |none=>exact rfl|some F=>
   cases F with
   |none=>exact au (ZB (.bool _))|some h=>
    have e:=H.trans z;simp only;rw[h.born];refine av.bind z.ok (lr (e.le _ _ Q) (.mapIter _ _ _ (.some (e.le _ _ hm)))) λU _ _ I _=> ?_
    exact au (abl (.bool _) (h.key.mono (z.trans I)) (h.val.mono (z.trans I)))
 |_=>exact rfl
def Zq{i}(w:Ren.Ok P i)(c t){x l}(u:bz S i x l):av P S (VQ S) (Instr.next x c t) i (Instr.next l c t):=by
 unfold Instr.next;cases u with
 |pointer m=>
  rename_i a b;obtain⟨r,v,E⟩:=a;obtain⟨D,e,y⟩:=b;obtain⟨h,j,k⟩:=m;simp only at h j k;subst j;subst k;cases e with
  |succ n=>exact rfl|zero=>
   refine av.bind w (iB h) λz o C g q=> ?_
   cases q with
   |stringIter s p=>
    cases c with
    |false=>exact rfl|true=>
     simp only;split;exact av.bind g.ok (lr (g.le _ _ h) (.stringIter _ _)) λA _ _ B _=>au (abl (.bool _) (.int _ _) (.int _ _))
     exact au (ZB (.bool _))
   |mapIter d f mj hm=>
    cases c with
    |true=>cases hm<;>exact rfl|false=>
     cases hm with|none=>exact au (ZB (.bool _))|some hm=>exact PD g.ok (g.le _ _ h) hm d f mj
   |_=>cases c<;>exact rfl
 |_=>exact rfl
def VN{l}(E:Ren.Ok P l){x u}(B:bz S l x u):av P S (VQ S) (Instr.entry x) l (Instr.entry u):=by
 unfold Instr.entry;cases B with
 |pointer A=>
  rename_i a b;obtain⟨r,D,K⟩:=a;obtain⟨J,d,F⟩:=b;obtain⟨m,s,t⟩:=A;simp only at m s t;subst s;subst t;cases d with
  |succ n=>exact rfl|zero=>
   refine av.bind E (iB m) λG o C v i=> ?_
   cases i with
   |mapIter k e mj hm=>
    cases hm with
    |none=>exact rfl|some hm=>
     simp only;cases e.back? with
     |none=>exact rfl|some c=>
      refine av.bind v.ok (iB hm) λH o C I i=> ?_
      cases i with
      |map cl g=>
       rename_i w f;simp only;split;exact rfl;have:=dp.find (p:=λx:MapEntry=>x.born==c) (q:=λx:MapEntry=>x.born==c) (λa b h=>by simp only[h.born]) (dp.lf g);rw[Array.find?_toList,Array.find?_toList]at this;revert this;generalize w.find? (λx=>x.born==c)=y;generalize f.find? (λx=>x.born==c)=z;intro j;cases j with|none=>exact rfl|some h=>exact au (acv h.key h.val)
      |_=>exact rfl
   |_=>exact rfl
 |_=>exact rfl
def F7{f}(h:Ren.Ok P f)(s d)(m:∃k,P.underlying d=af (.int k))(n:∃k,P.underlying s=af (.int k)){x i}(o:bz S f x i):av P S (VQ S) (convert s d x) f (convert s d i):=by
 unfold convert;obtain⟨v,j⟩:=n;obtain⟨w,l⟩:=m;refine av.bind h (bE h s) λp a r g c=> ?_
 obtain⟨rfl,c⟩:=c;refine av.bind g.ok (bE g.ok d) λq b t u e=> ?_
 obtain⟨rfl,e⟩:=e;rw[j]at c;rw[l]at e;obtain rfl:=aX c;obtain rfl:=aX e;cases o with
 |_=>first|exact rfl|exact au (.int _ _)
end
section
variable{P:br} {S:nK}
def pg{f}(k:Ren.Ok P f)(t){p l}(hp:gh (dK f) p l){y m}(s:bz S f y m):av P S (VQ S) (Builtin.unsafeAdd_ #[] t #[.pointer p,y]) f (Builtin.unsafeAdd_ #[] t #[.pointer l,m]):=by
 unfold Builtin.unsafeAdd_;refine av.bind k (wB k s) λu n w d h=> ?_
 subst h;have g:=gh.addr d hp;clear hp;cases g with
 |none=>by_cases b:n=0;simp only[b,if_true];exact rfl;simp only[b,if_false];by_cases c:n<0;simp only[c,if_true];exact rfl;simp only[c,if_false];exact rfl|some a=>
  by_cases b:n=0;simp only[b,if_true];refine av.bind d.ok (Jf d.ok a.block) λj x y e i=> ?_
  obtain⟨rfl,rfl⟩:=i;exact au (.pointer (a.mono e));simp only[b,if_false];by_cases c:n<0;simp only[c,if_true];exact rfl;simp only[c,if_false];refine av.bind d.ok (ni a.block) λj x y e i=> ?_
  subst i;cases x with
  |none=>exact rfl|some x=>
   refine av.bind e.ok gu λv r z o q=> ?_
   obtain⟨rfl,rfl⟩:=q;simp only[a.off];split;exact au (.pointer ⟨((a.mono e).mono o).block,rfl,a.spot⟩);exact rfl
def j3{g}(z:Ren.Ok P g)(t){p A}(hp:gh (dK g) p A){y o}(x:bz S g y o):av P S (VQ S) (movedNumber t (.pointer p) y) g (movedNumber t (.pointer A) o):=by
 unfold movedNumber;refine av.bind z (bE z t) λq d Q f F=> ?_
 obtain⟨rfl,_⟩:=F;cases hp with
 |none=>have m:=pg (S:=S) f.ok t .none (x.mono f);cases d<;>first|exact rfl|exact m
 |some D=>
  rename_i a B;have m:av P S (VQ S) (do
   let(a,lost)<-behindNumber a
   match<-Builtin.unsafeAdd_ #[] t #[.pointer (af a),y]with
   |.pointer (af b)=>asNumber b lost|v=>pure v) q (do
   let(a,lost)<-behindNumber B
   match<-Builtin.unsafeAdd_ #[] t #[.pointer (af a),o]with
   |.pointer (af b)=>asNumber b lost|v=>pure v):=by
   refine av.bind f.ok (jm f.ok (D.mono f)) λI a b i j=> ?_
   obtain⟨L,M⟩:=a;obtain⟨N,O⟩:=b;obtain⟨u,w⟩:=j;simp only at u w;subst w;refine av.bind i.ok (pg i.ok t (.some u) ((x.mono f).mono i)) λJ v U C H=> ?_
   cases H with|pointer E=>refine av.bind C.ok (Bc (.number _ E)) λK r T R G=>au (.pointer ⟨G,rfl,rfl⟩)|fB=>exact au .fB|bool b=>exact au (.bool b)|int k n=>exact au (.int k n)|string s=>exact au (.string s)|jr l c=>exact au (.jr l c)|slice l c h=>exact au (.slice l c h)|uY=>exact au .uY|map h=>exact au (.map h)|sG=>exact au .sG|func a b c d e=>exact au (.func a b c d e)|nilFunc=>exact au .nilFunc|iface t h=>exact au (.iface t h)|nilIface=>exact au .nilIface|agg a b=>exact au (.agg a b)|tuple a b=>exact au (.tuple a b)
  cases d<;>first|exact rfl|exact m
def th{c}(g:Ren.Ok P c)(t){p j}(hp:gh (dK c) p j){y m}(i:bz S c y m):av P S (VQ S) (movedPointer t (.pointer p) y) c (movedPointer t (.pointer j) m):=by
 unfold movedPointer;cases hp with
 |none=>exact pg g t .none i|some d=>
  refine av.bind (Q:=λc a b=>gh (λp q:Addr×Bool=>dK c p.1 q.1/\q.2=p.2) a b) g ?_ λh x y e f=> ?_
  unfold numberAt;refine av.bind g (ni d.block) λh x y e f=> ?_
  subst f;cases x with
  |some x=>exact au .none|none=>
   refine av.bind e.ok (iB (e.le _ _ d.block)) λr o u s n=> ?_
   cases n with|number l d=>exact au (.some ⟨d,rfl⟩)|_=>exact au .none
  cases f with|none=>exact pg e.ok t (.some (d.mono e)) (i.mono e)|some k=>exact rfl
def yD{f}(q:Ren.Ok P f){a b d e}(m:dK f a d)(n:dK f b e):av P S kZ (Op.twoPlaces a b) f (Op.twoPlaces d e):=by
 unfold Op.twoPlaces;refine av.bind q gu λs r l c p=> ?_
 obtain⟨rfl,rfl⟩:=p;have h:=m.mono c;have k:=n.mono c;have o:decide (a.block≥l.globals.size)=decide (d.block≥l.globals.size):=decide_eq_decide.2 (by have:=c.ok.RA _ _ h.block;omega);have i:(a.block !=b.block)=(d.block !=e.block):=by show(!(a.block==b.block))=(!(d.block==e.block));rw[xe c.ok h.block k.block]
 rw[i,o];split;exact rfl;refine av.bind c.ok (oM c.ok h) λt x y g j=> ?_
 subst j;refine av.bind g.ok (oM g.ok (k.mono g)) λu x y v j=> ?_
 subst j;exact au rfl
def Pq{c}(g:Ren.Ok P c)(k){a b d f}(i:dK c a d)(j:dK c b f):av P S (VQ S) (Op.addrSub k a b) c (Op.addrSub k d f):=av.bind g (yD g i j) λl p q e h=>by subst h;exact au (.int _ _)
def Pp{c}(g:Ren.Ok P c)(op){a b d f}(i:dK c a d)(j:dK c b f):av P S (VQ S) (Op.addrCmp op a b) c (Op.addrCmp op d f):=av.bind g (yD g i j) λk p q e h=>by subst h;cases op<;>first|exact au (.bool _)|exact rfl
def Ev{c}(l:Ren.Ok P c)(k){a d}(f:dK c a d)(n):av P S (VQ S) (Op.addrMod k a n) c (Op.addrMod k d n):=by
 unfold Op.addrMod;refine av.bind l (ni f.block) λm x y e j=> ?_
 subst j;cases x with
 |none=>exact rfl|some x=>
  refine av.bind e.ok (fl e.ok _) λo i r b g=> ?_
  obtain⟨rfl,_⟩:=g;simp only;split;exact rfl;exact av.bind b.ok (oM b.ok (f.mono (e.trans b))) λp x y q h=>by subst h;exact au (.int _ _)
def NI{d s g}(i:Ren.Ok P d)(h:av P S kZ s d g)(f:Bool->Bool):av P S (VQ S) (do pure (.bool (f (<-s)))) d (do pure (.bool (f (<-g)))):=av.bind i h λj a b e c=>by subst c;exact au (.bool _)
def SM{d}(l:Ren.Ok P d){a b f g}(q:dK d a f)(r:dK d b g){s t Q}{k:Addr->Addr->Sem s}{j:Addr->Addr->Sem t}(h:∀c x y m n,Ext P d c->dK c x m->dK c y n->av P S Q (k x y) c (j m n)):av P S Q (do k (<-behindNumber a).1 (<-behindNumber b).1) d (do j (<-behindNumber f).1 (<-behindNumber g).1):=av.bind l (jm l q) λ_ _ _ e o=>av.bind e.ok (jm e.ok (r.mono e)) λ_ _ _ i p=>h _ _ _ _ _ (e.trans i) (o.1.mono i) p.1
def Xu{c}(f:Ren.Ok P c){a d}(l:dK c a d){m n Q}{k:Addr->Sem m}{e:Addr->Sem n}(h:∀b x g,Ext P c b->dK b x g->av P S Q (k x) b (e g)):av P S Q (do k (<-behindNumber a).1) c (do e (<-behindNumber d).1):=av.bind f (jm f l) λ_ _ _ i j=>h _ _ _ i j.1
def VK{m}(i:Ren.Ok P m)(op t){x l y u}(B:bz S m x l)(r:bz S m y u):av P S (VQ S) (binOp op t x y) m (binOp op t l u):=by
 have s:av P S kZ (Op.equal t x y) m (Op.equal t l u):=Nl t i B r;have c:=NI i s id;have f:=NI i s (!·);cases B with
 |int k a=>
  cases r with
  |int D b=>
   cases op<;>first
    |(simp only[binOp];exact VT i _ _ _ _ _)
    |(by_cases h:k=D
      subst h;simp only[binOp,ne_eq,not_true_eq_false,if_false];first|exact A8 _ _ _ _|exact SP i _ _ _ _|exact EB _ _ _ _|exact SO _ _ _
      simp only[binOp,ne_eq,h,not_false_eq_true,if_true];exact rfl)
  |pointer q=>cases op<;>first|exact rfl|exact c|exact f|exact j3 i t (.some q) (.int _ _)|exact Xu i q λo x l e h=>Ev e.ok _ h _
  |fB=>cases op<;>first|exact rfl|exact c|exact f|exact j3 i t .none (.int _ _)
  |_=>cases op<;>first|exact rfl|exact c|exact f
 |string a=>
  cases r with
  |string b=>cases op<;>(simp only[binOp];exact vg _ _ _)|pointer q=>cases op<;>first|exact rfl|exact c|exact f
  |fB=>cases op<;>first|exact rfl|exact c|exact f
  |_=>cases op<;>first|exact rfl|exact c|exact f
 |pointer p=>
  have g:∀k n,av P S (VQ S) (do if(<-underlying t) matches .unsafePointer then movedPointer t (.pointer (af _)) (.int k n)else movedNumber t (.pointer (af _)) (.int k n)) m (do if(<-underlying t) matches .unsafePointer then movedPointer t (.pointer (af _)) (.int k n)else movedNumber t (.pointer (af _)) (.int k n)):=λk n=>by
   refine av.bind i (bE i t) λA d C j z=> ?_
   obtain⟨rfl,_⟩:=z;cases d<;>first|exact j3 j.ok t (.some (p.mono j)) (.int _ _)|(simp only[if_true];exact th j.ok t (.some (p.mono j)) (.int _ _))
  cases r with
  |int k b=>cases op<;>first|exact rfl|exact c|exact f|exact g _ _|exact j3 i t (.some p) (.int _ _)|exact Xu i p λo x l e h=>Ev e.ok _ h _
  |pointer q=>cases op<;>first|exact rfl|exact c|exact f|exact SM i p q λo x y l u e v w=>Pq e.ok _ v w|exact SM i p q λo x y l u e v w=>Pp e.ok _ v w
  |fB=>cases op<;>first|exact rfl|exact c|exact f
  |_=>cases op<;>first|exact rfl|exact c|exact f
 |fB=>
  have g:∀k n,av P S (VQ S) (do if(<-underlying t) matches .unsafePointer then movedPointer t (.pointer ah) (.int k n)else movedNumber t (.pointer ah) (.int k n)) m (do if(<-underlying t) matches .unsafePointer then movedPointer t (.pointer ah) (.int k n)else movedNumber t (.pointer ah) (.int k n)):=λk n=>by
   refine av.bind i (bE i t) λA d C j z=> ?_
   obtain⟨rfl,_⟩:=z;cases d<;>first|exact j3 j.ok t .none (.int _ _)|(simp only[if_true];exact th j.ok t .none (.int _ _))
  cases r with
  |int k b=>cases op<;>first|exact rfl|exact c|exact f|exact g _ _|exact j3 i t .none (.int _ _)
  |_=>cases op<;>first|exact rfl|exact c|exact f
 |_=>cases op<;>first|exact c|exact f|(cases r<;>exact rfl)
end
inductive Kd
 |any
 |sl (e:cD)
 |pt (e:cD)
def Kd.TV:Kd->Kd->Bool|.any,.any=>ak|.sl a,.sl b=>a==b|.pt a,.pt b=>a==b|_,_=>aq
def Kd.vM:∀{a b:Kd},a.TV b=ak->a=b|.any,.any,_=>rfl|.sl a,.sl b,h=>by rw[show a=b by simpa[Kd.TV]using h]|.pt a,.pt b,h=>by rw[show a=b by simpa[Kd.TV]using h]
structure h9 where
 fn:eu->Bool
 int:cD->Bool
 bad:List Tmp:=[]
 kc:Tmp->Kd:=λ_=>.any
 bd:eu->List Tmp:=λ_=>[]
 kd:eu->Tmp->Kd:=λ_ _=>.any
 old:Nat:=0
 mem:Addr->Option Int:=λ_=>ah
 FG:∀a x,mem a=af x->a.block<old:=by intro a x h;simp at h
 elem:cD->Option cD:=λ_=>ah
 flat:cD->Option Nat:=λ_=>ah
 ext:eu->Bool:=λ_=>aq
def h9.cl(c:h9):h9:={c with bad:=[],kc:=λ_=>.any}
def h9.at(c:h9)(f:eu):h9:={c with bad:=c.bd f,kc:=c.kd f}
def zx(c:h9)(e:cD)(a:Addr):Prop:=a.spot=ah/\∃n,c.flat e=af n/\∀j,j<n->∃x,c.mem ⟨a.block,a.off+j,ah⟩=af x
def kY(c:h9):Kd->aB->Prop
 |.any,_=>True|.sl e,v=>∃a n k,v=.slice (af a) n k/\∀m,c.flat e=af m->∀i,i<n->zx c e (a.add (i*m))
 |.pt e,v=>∃a,v=.pointer (af a)/\zx c e a
def fU:Nat->aB->Bool|_,.bool _|_,.int ..|_,.string _|_,.pointer ah|_,.slice ah _ _|_,.map ah|_,.chan ah|_,.nilFunc|_,.nilIface=>ak|n+1,.agg c|n+1,.tuple c=>c.all (fU n)|n+1,.iface _ v=>fU n v|_,_=>aq
def ew(c:h9):Operand->Bool|.tmp t=> !c.bad.contains t|.const v=>fU 4 v|.global _=>aq|.func f=>c.fn f
def En:Builtin->Bool|.append|.cap|.copy|.delete|.len|.max|.min=>ak|_=>aq
def rX(c:h9)(f:eu)(j:Nat)(x:Operand):Bool:=
 ew c x||match x with|.tmp t=>c.bad.contains t&&(c.bd f).contains j&&((c.kd f j).TV .any||(c.kd f j).TV (c.kc t))|_=>aq
def j8(c:h9)(f:eu):Nat->List Operand->Bool|_,[]=>ak|j,x::l=>rX c f j x&&j8 c f (j+1) l
def nM(c:h9)(k:Call):Bool:=
 match k.callee with|.builtin b=>En b&&k.args.all (ew c)|.invoke _ _=>aq|.value (.func f)=>(c.fn f&&j8 c f 0 k.args.toList)||(c.ext f&&k.args.all (ew c))|.value f=>ew c f&&k.args.all (ew c)
def n9(c:h9):Op->Bool|.move x|.assign x|.box _ x|.load _ x|.nilCheck x|.unOp _ _ x|.fieldAddr _ x _|.field _ x _|.range _ x|.next x _|.entry x|.extract x _=>ew c x|.pick x a b=>ew c x&&ew c a&&ew c b|.alloc _=>ak|.build _ g|.buildSlice _ _ g=>g.all λq=>ew c q.2|.store _ a v|.binOp _ _ a v _|.makeSlice _ a v|.indexAddr _ a v|.index _ a v|.lookup _ a v _=>ew c a&&ew c v|.convert s d x=>c.int s&&c.int d&&ew c x|.makeFunc f first e=>(match f with|.func f=>c.fn f|_=>aq)&&first.all (ew c)&&e.all (ew c)|.makeMap _ r=>r.all (ew c)|.slice _ x l h m=>ew c x&&l.all (ew c)&&h.all (ew c)&&m.all (ew c)|.mapUpdate _ m k v=>ew c m&&ew c k&&ew c v|.call k=>nM c k|.makeInterface _ x=>ew c x|.typeAssert x _ _ b=> !b&&ew c x|_=>aq
def zV(c:h9)(o:Oper)(k:Kd):Bool:=match o.dst with|some d=>c.bad.contains d&&((c.kc d).TV .any||(c.kc d).TV k)|none=>aq
def yU(c:h9)(o:Oper):Bool:=match o.op with|.move (.tmp t)=>c.bad.contains t&&zV c o (c.kc t)|.load e (.tmp t)=>c.bad.contains t&&(c.kc t).TV (.pt e)|.indexAddr s (.tmp t) i=>c.bad.contains t&&ew c i&&(match c.elem s with|some e=>(c.kc t).TV (.sl e)&&zV c o (.pt e)|none=>aq)|.call k=>(match k.callee with|.builtin .len=>ak|_=>aq)&&(match k.args.toList,k.argTypes.toList with|[.tmp t],[s]=>c.bad.contains t&&(match c.elem s with|some e=>(c.kc t).TV (.sl e)|none=>aq)|_,_=>aq)|_=>aq
def jh(c:h9)(o:Oper):Bool:=n9 c o.op||yU c o
def dm(c:h9):Code->Bool|.skip|.exit _|.ret=>ak|.region _ d _=>d.all (jh c)|.seq a b=>dm c a&&dm c b|.cond x a b=>ew c x&&dm c a&&dm c b|.block _ b|.loop b|.scope b=>dm c b|.rangeFunc f _ a b=>c.bad.isEmpty&&ew c f&&dm c a&&dm c b|.label _|.goto _|.refuse _=>aq
def h9.sig(c:h9):nK:={fn:=λf=>c.fn f=ak,code:=λx=>dm c.cl x=ak,RA:=λ_=>False,mem:=c.mem,ext:=λf=>c.ext f=ak}
def pf(b:List Tmp):ResultVar->Bool|.tmp t=> !b.contains t|.cell a _=> !b.contains a
structure h9.Fits(c:h9) (P:br):Prop where
 fn:∀f,c.fn f=ak->∃F b,P.funcs[f]? =af F/\F.body=af b/\dm (c.at f) b=ak/\F.name≠ "runtime.NumGoroutine" /\F.results.toList.all (pf (c.bd f))=ak
 int:∀t,c.int t=ak->∃k,P.underlying t=af (.int k)
 zero:∀t i v,P.info? t=af i->i.zero=af v->fU 6 v=ak
 elem:∀t e,c.elem t=af e->P.underlying t=af (.slice e)/\∃n,c.flat e=af n
 flat:∀t n,c.flat t=af n->(∃i,P.info? t=af i/\i.size=n)/\∃fs,P.underlying t=af (.struct fs)
 ext:∀f,c.ext f=ak->∃F,P.funcs[f]? =af F/\F.name≠ "runtime.NumGoroutine" /\F.body=ah/\Extern.findNext F=ah/\Extern.find F=af Extern.MapsClone.clone
section
variable{P:br} {c:h9}
def tN{S}:∀n v,fU n v=ak->xZ S v:=by
 intro n
 induction n with
 |zero=>
  intro v h d;cases v with
  |bool b=>exact .bool b|int k n=>exact .int k n|string s=>exact .string s|pointer p=>cases p<;>first|exact .fB|cases h
  |slice p l c=>cases p<;>first|exact .jr l c|cases h
  |map p=>cases p<;>first|exact .uY|cases h
  |chan p=>cases p<;>first|exact .sG|cases h
  |nilFunc=>exact .nilFunc|nilIface=>exact .nilIface|_=>cases h
 |succ n g=>
  intro v h d;have arr:∀c:Array aB,c.all (fU n)=ak->∀(i:Nat) a b,c[i]? =af a->c[i]? =af b->bz S d a b:=by intro c j i a b e f;rw[e]at f;obtain rfl:=aX f;obtain⟨m,rfl⟩:=aC.1 e;exact g _ (eP.1 j i m) d
  cases v with
  |bool b=>exact .bool b|int k n=>exact .int k n|string s=>exact .string s|pointer p=>cases p<;>first|exact .fB|cases h
  |slice p l c=>cases p<;>first|exact .jr l c|cases h
  |map p=>cases p<;>first|exact .uY|cases h
  |chan p=>cases p<;>first|exact .sG|cases h
  |nilFunc=>exact .nilFunc|nilIface=>exact .nilIface|agg x=>exact .agg rfl (arr x h)|tuple x=>exact .tuple rfl (arr x h)|iface t v=>exact .iface t (g v h d)|_=>cases h
def h9.Fits.cl(a:c.Fits P):c.cl.Fits P:=⟨a.fn,a.int,a.zero,a.elem,a.flat,a.ext⟩
def h9.Fits.at(a:c.Fits P)(f):(c.at f).Fits P:=⟨a.fn,a.int,a.zero,a.elem,a.flat,a.ext⟩
def h9.Fits.jE(a:c.Fits P):pY P c.sig:=λt i v h k=>tN 6 v (a.zero t i v h k)
structure sn(c:h9) (f:eu) (π:Ren) (a a':Array aB):Prop where
 size:a.size=a'.size
 at_:∀(j:Nat) u v,a[j]? =af u->a'[j]? =af v->bz c.sig π u v\/(j∈c.bd f/\u=v/\kY c (c.kd f j) u)
def sn.of{f d a b}(h:cH c.sig d a b):sn c f d a b:=⟨h.size,λj u v e g=>.inl (h.at_ j u v e g)⟩
def sn.mono{f g b}(e:Ext P g b){a d}(h:sn c f g a d):sn c f b a d:=⟨h.size,λj u v i k=>(h.at_ j u v i k).imp (·.mono e) id⟩
inductive zC(c:h9) (π:Ren):Next->Next->Prop
 |value {v v'}:bz c.sig π v v'->zC c π (.value v) (.value v')
 |skip:zC c π .skip .skip
 |enter {f a a'}:c.fn f=ak->sn c f π a a'->zC c π (.enter f a) (.enter f a')
 |round {l l' f t t' a b}:π l l'->cH c.sig π t t'->c.sig.code a->c.sig.code b->zC c π (.round l f t a b) (.round l' f t' a b)
abbrev NQ(c:h9):Ren->Next->Next->Prop:=λd a b=>zC c d a b
def lY(c:h9)(b:Ren)(d a:Operand->aB):Prop:=∀o,ew c o=ak->bz c.sig b (d o) (a o)
def lY.arr{k l d}(h:lY c k l d){f:Array Operand}(n:f.all (ew c)=ak):cH c.sig k (f.map l) (f.map d):=by refine⟨by simp,λi a b g e=> ?_⟩;rw[gd]at g e;obtain⟨o,j,rfl⟩:=aG.1 g;rw[j]at e;obtain rfl:=aX e;obtain⟨m,rfl⟩:=aC.1 j;exact h _ (eP.1 n i m)
def lY.opt{b d a}(h:lY c b d a){x:Option Operand}(e:x.all (ew c)=ak):gh (bz c.sig b) (x.map d) (x.map a):=by
 cases x with|none=>exact .none|some o=>exact .some (h o e)
def lY.parts{e:Ren}{f d:Operand->aB}(h:lY c e f d){b:Array (Nat×Operand)}(g:(b.all λq=>ew c q.2)=ak):dp (yc c.sig e) (b.map λ(i,x)=>(i,f x)).toList (b.map λ(i,x)=>(i,d x)).toList:=by
 rw[Array.toList_map,Array.toList_map];have a:b.toList.all (λq=>ew c q.2)=ak:=by rw[Array.all_toList];exact g
 generalize b.toList=l at a
 induction l with|nil=>exact .nil|cons q l j=>rw[List.all_cons,ay]at a;exact .cons ⟨rfl,h _ a.1⟩ (j a.2)
def gI{a}(e:Ren.Ok P a){s b}(h:av P c.sig (VQ c.sig) s a b):av P c.sig (NQ c) (do pure (.value (<-s))) a (do pure (.value (<-b))):=av.bind e h λ_ _ _ _ d=>au (.value d)
def LP{a}(d:Ren.Ok P a){s b}(h:av P c.sig kZ s a b):av P c.sig (NQ c) (do s;pure .skip) a (do b;pure .skip):=av.bind d h λ_ _ _ _ _=>au .skip
def AX{d}(m:c.Fits P)(n:Ren.Ok P d){f}(g:c.fn f=ak){a e}(l:sn c f d a e):av P c.sig (NQ c) (callFunc f a) d (callFunc f e):=by
 unfold callFunc;refine av.bind n gu λo p r h hp=> ?_
 obtain⟨rfl,rfl⟩:=hp;obtain⟨F,b,i,j,q,k,_⟩:=m.fn f g;simp only[i,j,Option.isNone_some,dg,if_false,beq_eq_false_iff_ne.2 k];exact au (.enter g (l.mono h))
def VM{S d}(n:Ren.Ok P d){a b}(g:cH S d a b):av P S (VQ S) (Extern.MapsClone.clone a) d (Extern.MapsClone.clone b):=by
 obtain⟨c,m⟩:=g;obtain⟨l⟩:=a;obtain⟨f⟩:=b;have c:l.length=f.length:=c
 match l,f,c with
 |[],_,_=>exact rfl|[x],[p],_=>
  have h:=m 0 x p rfl rfl;cases h with
  |iface t hm=>
   cases hm with
   |map j=>
    refine av.bind n (iB j) λq o w e i=> ?_
    cases i with|map k hm=>exact av.bind e.ok (Bc (.map k hm)) λr u v s h=>au (.iface _ (.map h))|_=>exact rfl
   |_=>exact rfl
  |_=>exact rfl
 |_::_::_,_,_=>exact rfl
def Ps{d}(o:c.Fits P)(q:Ren.Ok P d){f}(h:c.ext f=ak){a e}(n:cH c.sig d a e):av P c.sig (NQ c) (callFunc f a) d (callFunc f e):=by
 unfold callFunc;refine av.bind q gu λr p t g hp=> ?_
 obtain⟨rfl,rfl⟩:=hp;obtain⟨F,i,j,k,l,m⟩:=o.ext f h;simp only[i,k,l,m,Option.isNone_none,if_true,beq_eq_false_iff_ne.2 j,dg,if_false];refine av.bind (Q:=kZ) g.ok ⟨.inr ⟨f,rfl,h⟩,_,rfl,(),rfl,rfl⟩ λs _ _ b _=> ?_
 exact gI b.ok (VM b.ok (n.mono (g.trans b)))
def yT{a}(b:Ren.Ok P a)(t){x e}(h:bz c.sig a x e):av P c.sig (VQ c.sig) (Instr.makeInterface t x) a (Instr.makeInterface t e):=by
 unfold Instr.makeInterface;refine av.bind b (bE b t) λi d j f g=> ?_
 obtain⟨rfl,_⟩:=g;cases d<;>first|exact rfl|exact au (.iface t (h.mono f))
def Gd{o}(j:Ren.Ok P o)(s t){x A}(h:bz c.sig o x A):av P c.sig (VQ c.sig) (Instr.typeAssert x s t aq) o (Instr.typeAssert A s t aq):=by
 unfold Instr.typeAssert;refine av.bind j (bE j t) λG d B g l=> ?_
 obtain⟨rfl,_⟩:=l;have z:=h.mono g;have e:∀{f:Ren}(u v:Option cD)(m:String),Ren.Ok P f->av P c.sig (VQ c.sig) (runtimePanic (.typeAssertion u v t m):Sem aB) f (runtimePanic (.typeAssertion u v t m):Sem aB):=λu v m j=>by
  refine av.bind j gu λH p J k hp=> ?_
  obtain⟨rfl,rfl⟩:=hp;refine av.bind k.ok (Q:=λ_ a b=>a=b) (av.bind k.ok (bE k.ok _) λw d B C l=> ?_) λw a b C D=> ?_
  obtain⟨rfl,_⟩:=l;cases d<;>first|exact rfl|exact au rfl
  exact .inr λr=>⟨_,rfl,rfl⟩
 cases d with
 |interface F=>
  cases z with
  |nilIface=>simp only[dg,if_false];exact e _ _ _ g.ok|iface q n=>
   simp only[dg,if_false];refine av.bind g.ok (fl g.ok q) λf i I y E=> ?_
   obtain⟨rfl,_⟩:=E;cases Instr.missingMethod F i.methods with|none=>exact au (.iface q (n.mono y))|some m=>exact e _ _ _ y.ok
  |_=>exact rfl
 |_=>
  cases z with|nilIface=>simp only[dg,if_false];exact e _ _ _ g.ok|iface q n=>simp only[dg,if_false];split;exact au n;exact e _ _ _ g.ok|_=>exact rfl
def qD{S c}(i:Ren.Ok P c){l d}(h:c l d):av P S (λc a b=>ya S c a b) (Instr.getLoop l) c (Instr.getLoop d):=by
 unfold Instr.getLoop;refine av.bind i (iB h) λj o k e g=> ?_
 cases g with|loop f=>exact au f|_=>exact rfl
def Ly{S:nK}{g:Ren}:∀(c:List Tmp){x y:List aB},dp (bz S g) x y->∀{t d:Array aB},cH S g t d->cH S g ((c.zip x).foldl (λb(p,a)=>b.setIfInBounds p a) t) ((c.zip y).foldl (λb(p,a)=>b.setIfInBounds p a) d):=by
 intro c
 induction c with
 |nil=>intro x y _ t d h;exact h|cons p c j=>
  intro x y f t d h;cases f with|nil=>exact h|cons e i=>exact j i (ig.set h e)
def VX{d}(k:Ren.Ok P d){l j}(h:d l j){a g}(i:cH c.sig d a g):av P c.sig (NQ c) (Instr.yield l a) d (Instr.yield j g):=by
 unfold Instr.yield;refine av.bind k (qD k h) λm r n e b=> ?_
 rw[b.params,<-i.size];split;exact rfl;have f:=cH.mono e i;have:=Ly r.params.toList (dp.lf f) b.tmps;refine au ?_;rw[b.fn,b.assign,b.body];refine .round (e.le _ _ h) ?_ b.okA b.okB;rw[<-Array.foldl_toList,<-Array.foldl_toList,Array.toList_zip,Array.toList_zip];exact this
end
section
variable{P:br} {c:h9}
def Ey{e}(i:c.Fits P)(a:Ren.Ok P e)(b)(g:En b=ak)(d t f){x y}(h:cH c.sig e x y):av P c.sig (NQ c) (builtin b d t f x) e (builtin b d t f y):=by
 cases b with|append=>exact gI a (SL i.jE a d t h)|cap=>exact gI a (aa9 a d t h)|copy=>exact gI a (Zm a d t h)|delete=>exact gI a (SN a d t h)|len=>exact gI a (aa' a d t h)|max=>exact gI a (abb a d t h)|min=>exact gI a (abd a d t h)|_=>cases g
def yz{b}(m:c.Fits P)(g:Ren.Ok P b){f h}(n:bz c.sig b f h){a a'}(i:cH c.sig b a a'):av P c.sig (NQ c) (do let d<-gE f a;invoke d.target d.args) b (do let d<-gE h a';invoke d.target d.args):=by
 cases n with
 |func e r k s l=>
  have j:cH c.sig b _ _:=⟨r,k⟩;have q:cH c.sig b _ _:=⟨s,l⟩;cases e with|func p=>exact AX m g p (.of (cH.append (cH.append j i) q))|yield o=>exact VX g o (cH.append j i)
 |nilFunc=>exact oO g|_=>exact rfl
structure EvB(c:h9) (π:Ren) (ρ ρ':Operand->aB):Prop where
 fn:∀f,ρ (.func f)=.func (.func f) #[] #[]/\ρ' (.func f)=.func (.func f) #[] #[]
 bad:∀t∈c.bad,bz c.sig π (ρ (.tmp t)) (ρ' (.tmp t))\/(ρ (.tmp t)=ρ' (.tmp t)/\kY c (c.kc t) (ρ (.tmp t)))
def EvB.arg{i e a}(h:lY c i e a)(n:EvB c i e a){f j x}(b:rX c f j x=ak):bz c.sig i (e x) (a x)\/(j∈c.bd f/\e x=a x/\kY c (c.kd f j) (e x)):=by
 unfold rX at b;rcases ej _ _▸b with b|b;exact .inl (h x b);cases x with
 |tmp t=>simp only[ay,ej]at b;obtain⟨⟨k,l⟩,d⟩:=b;rcases n.bad t (by simpa using k)with g|⟨g,m⟩;exact .inl g;refine .inr ⟨by simpa using l,g,?_⟩;rcases d with d|d;rw[Kd.vM d];trivial;rw[Kd.vM d];exact m
 |_=>cases b
def EvB.args{n j b}(m:lY c n j b)(s:EvB c n j b){f}:∀l a,j8 c f a l=ak->∀i o,l[i]? =af o->bz c.sig n (j o) (b o)\/(a+i∈c.bd f/\j o=b o/\kY c (c.kd f (a+i)) (j o)):=by
 intro l
 induction l with
 |nil=>intro a _ i o g;simp at g|cons x l u=>
  intro a h i o g;simp only[j8,ay]at h;cases i with
  |zero=>
   simp only[List.getElem?_cons_zero,dS]at g;subst g;have d:=h.1;unfold rX at d;rcases ej _ _▸d with d|d;exact .inl (m x d);cases x with
   |tmp t=>simp only[ay,ej]at d;obtain⟨⟨p,q⟩,e⟩:=d;rcases s.bad t (by simpa using p)with k|⟨k,r⟩;exact .inl k;refine .inr ⟨by simpa using q,k,?_⟩;rcases e with e|e;rw[show a+0=a from rfl,Kd.vM e];trivial;rw[show a+0=a from rfl,Kd.vM e];exact r
   |_=>cases d
  |succ i=>have:=u (a+1) h.2 i o (by simpa using g);rwa[show a+1+i=a+(i+1)by omega]at this
def EvB.WM{e g a}(d:lY c e g a)(l:EvB c e g a){f}{x:Array Operand}(h:j8 c f 0 x.toList=ak):sn c f e (x.map g) (x.map a):=by refine⟨by simp,λj u v k b=> ?_⟩;rw[gd]at k b;obtain⟨o,i,rfl⟩:=aG.1 k;rw[i]at b;obtain rfl:=aX b;have:=EvB.args d l x.toList 0 h j o (by simpa using i);rwa[Nat.zero_add]at this
def Zl{j}(m:c.Fits P)(o:Ren.Ok P j){l g}(h:lY c j l g)(p:EvB c j l g)(k)(a:nM c k=ak)(t):av P c.sig (NQ c) (do let d<-resolve l k t;invoke d.target d.args) j (do let d<-resolve g k t;invoke d.target d.args):=by
 unfold nM at a;unfold resolve;cases i:k.callee with
 |builtin b=>rw[i]at a;simp only[ay]at a;exact Ey m o b a.1 _ _ _ (h.arr a.2)|invoke r n=>rw[i]at a;cases a|value f=>
  rw[i]at a;have gen:∀f,(ew c f&&k.args.all (ew c))=ak->av P c.sig (NQ c) (do let d<-gE (l f) (k.args.map l);invoke d.target d.args) j (do let d<-gE (g f) (k.args.map g);invoke d.target d.args):=λf a=>by rw[ay]at a;exact yz m o (h f a.1) (h.arr a.2)
  cases f with
  |func f=>
   simp only[ej,ay]at a;have main:av P c.sig (NQ c) (callFunc f (k.args.map l)) j (callFunc f (k.args.map g)):=by rcases a with a|a;exact AX m o a.1 (EvB.WM h p a.2);exact Ps m o a.1 (h.arr a.2)
   obtain⟨q,s⟩:=p.fn f;simp only[q,s];have e:∀x:Array aB,(do let d<-gE (.func (.func f) #[] #[]) x;invoke d.target d.args)=callFunc f ((#[]++x)++#[]):=λx=>rfl
   rw[e,e];simpa using main
  |tmp x=>exact gen _ a|const x=>exact gen _ a|global x=>exact gen _ a
def yA{S}:∀d t{v}{x D y E},Ren.Ok P v->bz S v x D->bz S v y E->av P S kZ (Op.eqGuardIn d t x y) v (Op.eqGuardIn d t D E):=by
 intro d
 induction d with
 |zero=>intros;exact rfl|succ d I=>
  intro t v x D y E J i j;refine av.bind J (bE J t) λk N O r V=> ?_
  obtain⟨rfl,_⟩:=V;have i:=i.mono r;have j:=j.mono r;cases N with
  |interface Z=>cases i<;>first|exact au rfl|(cases j<;>exact au rfl)
  |struct U=>
   cases i with
   |agg p z=>
    cases j with
    |agg u A=>
     have i:cH S k _ _:=⟨p,z⟩;have j:cH S k _ _:=⟨u,A⟩;refine av.bind (Q:=kZ) r.ok (AZ r.ok (λq g f s=> ?_) U _) λq s W g h=> ?_
     split;refine av.bind g.ok (nO g.ok _ (cH.mono g i) _) λF a K l B=> ?_
     refine av.bind l.ok (nO l.ok _ (cH.mono (g.trans l) j) _) λG b L o C=> ?_
     refine av.bind o.ok (I _ o.ok (B.mono o) C) λH c M R h=> ?_
     subst h;cases c<;>exact au rfl;exact au rfl;subst h;obtain⟨p,u⟩:=s;cases p<;>exact au rfl
    |_=>exact au rfl
   |_=>exact au rfl
  |array n T=>
   cases i with
   |agg p z=>
    cases j with
    |agg u A=>
     have i:cH S k _ _:=⟨p,z⟩;have j:cH S k _ _:=⟨u,A⟩;refine av.bind r.ok (fK r.ok T) λX m Y w h=> ?_
     subst h;refine av.bind (Q:=kZ) w.ok (A7 w.ok (λq g f s=> ?_) _ _) λq s W g h=> ?_
     have e:=w.trans g;refine av.bind g.ok (nO g.ok _ (cH.mono e i) _) λF a K l B=> ?_
     refine av.bind l.ok (nO l.ok _ (cH.mono (e.trans l) j) _) λG b L o C=> ?_
     refine av.bind o.ok (I _ o.ok (B.mono o) C) λH c M R h=> ?_
     subst h;cases c<;>exact au rfl;subst h;obtain⟨p,u⟩:=s;cases p<;>exact au rfl
    |_=>exact au rfl
   |_=>exact au rfl
  |_=>exact au rfl
def Pu{S f}(l:Ren.Ok P f)(op t x y){a i b j}(w:bz S f a i)(r:bz S f b j):av P S kZ (eqGuard op t x y a b) f (eqGuard op t x y i j):=by
 have z:av P S kZ (do if<-Op.eqGuardIn Op.maxDepth t .nilIface .nilIface then unsupported (.noEntry "binop/eql: two nil values of an interface type with methods, neither of them the literal nil")) f
  (do if<-Op.eqGuardIn Op.maxDepth t .nilIface .nilIface then unsupported (.noEntry "binop/eql: two nil values of an interface type with methods, neither of them the literal nil")):=by
  refine av.bind l (yA _ t l .nilIface .nilIface) λo c u e h=> ?_
  subst h;cases c with|true=>exact rfl|false=>exact au rfl
 have g:(op=.eql\/op=.neq)->av P S kZ (eqGuard op t x y a b) f (eqGuard op t x y i j):=by
  intro d;cases w with
  |nilIface=>
   cases r with
   |nilIface=>rcases d with rfl|rfl<;>cases x<;>cases y<;>first|exact au rfl|exact z
   |_=>rcases d with rfl|rfl<;>exact au rfl
  |agg s h=>
   cases r with
   |agg B v=>
    rename_i D n C m;have main:av P S kZ (do
     if !(<-program).eqGuardType (<-program).depth t then return
     if<-Op.eqGuardIn Op.maxDepth t (.agg D) (.agg C)then unsupported (.noEntry "binop/eql: two nil values of an interface type with methods, in a part of a struct or an array")) f (do
     if !(<-program).eqGuardType (<-program).depth t then return
     if<-Op.eqGuardIn Op.maxDepth t (.agg n) (.agg m)then unsupported (.noEntry "binop/eql: two nil values of an interface type with methods, in a part of a struct or an array")):=by
     refine av.bind l gu λo p A q hp=> ?_
     obtain⟨rfl,rfl⟩:=hp;refine av.bind q.ok gu λE p A k hp=> ?_
     obtain⟨rfl,rfl⟩:=hp;split;exact au rfl;have e:=q.trans k;refine av.bind k.ok (yA _ t k.ok ((bz.agg s h).mono e) ((bz.agg B v).mono e)) λF c u G h=> ?_
     subst h;cases c with|true=>exact rfl|false=>exact au rfl
    rcases d with rfl|rfl<;>exact main
   |_=>rcases d with rfl|rfl<;>exact au rfl
  |_=>rcases d with rfl|rfl<;>exact au rfl
 cases op<;>first|exact g (.inl rfl)|exact g (.inr rfl)|exact au rfl
def LN{g}(f:Ren.Ok P g){x i}(h:bz c.sig g x i):av P c.sig (NQ c) (execOp (λ_=>x) {dst:=ah,op:=.nilCheck (.tmp 0),type:=0,pos:= "",after:=#[],guard:=ah}) g (execOp (λ_=>i) {dst:=ah,op:=.nilCheck (.tmp 0),type:=0,pos:= "",after:=#[],guard:=ah}):=by
 cases h with
 |fB=>exact oO f|nilIface=>exact oO f|nilFunc=>exact oO f|func j a b d e=>
  cases j with|func s=>exact au (.value (.func (.func s) a b d e))|yield s=>exact au (.value (.func (.yield s) a b d e))
 |bool b=>exact au (.value (.bool b))|int k n=>exact au (.value (.int k n))|string s=>exact au (.value (.string s))|pointer h=>exact au (.value (.pointer h))|jr l c=>exact au (.value (.jr l c))|slice l c h=>exact au (.value (.slice l c h))|uY=>exact au (.value .uY)|map h=>exact au (.value (.map h))|sG=>exact au (.value .sG)|iface t h=>exact au (.value (.iface t h))|agg a b=>exact au (.value (.agg a b))|tuple a b=>exact au (.value (.tuple a b))
def AY{B}(q:c.Fits P)(p:Ren.Ok P B){F z}(g:lY c B F z)(H:EvB c B F z)(o)(j:n9 c o.op=ak):av P c.sig (NQ c) (execOp F o) B (execOp z o):=by
 obtain⟨G,op,w,pos,after,D⟩:=o;simp only at j;cases op with
 |move x=>exact au (.value (g x j))|assign x=>exact au (.value (g x j))|pick x a b=>
  simp only[n9,ay]at j;exact av.bind p (AW (g x j.1.1)) λE u v e h=>by
   subst h;cases u with|true=>exact au (.value ((g a j.1.2).mono e))|false=>exact au (.value ((g b j.2).mono e))
 |alloc C=>exact gI p (VI q.jE p C)|box C x=>exact gI p (aa8 p C (g x j))|build t I=>exact gI p (VL q.jE p t (g.parts j))|buildSlice t n I=>exact gI p (F6 q.jE p t n (g.parts j))|load t a=>exact gI p (Ja p t (g a j))|store t a x=>simp only[n9,ay]at j;exact LP p (PF p t (g a j.1) (g x j.2))|nilCheck x=>exact LN p (g x j)|binOp op t x y u=>simp only[n9,ay]at j;exact gI p (av.bind p (Pu p op t x y (g x j.1) (g y j.2)) λE _ _ e _=>VK e.ok op t ((g x j.1).mono e) ((g y j.2).mono e))|unOp op t x=>exact gI p (VW op (g x j))|convert s d x=>simp only[n9,ay]at j;exact gI p (F7 p s d (q.int d j.1.2) (q.int s j.1.1) (g x j.2))|makeFunc f first A=>
  simp only[n9,ay]at j;cases f with|func f=>exact gI p (LK (.func j.1.1) (g.arr j.1.2) (g.arr j.2))|_=>exact absurd j.1.1 (by simp)
 |makeMap t r=>exact gI p (Pz p t (g.opt j))|makeSlice t l k=>simp only[n9,ay]at j;exact gI p (Jb q.jE p t (g l j.1) (g k j.2))|slice t x K J L=>simp only[n9,ay]at j;exact gI p (PE p t (g x j.1.1.1) (g.opt j.1.1.2) (g.opt j.1.2) (g.opt j.2))|fieldAddr s x f=>exact gI p (Px p s (g x j) f)|field s x f=>exact gI p (VO p s (g x j) f)|indexAddr t x i=>simp only[n9,ay]at j;exact gI p (EA p t (g x j.1) (g i j.2))|index t x i=>simp only[n9,ay]at j;exact gI p (VP p t (g x j.1) (g i j.2))|lookup t x i b=>simp only[n9,ay]at j;exact gI p (SS q.jE p t (g x j.1) (g i j.2) b)|mapUpdate t m k v=>simp only[n9,ay]at j;exact LP p (Jd p t (g m j.1.1) (g k j.1.2) (g v j.2))|range t x=>exact gI p (VS p t (g x j))|next x b=>exact gI p (Zq p b w (g x j))|entry x=>exact gI p (VN p (g x j))|extract x i=>exact gI p (Pw (g x j) i)|call k=>exact Zl q p g H k j w|makeInterface t x=>exact gI p (yT p t (g x j))|typeAssert x s t b=>simp only[n9,ay,kI]at j;obtain⟨rfl,j⟩:=j;exact gI p (Gd p s t (g x j))|_=>cases j
def vA(a:Addr)(h:a.spot=ah)(n):a.add n=⟨a.block,a.off+n,ah⟩:=by obtain⟨b,o,s⟩:=a;simp only at h;subst h;unfold Addr.add;split;rename_i h;simp_all;rfl
def yS{S d}(l:Ren.Ok P d){a}(g:a.spot=ah):∀n i acc b,(∀j,i<=j->j<i+n->∃x,S.mem ⟨a.block,a.off+j,ah⟩=af x)->cH S d acc b->av P S (X6 S) (loadCellsFrom a i n acc) d (loadCellsFrom a i n b):=by
 intro n
 induction n generalizing d with
 |zero=>intro i acc b _ c;exact au c|succ n k=>
  intro i acc b hm c;obtain⟨x,h⟩:=hm i (ao _) (by omega);have e:=vA a g i;unfold loadCellsFrom;rw[e];refine av.bind l (LJ h) λm u v e f=> ?_
  obtain⟨rfl,rfl⟩:=f;exact k e.ok (i+1) _ _ (λj o p=>hm j (by omega) (by omega)) ((cH.mono e c).push (.int _ _))
def Dk{q}(s:c.Fits P)(o:Ren.Ok P q){e a}(h:zx c e a):av P c.sig (VQ c.sig) (loadVar e a) q (loadVar e a):=by
 obtain⟨z,n,w,hm⟩:=h;obtain⟨⟨i,t,g⟩,G,A⟩:=s.flat e n w;unfold loadVar isAgg;refine av.bind (Q:=λ_ u v=>u=ak/\v=ak) o (av.bind o (bE o e) λB d r E b=> ?_) λC u v l f=> ?_
 obtain⟨rfl,b⟩:=b;rw[A]at b;obtain rfl:=aX b;exact au ⟨rfl,rfl⟩;obtain⟨rfl,rfl⟩:=f;simp only[if_true];refine av.bind (Q:=λ_ u v=>u=n/\v=n) l.ok (av.bind l.ok (fl l.ok e) λp d r m b=> ?_) λp u v m f=> ?_
 obtain⟨rfl,b⟩:=b;rw[t]at b;obtain rfl:=aX b;exact au ⟨g,g⟩;obtain⟨rfl,rfl⟩:=f;exact av.bind m.ok (yS m.ok z _ 0 _ _ (λj _ H=>hm j (by omega)) ⟨rfl,by simp⟩) λD x y F k=>au (.agg k.size k.at_)
def Gb{d}(g:c.Fits P)(i:Ren.Ok P d){e a}(h:zx c e a):av P c.sig (VQ c.sig) (eo e (.pointer (af a))) d (eo e (.pointer (af a))):=av.bind (Q:=λ_ u v=>u=a/\v=a) i (au ⟨rfl,rfl⟩) λj u v f b=>by obtain⟨rfl,rfl⟩:=b;exact Dk g f.ok h
def Py{S f}(c:Ren.Ok P f){s e t}(g:P.underlying s=af (.slice e))(a n k):av P S (VQ S) (Builtin.len_ #[s] t #[.slice (af a) n k]) f (Builtin.len_ #[s] t #[.slice (af a) n k]):=by
 unfold Builtin.len_;refine av.bind c (bE c s) λh d i j b=> ?_
 obtain⟨rfl,b⟩:=b;rw[g]at b;obtain rfl:=aX b;exact au (.int _ _)
def I'{o}(A:c.Fits P)(J:Ren.Ok P o){s e}(G:c.elem s=af e){a n k}(h:∀m,c.flat e=af m->∀i,i<n->zx c e (a.add (i*m))){i B}(F:bz c.sig o i B):av P c.sig (λ_ u v=>u=v/\kY c (.pt e) u) (Instr.indexAt s (.slice (af a) n k) i) o (Instr.indexAt s (.slice (af a) n k) B):=by
 obtain⟨H,m,hm⟩:=A.elem s e G;obtain⟨⟨I,j,g⟩,_⟩:=A.flat e m hm;unfold Instr.indexAt;refine av.bind J (qC F) λK x y w E=> ?_
 subst E;obtain⟨C,q⟩:=x;simp only;refine av.bind w.ok (bE w.ok s) λp d t z b=> ?_
 obtain⟨rfl,b⟩:=b;rw[H]at b;obtain rfl:=aX b;show av P c.sig _ (tR s C q (af a,n,e)) p (tR s C q (af a,n,e));unfold tR;refine av.bind z.ok (bE z.ok s) λL d t f b=> ?_
 obtain⟨rfl,_⟩:=b;simp only;split;rename_i M;refine av.bind (Q:=λ_ u v=>u=m/\v=m) f.ok (av.bind f.ok (fl f.ok e) λr d t D b=> ?_) λr u v D l=> ?_
 obtain⟨rfl,b⟩:=b;rw[j]at b;obtain rfl:=aX b;exact au ⟨g,g⟩;obtain⟨rfl,rfl⟩:=l;exact au ⟨rfl,_,rfl,h _ hm q.toNat (by omega)⟩;split<;>(split<;>first|exact rfl|exact(av.mono (Q:=λ_ _ _=>False) f.ok (j2 f.ok _ _ _ _) λ_ _ _ _ h=>h.elim))
def XY(c:h9)(o:Oper):Ren->Next->Next->Prop:=λb n a=>zC c b n a\/∃v d,n=.value v/\a=.value v/\o.dst=af d/\d∈c.bad/\kY c (c.kc d) v
def Re{o k}(h:zV c o k=ak):∃d,o.dst=af d/\d∈c.bad/\∀v,kY c k v->kY c (c.kc d) v:=by
 unfold zV at h;cases b:o.dst with
 |none=>rw[b]at h;cases h|some d=>rw[b]at h;simp only[ay,ej]at h;refine⟨d,rfl,by simpa using h.1,λv e=> ?_⟩;rcases h.2 with a|a;rw[Kd.vM a];trivial;rw[Kd.vM a];exact e
def Bb{o a}(d:Ren.Ok P a){s b}(h:av P c.sig (NQ c) s a b):av P c.sig (XY c o) s a b:=av.mono d h λ_ _ _ _ h=>.inl h
def abe{y}(E:c.Fits P)(f:Ren.Ok P y){l g}(B:lY c y l g)(C:EvB c y l g)(o)(j:yU c o=ak):av P c.sig (XY c o) (execOp l o) y (execOp g o):=by
 obtain⟨dst,op,type,pos,after,guard⟩:=o;cases op with
 |move x=>
  cases x with
  |tmp t=>simp only[yU,ay]at j;obtain⟨d,q,A,G⟩:=Re j.2;rcases C.bad t (by simpa using j.1)with h|⟨h,p⟩;exact au (.inl (.value h));refine au (.inr ⟨l (.tmp t),d,rfl,?_,q,A,G _ p⟩);rw[h]
  |_=>cases j
 |load e x=>
  cases x with
  |tmp t=>simp only[yU,ay]at j;rcases C.bad t (by simpa using j.1)with h|⟨h,p⟩;exact Bb f (gI f (Ja f e h));rw[Kd.vM j.2]at p;obtain⟨a,q,A⟩:=p;refine Bb f (gI f ?_);show av P c.sig _ (eo e (l (.tmp t))) y (eo e (g (.tmp t)));rw[<-h,q];exact Gb E f A
  |_=>cases j
 |indexAddr s x i=>
  cases x with
  |tmp t=>
   simp only[yU,ay]at j;obtain⟨⟨H,L⟩,m⟩:=j;cases w:c.elem s with
   |none=>rw[w]at m;cases m|some e=>
    rw[w]at m;simp only[ay]at m;obtain⟨d,q,A,G⟩:=Re m.2;rcases C.bad t (by simpa using H)with h|⟨h,p⟩;exact Bb f (gI f (EA f s h (B i L)));rw[Kd.vM m.1]at p;obtain⟨a,n,k,F,M⟩:=p;refine av.bind (Q:=λ_ u v=>u=v/\kY c (.pt e) u) f ?_ λO u v R I=> ?_
    show av P c.sig _ (Instr.indexAt s (l (.tmp t)) (l i)) y (Instr.indexAt s (g (.tmp t)) (g i));rw[<-h,F];exact I' E f w M (B i L);obtain⟨rfl,N⟩:=I;exact au (.inr ⟨_,d,rfl,rfl,q,A,G _ N⟩)
  |_=>cases j
 |call k=>
  obtain⟨callee,args,r⟩:=k;simp only[yU,ay]at j;obtain⟨K,q⟩:=j;cases callee with
  |builtin b=>
   cases b with
   |len=>
    obtain⟨args⟩:=args;obtain⟨r⟩:=r
    match args,r,q with
    |[.tmp t],[s],q=>
     simp only[ay]at q;obtain⟨H,m⟩:=q;cases w:c.elem s with
     |none=>rw[w]at m;cases m|some e=>
      rw[w]at m;refine Bb f ?_;have main:∀J,av P c.sig (NQ c) (builtin .len #[s] type J #[l (.tmp t)]) y (builtin .len #[s] type J #[g (.tmp t)]):=λJ=> ?_
      have e:∀l:Operand->aB,execOp l {dst:=dst,op:=Op.call {callee:=Callee.builtin Builtin.len,args:={toList:=[Operand.tmp t]},argTypes:={toList:=[s]}},type:=type,pos:=pos,after:=after,guard:=guard}=builtin .len #[s] type #[aq] #[l (.tmp t)]:=λl=>by simp[execOp,resolve,invoke]
      rw[e,e];exact main _;rcases C.bad t (by simpa using H)with h|⟨h,p⟩;exact Ey E f .len rfl _ _ _ ⟨rfl,λi a b z D=>by
       match i,z,D with
       |0,z,D=>simp at z D;subst z;subst D;exact h|i+1,z,_=>simp at z⟩
      rw[Kd.vM m]at p;obtain⟨a,n,k,F,_⟩:=p;rw[<-h,F];exact gI f (Py f (E.elem s e w).1 a n k)
   |_=>cases K
  |_=>cases K
 |_=>cases j
def SU{d}(i:c.Fits P)(e:Ren.Ok P d){f a}(b:lY c d f a)(g:EvB c d f a)(o)(j:jh c o=ak):av P c.sig (XY c o) (execOp f o) d (execOp a o):=by unfold jh at j;rcases ej _ _▸j with h|h;exact Bb e (AY i e b g o h);exact abe i e b g o h
end
def my(v:aB):Bool:=v.cells.all (fU 4)
def z6:∀n v,fU n v=ak->fU (n+1) v=ak:=by
 intro n
 induction n with
 |zero=>intro v h;cases v<;>first|exact h|rfl|cases h|(rename_i p;cases p<;>first|exact h|rfl|cases h)|(rename_i p _ _;cases p<;>first|exact h|rfl|cases h)
 |succ n b=>
  intro v h;cases v with
  |agg c=>exact eP.2 λi a=>b _ (eP.1 (show c.all (fU n)=ak from h) i a)|tuple c=>exact eP.2 λi a=>b _ (eP.1 (show c.all (fU n)=ak from h) i a)|iface t v=>exact b v h|pointer p=>cases p<;>first|exact h|rfl|cases h
  |slice p l c=>cases p<;>first|exact h|rfl|cases h
  |map p=>cases p<;>first|exact h|rfl|cases h
  |chan p=>cases p<;>first|exact h|rfl|cases h
  |_=>first|exact h|rfl|cases h
def UY{v}(h:my v=ak):fU 6 v=ak:=by
 unfold my at h;have one:∀x,fU 4 x=ak->fU 5 x=ak:=λx b=>z6 4 x b
 cases v with|agg c=>show c.all (fU 5)=ak;have h:c.all (fU 4)=ak:=h;exact eP.2 λi a=>one _ (eP.1 h i a)|_=>refine z6 5 _ (one _ ?_);exact eP.1 h 0 (by simp[iJ])
def DX{c}(h:∀x∈c,fU 4 x=ak):my (.agg c)=ak:=by show c.all (fU 4)=ak;exact eP.2 λi a=>h _ (Array.getElem_mem a)
def DY{v}(h:my v=ak):∀x∈v.cells,fU 4 x=ak:=by intro x b;obtain⟨i,a,rfl⟩:=Array.mem_iff_getElem.1 b;exact eP.1 h i a
def OC{j k:Type}(P:k->Prop)(f)(g:∀a b r,P b->f a b=af r->P r.value):∀(l:List j) b c,P b->forIn l b f=af c->P c:=by
 intro l
 induction l with
 |nil=>intro b c d h;cases h;exact d|cons a l i=>
  intro b c d h;rw[List.forIn_cons]at h;cases e:f a b with
  |none=>rw[e]at h;cases h|some r=>
   rw[e]at h;have:=g a b r d e;cases r with|done x=>cases h;exact this|yield x=>exact i x c this h
def JO{c}(B:∀t i v,c t=af i->i.zero=af v->my v=ak){A i v}(h:Made.reckonStruct c A=af i)(b:i.zero=af v):my v=ak:=by
 unfold Made.reckonStruct at h;simp only[Option.bind_eq_bind,dD]at h;obtain⟨r,s,h⟩:=h;rw[<-Array.forIn_toList]at s;have d:∀(k:Option (Array aB))(i:TypeInfo)(f:Field)(n:Nat),(∀z,k=af z->∀x∈z,fU 4 x=ak)->c f.type=af i->∀z,(if n>Made.mostCells then ah else k.bind λu=>i.zero.bind λv=>pure (u++v.cells))=af z->∀x∈z,fU 4 x=ak:=by intro k i f n l e z b x m;split at b;cases b;obtain⟨u,C,b⟩:=dD.1 b;obtain⟨v,D,b⟩:=dD.1 b;cases b;rcases nl.1 m with h|h;exact l u C x h;exact DY (B _ _ _ e D) x h
 have p:=OC (λk=>∀z,k.snd.snd.snd.snd.snd.snd.snd.fst=af z->∀x∈z,fU 4 x=ak) _ ?_ _ _ _ ?_ s;split at h<;>
 ·cases h;obtain⟨z,o,rfl⟩:=aG.1 b;exact DX (p z o)
 intro f k F l a;obtain⟨j,q,a⟩:=dD.1 a;have E:∀{w:Type}{g:Unit->Option w}{y:w},(ah:Option Unit).bind g=af y->False:=λh=>by cases h
 split at a;cases a;split at a;cases a;split at a;obtain⟨_,_,a⟩:=dD.1 a;split at a<;>(cases a;exact d _ _ _ _ l q);obtain⟨_,_,a⟩:=dD.1 a;split at a<;>(cases a;exact d _ _ _ _ l q);intro z b x m;obtain rfl:z=#[]:=(aX b).symm;simp at m
def Ji{b}(m:∀t i v,b t=af i->i.zero=af v->my v=ak){d i v}(h:Made.reckon b d=af i)(a:i.zero=af v):my v=ak:=by
 unfold Made.reckon at h;cases d with
 |slice e=>simp only[Option.bind_eq_bind,dD]at h;obtain⟨_,_,_,_,h⟩:=h;cases h;cases a;simp[my,iJ,fU]|map k e=>simp only[Option.bind_eq_bind,dD]at h;obtain⟨_,_,_,_,_,_,_,_,h⟩:=h;cases h;cases a;simp[my,iJ,fU]|chan d e=>simp only[Option.bind_eq_bind,dD]at h;obtain⟨_,_,_,_,h⟩:=h;cases h;cases a;simp[my,iJ,fU]|func q r v=>simp only[Option.bind_eq_bind,dD]at h;obtain⟨_,_,h⟩:=h;cases h;cases a;simp[my,iJ,fU]|array n e=>
  simp only[Option.bind_eq_bind,dD]at h;obtain⟨j,o,_,_,h⟩:=h;cases h;simp only at a;split at a;cases a;split at a;cases a;simp[my,iJ];obtain⟨z,g,rfl⟩:=aG.1 a;have:=DY (m e j z o g);refine DX λx f=> ?_
  obtain⟨c,l,f⟩:=Array.mem_flatten.1 f;rw[Array.mem_replicate]at l;rw[l.2]at f;exact this x f
 |pointer e=>simp only[Option.bind_eq_bind,dD]at h;obtain⟨j,o,h⟩:=h;split at h;cases h;split at h;cases h;simp only[dD]at h;obtain⟨_,_,h⟩:=h;cases h;cases a;simp[my,iJ,fU];simp only[dD]at h;obtain⟨_,_,h⟩:=h;cases h;cases a;simp[my,iJ,fU]|struct p=>exact JO m h a|_=>cases h
def Ql{P:br}(h:∀(t:cD) i v,P.types[t]? =af i->i.zero=af v->my v=ak)(t i v)(b:P.info? t=af i)(c:i.zero=af v):fU 6 v=ak:=by
 refine UY ?_;unfold Tables.info? at b;split at b;exact h t i v b c;have e:∀(a:Nat)(t:cD)(i:TypeInfo)(v:aB),Made.infoAt P.toTables a t=af i->i.zero=af v->my v=ak:=by
  intro a
  induction a with|zero=>intro t i v h _;cases h|succ n g=>intro t i v b c;unfold Made.infoAt at b;split at b;exact h t i v b c;obtain⟨d,_,f⟩:=dD.1 b;exact Ji g f c
 exact e _ t i v b c
abbrev iZ(b:dj)(a:List dj):aw:={frame:=b,callers:=a,status:=.running,dying:=ah}
inductive ou(c:h9) (π:Ren):Item->Item->Prop
 |code {x:Code}:dm c x=ak->ou c π (.code x) (.code x)
 |inBlock (i:Nat):ou c π (.inBlock i) (.inBlock i)
 |inLoop {b:Code}:dm c b=ak->ou c π (.inLoop b) (.inLoop b)
 |inScope {b:Code}:dm c b=ak->ou c π (.inScope b) (.inScope b)
 |inRegion {ops:Array Oper} (l:List Nat):ops.all (jh c)=ak->ou c π (.inRegion ops l) (.inRegion ops l)
 |inRangeFunc {l l':Nat}:c.bad=[]->π l l'->ou c π (.inRangeFunc l) (.inRangeFunc l')
 |endRangeFunc {l l':Nat}:c.bad=[]->π l l'->ou c π (.endRangeFunc l) (.endRangeFunc l')
 |beginRound:ou c π .beginRound .beginRound
inductive lE(π:Ren):Deferred->Deferred->Prop
 |mk {r r':Nat}:π r r'->lE π {target:=.collected r,args:=#[]} {target:=.collected r',args:=#[]}
inductive G5(c:h9) (kL kR:List Item) (π:Ren):List Item->List Item->Prop
 |nil:G5 c kL kR π kL kR
 |cons {a b:Item} {l m:List Item}:ou c π a b->G5 c kL kR π l m->G5 c kL kR π (a::l) (b::m)
def ny:List Item->Bool|[]|.code _::_|.inBlock _::_|.inLoop _::_|.inScope _::_=>ak|_=>aq
structure Z4(kL kR:List Item):Prop where
 Wv:ny kL=ak
 ZA:ny kR=ak
 ex:∀i,exitTo i kL=ah
 kk:kL=[]->kR=[]
def Z4.nil:Z4 [] []:=⟨rfl,rfl,λ_=>rfl,λ_=>rfl⟩
structure pW(c:h9) (π:Ren) (x y:Array aB):Prop where
 size:x.size=y.size
 at_:∀(i:Nat) u v,x[i]? =af u->y[i]? =af v->bz c.sig π u v\/(i∈c.bad/\u=v/\kY c (c.kc i) u)
def pW.of{c a x y}(h:cH c.sig a x y):pW c a x y:=⟨h.size,λi u v b d=>.inl (h.at_ i u v b d)⟩
def pW.vs{c a x y}(h:pW c a x y)(b:c.bad=[]):cH c.sig a x y:=⟨h.size,λi u v d e=>(h.at_ i u v d e).elim id λk=>by rw[b]at k;exact absurd k.1 (by simp)⟩
def pW.mono{P c b a}(e:Ext P b a){x y}(h:pW c b x y):pW c a x y:=⟨h.size,λi u v d f=>(h.at_ i u v d f).imp (·.mono e) id⟩
def pW.put{c j x y}(h:pW c j x y){d:Nat}{v g}(k:bz c.sig j v g\/(d∈c.bad/\v=g/\kY c (c.kc d) v)):pW c j (x.setIfInBounds d v) (y.setIfInBounds d g):=by
 refine⟨by simp[h.size],λi u w b f=> ?_⟩;by_cases e:d=i;subst e;have a:d<x.size:=by have:=(aC.1 b).1;simpa using this
 rw[aQ a]at b;rw[aQ (by rw[<-h.size];exact a)]at f;cases b;cases f;exact k;rw[aH e]at b f;exact h.at_ i u w b f
def pW.set{c a x y}(h:pW c a x y){d v b}(e:bz c.sig a v b):pW c a (x.setIfInBounds d v) (y.setIfInBounds d b):=h.put (.inl e)
abbrev sM(a:dj):Option Nat×eu:=(a.roundOf,a.fn)
structure pQ(c:h9) (kL kR:List Item) (π:Ren) (a b:dj):Prop where
 fn:b.fn=a.fn
 tmps:pW c π a.tmps b.tmps
 todo:G5 c kL kR π a.todo b.todo
 defers:dp (lE π) a.defers b.defers
 mode:b.mode=a.mode
 ok:a.mode=.run\/a.mode=.returning
 kind:a.kind=.normal
 Iz:b.kind=.normal
 round:gh π a.roundOf b.roundOf
 ks:Z4 kL kR
 rk:a.roundOf≠ah->kL=[]
section
variable{P:br} {c:h9} {Z Y:List Item}
def ou.mono{g d}(e:Ext P g d):∀{a b},ou c g a b->ou c d a b|_,_,.code h=>.code h|_,_,.inBlock i=>.inBlock i|_,_,.inLoop h=>.inLoop h|_,_,.inScope h=>.inScope h|_,_,.inRegion l h=>.inRegion l h|_,_,.inRangeFunc f h=>.inRangeFunc f (e.le _ _ h)|_,_,.endRangeFunc f h=>.endRangeFunc f (e.le _ _ h)|_,_,.beginRound=>.beginRound
def lE.mono{d c}(e:Ext P d c):∀{a b},lE d a b->lE c a b|_,_,.mk h=>.mk (e.le _ _ h)
def lE.list{d c}(e:Ext P d c){a b}(h:dp (lE d) a b):dp (lE c) a b:=dp.mono (λ_ _ x=>x.mono e) h
def G5.mono{f d}(e:Ext P f d){a b}(h:G5 c Z Y f a b):G5 c Z Y d a b:=by
 induction h with|nil=>exact .nil|cons h _ g=>exact .cons (h.mono e) g
def gh.ren{d c}(e:Ext P d c){a b}(h:gh d a b):gh c a b:=gh.mono (λ_ _ x=>e.le _ _ x) h
def pQ.mono{f d}(e:Ext P f d){a b}(h:pQ c Z Y f a b):pQ c Z Y d a b:=⟨h.fn,h.tmps.mono e,h.todo.mono e,lE.list e h.defers,h.mode,h.ok,h.kind,h.Iz,gh.ren e h.round,h.ks,h.rk⟩
def cH.getD{S d x y}(h:cH S d x y)(i):bz S d (x.getD i undef) (y.getD i undef):=by
 rw[bF,bF];have:=h.opt i;revert this;generalize x[i]? =a;generalize y[i]? =b;intro c;cases c with|none=>exact .tuple rfl (by simp)|some h=>exact h
def pW.aaD{c e x y}(h:pW c e x y)(i):bz c.sig e (x.getD i undef) (y.getD i undef)\/(x.getD i undef=y.getD i undef/\kY c (c.kc i) (x.getD i undef)):=by rw[bF,bF];rcases du i x.size with b|d;have a:i<y.size:=h.size▸b;rw[aS b,aS a];exact(h.at_ i _ _ (aS b) (aS a)).imp id (·.2);rw[gP d,gP (h.size▸d)];exact .inl (.tuple rfl (by simp))
def pW.getD{c e x y}(h:pW c e x y){i:Nat}(f:i∉c.bad):bz c.sig e (x.getD i undef) (y.getD i undef):=by
 rw[bF,bF];rcases du i x.size with b|d;have a:i<y.size:=h.size▸b;rw[aS b,aS a];exact(h.at_ i _ _ (aS b) (aS a)).elim id λk=>absurd k.1 f
 rw[gP d,gP (h.size▸d)];exact .tuple rfl (by simp)
def pQ.W1{e a b}(h:pQ c Z Y e a b):lY c e a.eval b.eval:=by
 intro o d;cases o with
 |tmp t=>
  have d:c.bad.contains t=aq:=by simpa[ew]using d
  exact h.tmps.getD (by simpa using d)
 |const v=>exact tN 4 v d e|global g=>cases d|func f=>exact .func (.func d) rfl (by simp) rfl (by simp)
def pQ.evB{d a b}(h:pQ c Z Y d a b):EvB c d a.eval b.eval:=⟨λ_=>⟨rfl,rfl⟩,λt _=>h.tmps.aaD t⟩
def vP(c:dj)(v)(h:ny c.todo=ak):c.finish v=c:=by
 obtain⟨g,f,a,b,e,d,round⟩:=c;cases a with
 |nil=>rfl|cons x k=>cases x<;>first|rfl|cases h
def pQ.finish{B a b}(h:pQ c Z Y B a b){v v'}(L:bz c.sig B v v'):pQ c Z Y B (a.finish v) (b.finish v')/\sM (a.finish v)=sM a:=by
 obtain⟨N,H,I,s,F,E,round⟩:=a;obtain⟨J,z,A,r,y,w,t⟩:=b;obtain⟨g,f,C,j,k,m,n,o,p,d,e⟩:=h;simp only at g f C j k m n o p e;cases C with
 |nil=>rw[vP _ _ (by exact d.Wv),vP _ _ (by exact d.ZA)];exact⟨⟨g,f,.nil,j,k,m,n,o,p,d,e⟩,rfl⟩|cons K q=>
  cases K with
  |code x=>exact⟨⟨g,f,.cons (.code x) q,j,k,m,n,o,p,d,e⟩,rfl⟩|inBlock x=>exact⟨⟨g,f,.cons (.inBlock x) q,j,k,m,n,o,p,d,e⟩,rfl⟩|inLoop x=>exact⟨⟨g,f,.cons (.inLoop x) q,j,k,m,n,o,p,d,e⟩,rfl⟩|inScope x=>exact⟨⟨g,f,.cons (.inScope x) q,j,k,m,n,o,p,d,e⟩,rfl⟩|inRangeFunc u x=>exact⟨⟨g,f,.cons (.endRangeFunc u x) q,j,k,m,n,o,p,d,e⟩,rfl⟩|endRangeFunc u x=>exact⟨⟨g,f,.cons (.endRangeFunc u x) q,j,k,m,n,o,p,d,e⟩,rfl⟩|beginRound=>exact⟨⟨g,f,q,j,k,m,n,o,p,d,e⟩,rfl⟩|inRegion l D=>
   rename_i M;cases l with|nil=>exact⟨⟨g,f,.cons (.inRegion _ D) q,j,k,m,n,o,p,d,e⟩,rfl⟩|cons i G=>unfold Frame.finish;simp only;refine⟨⟨g,?_,.cons (.inRegion _ D) q,j,k,m,n,o,p,d,e⟩,trivial⟩;simp only;split;exact f.set L;exact f
def pQ.UX{M a b}(h:pQ c Z Y M a b){o f i e k}(G:a.todo=.inRegion f (i::e)::k)(S:f[i]? =af o){v d}(P:o.dst=af d)(O:d∈c.bad)(T:kY c (c.kc d) v):pQ c Z Y M (a.finish v) (b.finish v)/\sM (a.finish v)=sM a:=by
 obtain⟨U,K,L,n,J,I,round⟩:=a;obtain⟨N,u,w,g,t,s,p⟩:=b;obtain⟨y,z,q,A,B,C,D,E,F,j,m⟩:=h;simp only at y z q A B C D E F m G;subst G;generalize H:(Item.inRegion f (i::e)::k)=x at q;cases q with
 |nil=>exact absurd j.Wv (by rw[<-H];simp[ny])|cons Q R=>
  cases H;cases Q with|inRegion l r=>unfold Frame.finish;simp only[S,Option.bind_some,P];refine⟨⟨y,z.put (.inr ⟨O,rfl,T⟩),.cons (.inRegion _ r) R,A,B,C,D,E,F,j,m⟩,trivial⟩
def pQ.enter{g}(m:c.Fits P){f}(n:c.fn f=ak){x y}(h:sn c f g x y):pQ (c.at f) [] [] g (fi P f x .normal) (fi P f y .normal):=by obtain⟨F,b,j,k,l,o,_⟩:=m.fn f n;refine⟨rfl,?_,?_,.nil,rfl,.inl rfl,rfl,rfl,.none,.nil,λh=>absurd rfl h⟩;show pW (c.at f) g (x++dE _ undef) (y++dE _ undef);rw[<-h.size];refine⟨by simp[h.size],λi u v d a=> ?_⟩;rw[Array.getElem?_append]at d a;rw[<-h.size]at a;split at d;rename_i e;rw[if_pos e]at a;exact h.at_ i u v d a;rename_i e;rw[if_neg e]at a;rw[Array.getElem?_replicate]at d a;split at d;rename_i e;rw[if_pos e]at a;cases d;cases a;exact .inl (.tuple rfl (by simp));cases d;show G5 (c.at f) [] [] g [.code ((P.funcs[f]?.bind (·.body)).getD _)] [.code ((P.funcs[f]?.bind (·.body)).getD _)];rw[j];simp only[Option.bind_some,k,Option.getD_some];exact .cons (.code l) .nil
def jq(g c):∀e∈seen P g c,e∈c:=by
 unfold seen;simp only;rw[<-Array.foldl_toList];have d:∀(l:List Event)(q:Bool)(kept:Array Event),∀e∈(l.foldl (λ(x:Bool×Array Event) e=>
  match e.loc with
  |.mark (.extern f)=>((P.funcs[f]?).any (·.norace),x.2)|_=>(x.1,if x.1&& !e.sync then x.2 else x.2.push e)) (q,kept)).2,e∈kept\/e∈l:=by
  intro l
  induction l with
  |nil=>intro q kept e b;exact .inl b|cons a l i=>
   intro q kept e b;rw[o5]at b;rcases i _ _ e b with h|h;have:e∈kept\/e=a:=by revert h;simp only;split;intro h;exact .inl h;split;intro h;exact .inl h;intro h;rcases Array.mem_push.1 h with h|h;exact .inl h;exact .inr h
   rcases this with h|h;exact .inl h;exact .inr (by simp[h]);exact .inr (by simp[h])
 intro e b;rcases d c.toList ((P.funcs[g]?).any (·.norace)) #[] e b with h|h;simp at h;simpa using h
end
def Up(c d:h9)(a:eu):Prop:=d=c.cl\/(d=c.at a/\c.fn a=ak)
def Up.sig{c d a}(h:Up c d a):d.sig=c.sig:=by rcases h with rfl|⟨rfl,_⟩<;>rfl
def Up.fits{P c d a}(h:Up c d a)(b:c.Fits P):d.Fits P:=by rcases h with rfl|⟨rfl,_⟩;exact b.cl;exact b.at a
def Up.up{c d e b a}(h:Up c d b)(k:Up d e a):Up c e a:=by rcases h with rfl|⟨rfl,_⟩<;>exact k
inductive G6(c:h9) (kL kR:List Item) (π:Ren) (cl cr:List dj) (ro:Option Nat×eu):aw->aw->Prop
 |stay {a b:dj}:pQ c kL kR π a b->sM a=ro->G6 c kL kR π cl cr ro (iZ a cl) (iZ b cr)
 |push {d:h9} {f g a b:dj}:Up c d f.fn->pQ d [] [] π f g->pQ c kL kR π a b->sM a=ro->G6 c kL kR π cl cr ro (iZ f (a::cl)) (iZ g (b::cr))
 |pop {x y:dj} {l m:List dj} {v v':aB}:ro.1≠ah->cl=x::l->cr=y::m->bz c.sig π v v'->G6 c kL kR π cl cr ro (iZ (x.finish v) l) (iZ (y.finish v') m)
def uL(P:br)(c:h9)(h:Ren)(cl:List dj)(s:GStep):Prop:=∃a b w g d e f,s=.go (iZ a cl) w g/\a.mode=.panicking b/\cg P c.sig d w e/\dp (lE d) a.defers f/\Ext P h d
def sw(s:GStep):Prop:=∃o w a,s=.ended o w a
def lO(P:br)(c:h9)(kL kR:List Item)(g:Ren)(L R:ar)(cl k:List dj)(m:Option Nat×eu)(f n:GStep):Prop:=sw f\/uL P c g cl f\/∃i b l,f=.go i b l/\L.drawn<=b.drawn/\b.tape=L.tape/\(MC L R b.drawn->∃a j d h,Ext P g a/\n=.go j d h/\G6 c kL kR a cl k m i j/\cg P c.sig a b d/\vu g a L R b d/\d.drawn+L.drawn=R.drawn+b.drawn/\∀e∈h,zy c.sig a e)
section
variable{P:br} {c:h9} {Z Y:List Item}
def lO.here{d L R cl e g a b}(f:cg P c.sig d L R)(h:pQ c Z Y d a b)(i:sM a=g):lO P c Z Y d L R cl e g (.go (iZ a cl) L) (.go (iZ b e) R):=.inr (.inr ⟨_,_,_,rfl,ao _,rfl,λ_=>⟨d,_,_,_,Ext.refl f.ok,rfl,.stay h i,f,vu.refl _ _ _,rfl,by simp⟩⟩)
def jP(b g w a):GStep.after b (.go g w a)=.go g w (b++a):=rfl
def Ff{d a b}(h:pQ c Z Y d a b)(vs):(a.raise vs).mode=.panicking vs/\(a.raise vs).defers=a.defers:=by unfold Frame.raise;rcases h.ok with e|e<;>rw[e]<;>exact⟨rfl,rfl⟩
def rp(k:List Item)(h:ny k=ak):(match k with|.call _ ak _ _::_=>CallKind.wrapped|_=>.normal)=.normal:=by
 cases k with
 |nil=>rfl|cons x k=>cases x<;>first|rfl|cases h
def xa{O}(hc:c.Fits P){L R}(T:cg P c.sig O L R){a b}(h:pQ c Z Y O a b)(cl B){s U Q}(hs:av P c.sig Q s O U)(V:∀d n n',Ext P O d->Q d n n'->zC c d n n'\/∃v,n=.value v/\n'=.value v/\(pQ c Z Y d a b->pQ c Z Y d (a.finish v) (b.finish v)/\sM (a.finish v)=sM a)):lO P c Z Y O L R cl B (sM a) (e7 P ak a cl ah s L) (e7 P ak b B ah U R):=by
 have W:=hs.run T #[] #[];have kdL:(match a.todo with|.call _ ak _ _::_=>CallKind.wrapped|_=>.normal)=.normal:=by
  have E:=h.todo;have D:=h.ks;revert E;generalize a.todo=k;generalize b.todo=k';intro E;cases E with
  |nil=>first|exact rp _ D.Wv|exact rp _ D.ZA
  |cons hi _=>cases hi<;>rfl
 have kdR:(match b.todo with|.call _ ak _ _::_=>CallKind.wrapped|_=>.normal)=.normal:=by
  have E:=h.todo;have D:=h.ks;revert E;generalize a.todo=k;generalize b.todo=k';intro E;cases E with
  |nil=>first|exact rp _ D.Wv|exact rp _ D.ZA
  |cons hi _=>cases hi<;>rfl
 revert W;cases o:s.runT P L #[]with
 |mk r es=>
  cases r with
  |halt x S=>
   rintro⟨hl,d,p,e,N⟩;cases x with
   |panic v=>
    have hd:=Ff h [{v,recovered:=false}];have M:∃I,e7 P ak a cl ah s L=.go (iZ (a.raise [{v,recovered:=false}]) cl) S I:=⟨_,by unfold e7;simp only[if_true,o,jP];rfl⟩
    obtain⟨I,M⟩:=M;exact .inr (.inl ⟨_,_,S,I,d,p,b.defers,M,hd.1,N,by rw[hd.2];exact lE.list e h.defers,e⟩)
   |stuck w=>refine .inl ?_;unfold e7;simp only[if_true,o];exact⟨_,_,_,rfl⟩|unsupported u=>
    cases u with|initOrder g=>cases hl|_=>refine .inl ?_;unfold e7;simp only[if_true,o];exact⟨_,_,_,rfl⟩
   |_=>cases hl
  |ok x S=>
   rintro⟨h1,h2,h3⟩;have nx:∀gL:aw,(∃J,e7 P ak a cl ah s L=.go gL S J)->(∀d H p,Ext P O d->Q d x H->(∃m,U.runT P R #[]=(.ok H p,m))->∃gR,G6 c Z Y d cl B (sM a) gL gR/\∀m,U.runT P R #[]=(.ok H p,m)->∃G,e7 P ak b B ah U R=.go gR p G/\∀e∈G,e∈m)->
    lO P c Z Y O L R cl B (sM a) (e7 P ak a cl ah s L) (e7 P ak b B ah U R):=by
    rintro gL ⟨J,hL⟩ hk;refine .inr (.inr ⟨gL,S,J,hL,h1,h2,λag=> ?_⟩);obtain⟨d,H,p,m,e,A,j,N,hd,YI,Ip⟩:=h3 ag;simp only[jF]at A;obtain⟨gR,E,hR⟩:=hk d H p e j ⟨m,A⟩;obtain⟨G,hR',X⟩:=hR m A;exact⟨d,gR,p,G,e,hR',E,N,hd,YI,λx hx=>Ip x (X x hx)⟩
   have C:∀(m:Array Event)(fn:eu)(k:Bool),∀e∈seen P fn (if k then #[]else m)++#[],e∈m:=by
    intro m fn k e he;rw[Array.append_empty]at he;have:=jq fn _ e he;cases k with|true=>simp at this|false=>exact this
   cases x with
   |value v=>
    refine nx (iZ (a.finish v) cl) ⟨_,by unfold e7;simp only[if_true,o,jP];rfl⟩ λd H p e j K=> ?_
    rcases V d _ _ e j with j|⟨v2,F,rfl,z⟩;rotate_left;cases F;have z:=z (h.mono e);exact⟨iZ (b.finish v) B,.stay z.1 z.2,λm A=>⟨_,by unfold e7;simp only[if_true,A,jP];rfl,C _ _ _⟩⟩;cases j with|value hv=>rename_i v';have z:=(h.mono e).finish hv;exact⟨iZ (b.finish v') B,.stay z.1 z.2,λm A=>⟨_,by unfold e7;simp only[if_true,A,jP];rfl,C _ _ _⟩⟩
   |skip=>
    refine nx (iZ (a.finish undef) cl) ⟨_,by unfold e7;simp only[if_true,o,jP];rfl⟩ λd H p e j K=> ?_
    replace j:=(V d _ _ e j).resolve_right (by rintro⟨_,F,_⟩;cases F)
    cases j with|skip=>have z:=(h.mono e).finish (v:=undef) (v':=undef) (.tuple rfl (by simp));exact⟨iZ (b.finish undef) B,.stay z.1 z.2,λm A=>⟨_,by unfold e7;simp only[if_true,A,jP];rfl,C _ _ _⟩⟩
   |enter f x=>
    refine nx (iZ (fi P f x .normal) (a::cl)) ⟨_,by unfold e7;simp only[if_true,o,jP];exact congrArg (λk=>GStep.go (iZ (fi P f x k) (a::cl)) S (seen P a.fn (if a.kind== .early then #[]else es)++#[])) kdL⟩ λd H p e j K=> ?_
    replace j:=(V d _ _ e j).resolve_right (by rintro⟨_,F,_⟩;cases F)
    cases j with|enter z hx=>rename_i y;exact⟨iZ (fi P f y .normal) (b::B),.push (.inr ⟨rfl,z⟩) (pQ.enter hc z hx) (h.mono e) rfl,λm A=>⟨_,by unfold e7;simp only[if_true,A,jP];exact congrArg (λk=>GStep.go (iZ (fi P f y k) (b::B)) p (seen P b.fn (if b.kind== .early then #[]else m)++#[])) kdR,C _ _ _⟩⟩
   |round l f t x y=>
    refine nx (iZ (Frame.round l f t x y .normal) (a::cl)) ⟨_,by unfold e7;simp only[if_true,o,jP];rfl⟩ λd H p e j K=> ?_
    replace j:=(V d _ _ e j).resolve_right (by rintro⟨_,F,_⟩;cases F)
    cases j with|round hl E hx hy=>rename_i l' t';exact⟨iZ (Frame.round l' f t' x y .normal) (b::B),.push (.inl rfl) ⟨rfl,.of E,.cons (.code hx) (.cons .beginRound (.cons (.code hy) .nil)),.nil,rfl,.inl rfl,rfl,rfl,.some hl,.nil,λ_=>rfl⟩ (h.mono e) rfl,λm A=>⟨_,by unfold e7;simp only[if_true,A,jP];rfl,C _ _ _⟩⟩
   |_=>exfalso;have:=hs.run (R:={R with tape:=L.tape,drawn:=L.drawn}) ⟨T.ok,T.obj,T.mG,T.rm,T.old⟩ #[] #[];rw[o]at this;obtain⟨π2,_,_,_,e,_,j,_⟩:=this.2.2 (λi q _=>rfl);rcases V π2 _ _ e j with j|⟨_,F,_⟩;cases j;cases F
end
section
variable{P:br} {c:h9} {Z Y:List Item}
def phase{a}(P:br)(b:eu)(s:Sem a)(k:a->ar->GStep)(h:Halt->ar->GStep)(w:ar):GStep:=
 match s.runT P w #[]with|(r,es)=>GStep.after (seen P b es) (match r with|.ok x w=>k x w|.halt x w=>h x w)
def Ku(R L:ar)(d):MC L {R with tape:=L.tape,drawn:=L.drawn} d:=λ_ _ _=>rfl
def sw.after{s}(h:sw s)(a):sw (GStep.after a s):=by obtain⟨o,w,b,rfl⟩:=h;exact⟨o,w,_,rfl⟩
def uL.after{f b cl s}(h:uL P c b cl s)(k)(e:Ext P f b):uL P c f cl (GStep.after k s):=by obtain⟨a,i,w,l,d,g,j,rfl,m,n,o,p⟩:=h;exact⟨a,i,w,_,d,g,j,rfl,m,n,o,e.trans p⟩
def qA{α β}{Q:Ren->α->β->Prop}{m s s'}(hs:av P c.sig Q s m s'){L R}(l:cg P c.sig m L R){fn B cl W ro k k' h h'}(hk:∀b x y d f,Ext P m b->Q b x y->cg P c.sig b d f->lO P c Z Y b d f cl W ro (k x d) (k' y f))(n:∀x d b f,x.lost=ak->Ext P m b->cg P c.sig b d f->sw (h x d)\/uL P c m cl (h x d)):lO P c Z Y m L R cl W ro (phase P fn s k h L) (phase P B s' k' h' R):=by
 have u:=hs.run l #[] #[];have o:=hs.run (R:={R with tape:=L.tape,drawn:=L.drawn}) ⟨l.ok,l.obj,l.mG,l.rm,l.old⟩ #[] #[];unfold phase;revert u o;cases hrL:s.runT P L #[]with
 |mk r es=>
  cases r with
  |halt x d=>rintro⟨hl,b,f,e,g⟩ _;rcases n x d b f hl e g with n|n;exact .inl (n.after _);exact .inr (.inl (n.after _ (Ext.refl l.ok)))
  |ok x d=>
   rintro⟨C,z,D⟩ ⟨_,_,E⟩;obtain⟨S,y1,R1,ev1,e1,_,K,N,_,_,_⟩:=E (Ku R L _);by_cases hE:sw (k x d);exact .inl (hE.after _);by_cases hP:uL P c m cl (k x d);exact .inr (.inl (hP.after _ (Ext.refl l.ok)));have third:∀b y f,Ext P m b->Q b x y->cg P c.sig b d f->_:=λb y f e J g=>((hk b x y d f e J g).resolve_left hE).resolve_left λh=>hP (by have:=h.after #[] e;obtain⟨a,ch,w,A,T,R2,ds,n,C,z,D,E⟩:=h;exact⟨a,ch,w,A,T,R2,ds,n,C,z,D,e.trans E⟩)
   obtain⟨gL,L2,es2,t,F,M,_⟩:=third S y1 R1 e1 K N;refine .inr (.inr ⟨gL,L2,_,by simp only[t,jP];rfl,bD C F,M.trans z,λV=> ?_⟩);obtain⟨b,y,f,ev,e,hr,J,g,hd,YI,H⟩:=D (λi q hi=>V i q (by omega));simp only[jF]at hr;obtain⟨gL',L2',acM,j,_,_,hA⟩:=third b y f e J g;rw[t]at j;cases j;obtain⟨U,gR,R3,ev3,X,I,ht,O,G,acW,p⟩:=hA (λi q hi=>by have:=V (d.drawn-L.drawn+i) q (by omega);rw[show R.drawn+(d.drawn-L.drawn+i)=f.drawn+i by omega,show L.drawn+(d.drawn-L.drawn+i)=d.drawn+i by omega]at this;rw[hd.tape,z];exact this)
   refine⟨U,gR,R3,_,e.trans X,by simp only[hr,I,jP];rfl,ht,O,hd.trans G,by omega,λx v=> ?_⟩;rcases nl.1 v with v|v;exact(H x (jq _ _ _ v)).mono X;exact p x v
end
section
variable{P:br} {c:h9} {Z Y:List Item}
def I8{f}(s:Ren.Ok P f)(fn){t u}(E:cH c.sig f t u)(o){a b}(A:dm c.cl a=ak)(B:dm c.cl b=ak){v l}(k:gh f v l):av P c.sig (λf x y=>f x.1 y.1/\dp (lE f) x.2 y.2) (Instr.enterLoop fn t o a b v) f (Instr.enterLoop fn u o a b l):=by
 unfold Instr.enterLoop;have z:∀(g:Ren)(d p:Nat)(m q:List Deferred),Ext P f g->g d p->dp (lE g) m q->av P c.sig (λf x y=>f x.1 y.1/\dp (lE f) x.2 y.2)
  (do pure (<-newObj (.loop {state:=.ready,pending:=ah,fn,tmps:=t,params:=o,assign:=a,body:=b,defers:=d}),m)) g
  (do pure (<-newObj (.loop {state:=.ready,pending:=ah,fn,tmps:=u,params:=o,assign:=a,body:=b,defers:=p}),q)):=λg d p m q e C hm=>
  av.bind e.ok (Bc (.loop ⟨rfl,rfl,(λ_ h=>by cases h),rfl,cH.mono e E,rfl,rfl,A,rfl,B,C⟩)) λj r w n k=>au ⟨k,lE.list n hm⟩
 cases k with
 |none=>
  refine av.bind s (Bc (.deferred ak)) λg r w e k=> ?_
  exact av.bind (Q:=λf x y=>f x.1 y.1/\dp (lE f) x.2 y.2) e.ok (au ⟨k,.cons (.mk k) .nil⟩) λj x y n i=>z j _ _ _ _ (e.trans n) i.1 i.2
 |some D=>
  refine av.bind s (qD s D) λg r w e k=> ?_
  exact av.bind (Q:=λf x y=>f x.1 y.1/\dp (lE f) x.2 y.2) e.ok (au ⟨k.defers,.nil⟩) λj x y n i=>z j _ _ _ _ (e.trans n) i.1 i.2
def ya.set{S c a b}(h:ya S c a b)(s j)(d:∀x,j=af x->S.code x):ya S c {a with state:=s,pending:=j} {b with state:=s,pending:=j}:=⟨rfl,rfl,d,h.fn,h.tmps,h.params,h.assign,h.okA,h.body,h.okB,h.defers⟩
def ya.E0{S c a b}(h:ya S c a b)(s):ya S c {a with state:=s} {b with state:=s}:=⟨rfl,h.pending,h.okP,h.fn,h.tmps,h.params,h.assign,h.okA,h.body,h.okB,h.defers⟩
def F5{S a}(d:Ren.Ok P a){l c}(h:a l c):av P S kZ (Instr.beginRound l) a (Instr.beginRound c):=by
 unfold Instr.beginRound;refine av.bind d (qD d h) λg r j e b=> ?_
 refine av.bind e.ok (lr (e.le _ _ h) (.loop (b.E0 .busy))) λi _ _ f _=> ?_
 rw[b.state];cases r.state<;>first|exact au rfl|exact iW f.ok _
def LI{S a}(c:Ren.Ok P a){l b}(h:a l b)(j)(d:∀x,j=af x->S.code x):av P S (VQ S) (Instr.endRound l j) a (Instr.endRound b j):=by
 unfold Instr.endRound;refine av.bind c (qD c h) λg r m e f=> ?_
 exact av.bind e.ok (lr (e.le _ _ h) (.loop (f.set _ j d))) λi _ _ k _=>au (.bool _)
def Pt{S c}(f:Ren.Ok P c){l b}(h:c l b):av P S (λ_ x y=>y=x/\∀k,x=af k->S.code k) (Instr.endLoop l) c (Instr.endLoop b):=by
 unfold Instr.endLoop;refine av.bind f (qD f h) λd r g e a=> ?_
 rw[a.state];have i:av P S (λ_ x y=>y=x/\∀k,x=af k->S.code k) (do setObj l (.loop {r with state:=.exhausted});pure r.pending) d (do setObj b (.loop {g with state:=.exhausted});pure g.pending):=av.bind e.ok (lr (e.le _ _ h) (.loop (a.E0 .exhausted))) λj _ _ m _=>au ⟨a.pending,a.okP⟩
 cases r.state<;>first|exact i|exact av.bind (Q:=λ_ _ _=>False) e.ok (iW e.ok _) λ_ _ _ _ h=>h.elim
def ti{S a}(f:Ren.Ok P a){r c}(h:a r c):av P S (λ_ x y=>x=[]/\y=[]) (Instr.takeDeferred r) a (Instr.takeDeferred c):=by
 unfold Instr.takeDeferred;refine av.bind f (iB h) λg o k e d=> ?_
 cases d with
 |deferred b=>
  cases b with|false=>exact rfl|true=>exact av.bind e.ok (lr (e.le _ _ h) (.deferred aq)) λi _ _ j _=>au ⟨rfl,rfl⟩
 |_=>exact rfl
def xC(h:c.bad=[])(F:Func):F.results.toList.all (pf c.bad)=ak:=lD.2 λr _=>by rw[h];cases r<;>rfl
def VR{S}{q:Type}{f j i}(p:Ren.Ok P i)(x:Array q)(v:∀a∈x.toList,∀g,Ext P i g->av P S (VQ S) (f a) g (j a)):av P S (X6 S) (x.mapM f) i (x.mapM j):=by
 rw[Array.mapM_eq_mapM_toList,Array.mapM_eq_mapM_toList];have m:∀(l:List q)(d:Ren),(∀a∈l,∀g,Ext P i g->av P S (VQ S) (f a) g (j a))->Ext P i d->av P S (λi a b=>dp (bz S i) a b) (l.mapM f) d (l.mapM j):=by
  intro l
  induction l with|nil=>intro d _ e;rw[List.mapM_nil,List.mapM_nil];exact au .nil|cons a l w=>intro d o e;rw[List.mapM_cons,List.mapM_cons];exact av.bind e.ok (o a (by simp) d e) λn b r k h=>av.bind k.ok (w n (λa t=>o a (by simp[t])) (e.trans k)) λy c z s u=>au (.cons (h.mono s) u)
 exact av.bind p (m _ i v (Ext.refl p)) λd b r k h=>au (ig.Nf h)
def vf{j}(l:Ren.Ok P j)(F)(o:F.results.toList.all (pf c.bad)=ak){t m}(h:pW c j t m):av P c.sig (VQ c.sig) (results F t) j (results F m):=by
 unfold results;refine av.bind l (VR l _ (λa p q e=> ?_)) λr vs d u b=> ?_
 have k:=lD.1 o a p;cases a with|tmp t=>exact au ((h.mono e).getD (by simpa[pf]using k))|cell a t=>exact av.bind e.ok (I7 e.ok ((h.mono e).getD (by simpa[pf]using k))) λs x y n i=>EC n.ok t i
 by_cases f:vs.size=1;have g:d.size=1:=b.size▸f;rw[dif_pos f,dif_pos g];exact au (b.at_ 0 _ _ (aS _) (aS _));have g:¬d.size=1:=b.size▸f;rw[dif_neg f,dif_neg g];exact au (.tuple b.size b.at_)
def KQ{g}(d:Z4 Z Y)(i):∀{k a},G5 c Z Y g k a->(exitTo i k=ah/\(Z=[]->exitTo i a=ah))\/∃r f,exitTo i k=af r/\exitTo i a=af f/\G5 c Z Y g r f:=by
 intro k a h
 induction h with
 |nil=>exact .inl ⟨d.ex i,λe=>by rw[d.kk e];rfl⟩|cons l m b=>
  cases l with|inBlock j=>unfold exitTo;split;exact .inr ⟨_,_,rfl,rfl,m⟩;exact b|_=>exact b
def J6{l}(e){t g}(h:pW c l t g)(j):yielded e g j=yielded e t j:=by
 unfold yielded;cases((e[j]?).bind (·.dst))with
 |none=>rfl|some d=>simp only[Option.bind_some];rcases du d t.size with b|f;have a:d<g.size:=h.size▸b;rw[aS b,aS a];rcases h.at_ d _ _ (aS b) (aS a)with i|⟨_,k,_⟩;revert i;generalize t[d]=u;generalize g[d]=v;intro i;cases i<;>rfl;rw[k];rw[gP f,gP (h.size▸f)]
end
section
variable{P:br} {c:h9} {Z Y:List Item}
def wF(h:c.bad=[])(o):yU c o=aq:=by
 unfold yU;have a:∀t,c.bad.contains t=aq:=λt=>by rw[h];rfl
 split<;>simp only[a,Bool.false_and];split;simp only[Bool.true_and];split<;>rfl;simp
def Lq(h:c.bad=[])(f):∀l j,j8 c f j l=j8 c.cl f j l:=by
 intro l
 induction l with
 |nil=>intro j;rfl|cons x l a=>
  intro j;unfold j8;rw[a];congr 1;cases x with|tmp t=>simp[rX,ew,h9.cl,h]|_=>rfl
def Lr(h:c.bad=[])(o):jh c o=jh c.cl o:=by
 have a:ew c=ew c.cl:=funext λx=>by cases x<;>simp[ew,h9.cl,h]
 have b:=λf=>Lq h f
 have d:nM c=nM c.cl:=funext λk=>by unfold nM;rw[a];simp only[b];rfl
 unfold jh;rw[wF h,wF (c:=c.cl) rfl];congr 1;unfold n9;rw[a,d];rfl
def AG(h:c.bad=[]):∀x:Code,dm c x=dm c.cl x:=by
 have k:ew c=ew c.cl:=funext λx=>by cases x<;>simp[ew,h9.cl,h]
 have l:jh c=jh c.cl:=funext λo=>Lr h o
 intro x
 induction x with|region n m d=>simp only[dm,l]|seq a b e g=>simp only[dm,e,g]|cond o a b e g=>simp only[dm,e,g,k]|block i b j=>simp only[dm,j]|loop b j=>simp only[dm,j]|scope b j=>simp only[dm,j]|rangeFunc f p a b e g=>simp only[dm,e,g,k,h];rfl|_=>rfl
def sX(P:br)(m:Bool)(a:dj)(cl:List dj)(j:Option Code)(w:ar):GStep:=
 match a.roundOf with
 |none=>if j matches ah|some .ret then .go (iZ {a with mode:=.returning} cl) w else .ended (.stuck "exit, goto: no such block or label" (a.pos P)) w
 |some l=>phase P a.fn (Instr.endRound l j) (λv w=>doReturn P m a cl ah v w) (λ_ w=>.ended (.stuck "range over a function: no such loop" (a.pos P)) w) w
def rq{d L R}(g:cg P c.sig d L R){a b}(h:pQ c Z Y d a b){x y l r v e}(o:bz c.sig d v e)(m i){j}(f:j.1≠ah):lO P c Z Y d L R (x::l) (y::r) j (doReturn P m a (x::l) ah v L) (doReturn P i b (y::r) ah e R):=by
 have k:doReturn P m a (x::l) ah v L=.go (iZ (x.finish v) l) L:=by unfold doReturn;simp only[h.kind]
 have n:doReturn P i b (y::r) ah e R=.go (iZ (y.finish e) r) R:=by unfold doReturn;simp only[h.Iz]
 rw[k,n];exact .inr (.inr ⟨_,_,_,rfl,ao _,rfl,λ_=>⟨d,_,_,_,Ext.refl g.ok,rfl,.pop f rfl rfl o,g,vu.refl _ _ _,rfl,by simp⟩⟩)
def xu{o L R}(s:cg P c.sig o L R){a b}(h:pQ c Z Y o a b){cl k}(q:a.roundOf≠ah->∃x l y m,cl=x::l/\k=y::m)(m z j)(A:∀x,j=af x->dm c.cl x=ak):lO P c Z Y o L R cl k (sM a) (sX P m a cl j L) (sX P z b k j R):=by
 obtain⟨fn,tmps,todo,defers,mode,kind,round⟩:=a;obtain⟨p,g,i,d,u,f,n⟩:=b;have w:=h.round;simp only at w;cases w with
 |none=>
  have main:lO P c Z Y o L R cl k (ah,fn) (.go (iZ {fn,tmps,todo,defers,mode:=.returning,kind,roundOf:=ah} cl) L) (.go (iZ {fn:=p,tmps:=g,todo:=i,defers:=d,mode:=.returning,kind:=f,roundOf:=ah} k) R):=lO.here s ⟨h.fn,h.tmps,h.todo,h.defers,rfl,.inr rfl,h.kind,h.Iz,.none,h.ks,λh=>absurd rfl h⟩ rfl
  cases j with
  |none=>exact main|some x=>cases x<;>first|exact main|exact .inl ⟨_,_,_,rfl⟩
 |some B=>obtain⟨x,l,y,r,rfl,rfl⟩:=q (by simp);exact qA (LI s.ok B j A) s (λD v G E F e C t=>rq t (h.mono e) C m z (by simp)) (λ_ _ _ _ _ _ _=>.inl ⟨_,_,_,rfl⟩)
def Hy(m b cl w)(h:b.todo=[]):ik P m ak b cl ah w=sX P m b cl ah w:=by
 obtain⟨i,e,f,a,d,c,round⟩:=b;simp only at h;subst h;cases round with
 |none=>rfl|some l=>
  unfold ik sX phase;simp only;cases(Instr.endRound l ah).runT P w #[]with|mk r g=>cases r<;>rfl
def H4(m b cl w k)(h:b.todo=.code .ret::k):ik P m ak b cl ah w=sX P m b cl (af .ret) w:=by
 obtain⟨i,e,f,a,d,c,round⟩:=b;simp only at h;subst h;cases round with
 |none=>rfl|some l=>
  unfold ik sX phase;simp only;cases(Instr.endRound l (af .ret)).runT P w #[]with|mk r g=>cases r<;>rfl
def DU(m a cl w i k)(h:a.todo=.code (.exit i)::k):ik P m ak a cl ah w=(exitTo i k).elim (sX P m a cl (af (.exit i)) w) λk=>.go (iZ {a with todo:=k} cl) w:=by
 obtain⟨g,e,todo,b,d,c,round⟩:=a;simp only at h;subst h;cases round with
 |none=>rfl|some l=>
  unfold ik sX phase;simp only;cases exitTo i k with
  |some k=>rfl|none=>
   simp only[Option.elim_none];cases(Instr.endRound l (af (.exit i))).runT P w #[]with|mk r f=>cases r<;>rfl
def Hx(m:Bool)(a:dj)(cl:List dj)(w:ar)(l:Nat)(k:List Item)(h:a.todo=.endRangeFunc l::k):ik P m ak a cl ah w=phase P a.fn (Instr.endLoop l) (λb w=>.go (iZ {a with todo:=(b.map Item.code).toList++k} cl) w) (λx w=>match x with
 |.panic v=>.go (iZ (a.raise [{v,recovered:=false}]) cl) w|_=>.ended (.stuck "range over a function: no such loop" (a.pos P)) w) w:=by
 obtain⟨i,f,todo,c,e,d,round⟩:=a;simp only at h;subst h;unfold ik phase;simp only;cases(Instr.endLoop l).runT P w #[]with
 |mk r g=>
  cases r with|ok _ _=>rfl|halt x _=>cases x<;>rfl
def MQ(m a cl w f e x y k)(h:a.todo=.code (.rangeFunc f e x y)::k):ik P m ak a cl ah w=phase P a.fn (Instr.enterLoop a.fn a.tmps e x y a.roundOf) (λb w=>e7 P ak {a with todo:=.inRangeFunc b.1::k,defers:=b.2++a.defers} cl ah (do let d<-resolve (Frame.eval {a with todo:=.inRangeFunc b.1::k,defers:=b.2++a.defers}) {callee:=.value f,args:=#[.const (.func (.yield b.1) #[] #[])],argTypes:=#[]} 0;invoke d.target d.args) w) (λ_ w=>.ended (.stuck "range over a function: no such loop" (a.pos P)) w) w:=by
 obtain⟨j,c,todo,defers,i,g,round⟩:=a;simp only at h;subst h;unfold ik phase;simp only;cases(Instr.enterLoop j c e x y round).runT P w #[]with
 |mk r l=>
  cases r with|ok _ _=>rfl|halt x _=>rfl
def Bm(a:dj)(f v):resolve a.eval {callee:=.value f,args:=#[.const v],argTypes:=#[]} 0=gE (a.eval f) #[v]:=by simp[resolve,Frame.eval]
def Hz(hc:c.Fits P){π L R}(B:cg P c.sig π L R){a b}(h:pQ c Z Y π a b){cl C}(T:a.roundOf≠ah->∃x l y m,cl=x::l/\C=y::m)(hm:a.mode=.run)(Vf:a.todo=Z->Z=[])(m M):lO P c Z Y π L R cl C (sM a) (ik P m ak a cl ah L) (ik P M ak b C ah R):=by
 have hEv:=h.W1;have hEB:=h.evB;obtain⟨fn,tmps,todo,defers,mode,kind,round⟩:=a;obtain⟨fn',q,acH,g,acF,Iz,p⟩:=b;have h':=h;obtain⟨h1,N,h3,h4,h5,h6,h7,h8,U,F,G⟩:=h';simp only at h1 N h3 h4 h5 h6 h7 h8 U hm Vf G;subst hm;subst h5;subst h7;subst h8;have h1:=h1.symm;subst h1;have I:∀{k E:List Item},G5 c Z Y π k E->lO P c Z Y π L R cl C (round,fn)
  (.go (iZ {fn,tmps,todo:=k,defers,mode:=.run,kind:=.normal,roundOf:=round} cl) L)
  (.go (iZ {fn,tmps:=q,todo:=E,defers:=g,mode:=.run,kind:=.normal,roundOf:=p} C) R):=λD=>
  lO.here B ⟨rfl,N,D,h4,rfl,.inl rfl,rfl,rfl,U,F,G⟩ rfl
 cases h3 with
 |nil=>have hkL:=Vf rfl;have hkR:=F.kk hkL;rw[Hy m _ cl L hkL,Hy M _ C R hkR];exact xu B h T m M ah (λ_ h=>by cases h)|cons hi D=>
  rename_i k E;cases hi with
  |inBlock i=>exact I D|inScope h=>exact I D|inLoop V=>exact I (.cons (.code V) (.cons (.inLoop V) D))|inRangeFunc _ X=>exact .inl ⟨_,_,_,rfl⟩|beginRound=>
   refine xa hc B h cl C (Q:=NQ c) ?_ λ_ _ _ _ h=>.inl h
   show av P c.sig (NQ c) (do round.elim (stuck "beginRound: no round") Instr.beginRound;pure .skip) π (do p.elim (stuck "beginRound: no round") Instr.beginRound;pure .skip);cases U with|none=>exact rfl|some X=>exact LP B.ok (F5 B.ok X)
  |endRangeFunc V X=>
   rename_i l l';rw[Hx m _ cl L l k rfl,Hx M _ C R l' E rfl];refine qA (Pt B.ok X) B (λJ x y L' R' e hxy H=> ?_) (λx L' J R' _ e H=> ?_);obtain⟨rfl,A⟩:=hxy;refine lO.here H ⟨rfl,N.mono e,?_,lE.list e h4,rfl,.inl rfl,rfl,rfl,gh.ren e U,F,G⟩ rfl;cases y with|none=>exact D.mono e|some j=>exact .cons (.code (by have:=A j rfl;rwa[show c.sig.code j=(dm c.cl j=ak)from rfl,<-AG V]at this)) (D.mono e)
   cases x with|panic v=>exact .inr ⟨_,_,L',_,J,R',g,rfl,rfl,H,lE.list e h4,e⟩|_=>exact .inl ⟨_,_,_,rfl⟩
  |inRegion l ho=>
   rename_i s;cases l with
   |nil=>exact I D|cons i t=>
    have acm:yielded s q=yielded s tmps:=funext λj=>J6 s N j
    have W:=h.finish (v:=undef) (v':=undef) (.tuple rfl (by simp));have e1:ik P m ak {fn,tmps,todo:=.inRegion s (i::t)::k,defers,mode:=.run,kind:=.normal,roundOf:=round} cl ah L=
     if((s[i]?).map (Region.wanted · (yielded s tmps))).getD aq then stepG.oper P ak {fn,tmps,todo:=.inRegion s (i::t)::k,defers,mode:=.run,kind:=.normal,roundOf:=round} cl ah L
     else .go (iZ (Frame.finish {fn,tmps,todo:=.inRegion s (i::t)::k,defers,mode:=.run,kind:=.normal,roundOf:=round} undef) cl) L:=rfl
    have e2:ik P M ak {fn,tmps:=q,todo:=.inRegion s (i::t)::E,defers:=g,mode:=.run,kind:=.normal,roundOf:=p} C ah R=
     if((s[i]?).map (Region.wanted · (yielded s q))).getD aq then stepG.oper P ak {fn,tmps:=q,todo:=.inRegion s (i::t)::E,defers:=g,mode:=.run,kind:=.normal,roundOf:=p} C ah R
     else .go (iZ (Frame.finish {fn,tmps:=q,todo:=.inRegion s (i::t)::E,defers:=g,mode:=.run,kind:=.normal,roundOf:=p} undef) C) R:=rfl
    rw[e1,e2,acm];split;unfold stepG.oper;have o1:Frame.oper? {fn,tmps,todo:=.inRegion s (i::t)::k,defers,mode:=.run,kind:=.normal,roundOf:=round}=s[i]?:=rfl;have o2:Frame.oper? {fn,tmps:=q,todo:=.inRegion s (i::t)::E,defers:=g,mode:=.run,kind:=.normal,roundOf:=p}=s[i]?:=rfl;rw[o1,o2];cases hoi:s[i]? with
    |none=>exact .inl ⟨_,_,_,rfl⟩|some o=>
     obtain⟨lW,ab4⟩:=aC.1 hoi;have S:jh c o=ak:=by have:=eP.1 ho i lW;rwa[ab4]at this
     have main:=xa hc B h cl C (SU hc B.ok hEv hEB o S) λJ n n' e hq=>hq.imp id λ⟨v,d,e1,e2,e3,e4,e5⟩=>⟨v,e1,e2,λh=>h.UX rfl hoi e3 e4 e5⟩
     simp only;cases hop:o.op with|defer k=>unfold jh n9 yU at S;rw[hop]at S;cases S|_=>cases U<;>exact main
    exact lO.here B W.1 W.2
  |code A=>
   rename_i x;cases x with
   |skip=>exact I D|label l=>cases A|goto l=>cases A|refuse w=>cases A|ret=>rw[H4 m _ cl L k rfl,H4 M _ C R E rfl];exact xu B h T m M (af .ret) (λ_ h=>by cases h;rfl)|seq x y=>simp only[dm,ay]at A;exact I (.cons (.code A.1) (.cons (.code A.2) D))|cond o x y=>
    simp only[dm,ay]at A;have hv:=hEv o A.1.1;have e1:ik P m ak {fn,tmps,todo:=.code (.cond o x y)::k,defers,mode:=.run,kind:=.normal,roundOf:=round} cl ah L=
     match Frame.eval {fn,tmps,todo:=.code (.cond o x y)::k,defers,mode:=.run,kind:=.normal,roundOf:=round} o with|.bool b=>.go (iZ {fn,tmps,todo:=.code (if b then x else y)::k,defers,mode:=.run,kind:=.normal,roundOf:=round} cl) L|_=>.ended (.stuck "cond: bool expected" (Frame.pos P {fn,tmps,todo:=.code (.cond o x y)::k,defers,mode:=.run,kind:=.normal,roundOf:=round})) L:=rfl
    have e2:ik P M ak {fn,tmps:=q,todo:=.code (.cond o x y)::E,defers:=g,mode:=.run,kind:=.normal,roundOf:=p} C ah R=
     match Frame.eval {fn,tmps:=q,todo:=.code (.cond o x y)::E,defers:=g,mode:=.run,kind:=.normal,roundOf:=p} o with|.bool b=>.go (iZ {fn,tmps:=q,todo:=.code (if b then x else y)::E,defers:=g,mode:=.run,kind:=.normal,roundOf:=p} C) R|_=>.ended (.stuck "cond: bool expected" (Frame.pos P {fn,tmps:=q,todo:=.code (.cond o x y)::E,defers:=g,mode:=.run,kind:=.normal,roundOf:=p})) R:=rfl
    rw[e1,e2];revert hv;generalize Frame.eval {fn,tmps,todo:=.code (.cond o x y)::k,defers,mode:=.run,kind:=.normal,roundOf:=round} o=v;generalize Frame.eval {fn,tmps:=q,todo:=.code (.cond o x y)::E,defers:=g,mode:=.run,kind:=.normal,roundOf:=p} o=v';intro hv;cases hv with
    |bool b=>cases b<;>first|exact I (.cons (.code A.2) D)|exact I (.cons (.code A.1.2) D)
    |_=>exact .inl ⟨_,_,_,rfl⟩
   |block i x=>exact I (.cons (.code A) (.cons (.inBlock i) D))|loop x=>exact I (.cons (.code A) (.cons (.inLoop A) D))|scope x=>exact I (.cons (.code A) (.cons (.inScope A) D))|exit i=>rw[DU m _ cl L i k rfl,DU M _ C R i E rfl];rcases KQ F i D with⟨he,Va⟩|⟨r,r',he,Va,hk2⟩;by_cases hr:round=ah;subst hr;refine .inl ?_;rw[he];exact⟨_,_,_,rfl⟩;rw[he,Va (G hr)];exact xu B h T m M (af (.exit i)) (λ_ h=>by cases h;rfl);rw[he,Va];exact I hk2
   |region id s draw=>
    cases draw with|false=>exact I (.cons (.inRegion _ A) D)|true=>refine .inr (.inr ⟨iZ {fn,tmps,todo:=.inRegion s (Region.schedule (P.follows .mixedOrders) s (L.tape L.drawn (.order fn id)))::k,defers,mode:=.run,kind:=.normal,roundOf:=round} cl,{L with drawn:=L.drawn+1},_,rfl,by simp,rfl,λag=> ?_⟩);have ag0:=ag 0 (.order fn id) (by simp);simp only[j6]at ag0;refine⟨π,iZ {fn,tmps:=q,todo:=.inRegion s (Region.schedule (P.follows .mixedOrders) s (R.tape R.drawn (.order fn id)))::E,defers:=g,mode:=.run,kind:=.normal,roundOf:=p} C,{R with drawn:=R.drawn+1},_,Ext.refl B.ok,rfl,?_,⟨B.ok,B.obj,B.mG,B.rm,B.old⟩,⟨rfl,rfl,rfl,rfl,rfl,ao _,ao _,bM _ _▸rfl,λ_ _ _=>rfl,λ_ _ _=>rfl,λ_ _ h=>.inl h,λl h1 N=>by simp only at N;omega,λ_ _ h=>h⟩,by simp;omega,by simp⟩;rw[ag0];exact .stay ⟨rfl,N,.cons (.inRegion _ A) D,h4,rfl,.inl rfl,rfl,rfl,U,F,G⟩ rfl
   |rangeFunc f ps x y=>
    simp only[dm,ay]at A;have V:c.bad=[]:=by simpa using A.1.1.1
    have h2v:=N.vs V;have hcx:∀z,dm c z=ak->dm c.cl z=ak:=λz hz=>by rw[<-AG V];exact hz
    rw[MQ m _ cl L f ps x y k rfl,MQ M _ C R f ps x y E rfl];refine qA (I8 B.ok fn h2v ps (hcx _ A.1.2) (hcx _ A.2) U) B (λJ lm K L' R' e O H=> ?_) (λ_ _ _ _ _ _ _=>.inl ⟨_,_,_,rfl⟩);have hf:pQ c Z Y J {fn,tmps,todo:=.inRangeFunc lm.1::k,defers:=lm.2++defers,mode:=.run,kind:=.normal,roundOf:=round} {fn,tmps:=q,todo:=.inRangeFunc K.1::E,defers:=K.2++g,mode:=.run,kind:=.normal,roundOf:=p}:=by
     refine⟨rfl,N.mono e,.cons (.inRangeFunc V O.1) (D.mono e),?_,rfl,.inl rfl,rfl,rfl,gh.ren e U,F,G⟩;have hd:=lE.list e h4;have X:=O.2;clear O T;show dp (lE J) (lm.2++defers) (K.2++g);generalize lm.2=u at X;generalize K.2=u' at X
     induction X with|nil=>exact hd|cons x _ ih=>exact .cons x ih
    refine xa hc H hf cl C (Q:=NQ c) ?_ λ_ _ _ _ h=>.inl h
    rw[Bm,Bm];exact yz hc H.ok (hf.W1 f A.1.1.2) (a:=#[.func (.yield lm.1) #[] #[]]) (a':=#[.func (.yield K.1) #[] #[]]) ⟨rfl,λi u v hu hv=>by
     match i,hu,hv with
     |0,hu,hv=>simp at hu hv;subst hu;subst hv;exact .func (.yield O.1) rfl (by simp) rfl (by simp)|i+1,hu,_=>simp at hu⟩
end
section
variable{P:br} {c:h9} {kL kR:List Item}
def tx(m b cl w r x c)(h:b.defers={target:=.collected r,args:=x}::c):unwind P m b cl ah w=phase P b.fn (Instr.takeDeferred r) (λa w=>.go (iZ {b with defers:=a++c} cl) w) (λ_ w=>.ended (.stuck "the deferred calls of a range-over-func loop have been taken" (b.pos P)) w) w:=by
 obtain⟨j,f,g,defers,e,d,round⟩:=b;simp only at h;subst h;unfold unwind phase;simp only;cases(Instr.takeDeferred r).runT P w #[]with|mk r i=>cases r<;>rfl
def mV(m:Bool)(a:dj)(cl:List dj)(w:ar)(h:a.defers=[])(hm:a.mode=.returning):unwind P m a cl ah w=match P.funcs[a.fn]? with
 |none=>doReturn P m a cl ah (a.tmps.getD 0 undef) w|some F=>phase P a.fn (results F a.tmps) (λv w=>doReturn P m a cl ah v w)
  (λx w=>match x with
    |.stuck s=>.ended (.stuck s (a.pos P)) w|_=>.ended (.stuck "return: the result variables cannot be read" (a.pos P)) w) w:=by
 obtain⟨g,b,f,c,e,d,round⟩:=a;simp only at h hm;subst h;subst hm;unfold unwind;simp only;cases P.funcs[g]? with
 |none=>rfl|some F=>
  unfold phase;simp only;cases(results F b).runT P w #[]with
  |mk r i=>
   cases r with|ok _ _=>rfl|halt x _=>cases x<;>rfl
def Ho{o L R}(q:cg P c.sig o L R){a b}(h:pQ c kL kR o a b)(cl g m r)(v:a.defers≠ []):lO P c kL kR o L R cl g (sM a) (unwind P m a cl ah L) (unwind P r b g ah R):=by
 have j:=h.defers;revert j;cases p:a.defers with
 |nil=>exact absurd p v|cons d s=>
  cases u:b.defers with
  |nil=>intro h;cases h|cons C i=>
   intro j;cases j with
   |cons t w=>
    cases t with|mk k=>rw[tx m a cl L _ _ s p,tx r b g R _ _ i u];refine qA (ti q.ok k) q (λz x y A B e n l=> ?_) (λ_ _ _ _ _ _ _=>.inl ⟨_,_,_,rfl⟩);obtain⟨rfl,rfl⟩:=n;have f:=h.mono e;exact lO.here l ⟨f.fn,f.tmps,f.todo,lE.list e w,f.mode,f.ok,f.kind,f.Iz,f.round,f.ks,f.rk⟩ rfl
def V3{a}(g:c.bad=[]\/∃F,P.funcs[a.fn]? =af F/\F.results.toList.all (pf c.bad)=ak){p L R}(n:cg P c.sig p L R){b}(h:pQ c kL kR p a b){x y l r}(m j)(hm:a.mode=.returning)(t:a.defers=[]):lO P c kL kR p L R (x::l) (y::r) (af 0,a.fn) (unwind P m a (x::l) ah L) (unwind P j b (y::r) ah R):=by
 have k:b.defers=[]:=by have i:=h.defers;rw[t]at i;revert i;generalize b.defers=C;intro i;cases i;rfl
 rw[mV m a _ L t hm,mV j b _ R k (h.mode.trans hm),h.fn];cases s:P.funcs[a.fn]? with
 |none=>rcases g with f|⟨F,d,_⟩;exact rq n h (cH.getD (h.tmps.vs f) 0) m j (by simp);rw[s]at d;cases d
 |some F=>
  have z:F.results.toList.all (pf c.bad)=ak:=by rcases g with f|⟨B,d,h⟩;exact xC f F;rw[s]at d;cases d;exact h
  refine qA (vf n.ok F z h.tmps) n (λq v D u w e A o=>rq o (h.mono e) A m j (by simp)) (λx u q w _ _ _=>.inl ?_);cases x<;>exact⟨_,_,_,rfl⟩
inductive qZ(c:h9) (kL kR:List Item) (bot bot':List dj) (π:Ren):List dj->List dj->Prop
 |one {a b:dj}:pQ c kL kR π a b->a.roundOf=ah->qZ c kL kR bot bot' π (a::bot) (b::bot')
 |cons {d:h9} {a b:dj} {l m:List dj}:Up c d a.fn->pQ d [] [] π a b->qZ c kL kR bot bot' π l m->qZ c kL kR bot bot' π (a::l) (b::m)
def qZ.mono{b a f d}(e:Ext P f d){l m}(h:qZ c kL kR b a f l m):qZ c kL kR b a d l m:=by
 induction h with|one h g=>exact .one (h.mono e) g|cons i h _ j=>exact .cons i (h.mono e) j
def qZ.ne{e d i l m}(h:qZ c kL kR e d i l m):∃a f b g,l=a::f/\m=b::g:=by cases h<;>exact⟨_,_,_,_,rfl,rfl⟩
def qZ.lt{a b d l m}(h:qZ c kL kR a b d l m):a.length<l.length:=by
 induction h with|one=>simp|cons _ _ _ e=>simp;omega
structure GR(c:h9) (kL kR:List Item) (bot bot':List dj) (π:Ren) (g g':aw):Prop where
 l:g=iZ g.frame g.callers
 r:g'=iZ g'.frame g'.callers
 stk:qZ c kL kR bot bot' π (g.frame::g.callers) (g'.frame::g'.callers)
def Uv(a:List dj)(g:aw):Prop:=g.callers=a/\g.frame.mode=.returning/\g.frame.defers=[]
def sq(k:List Item)(a:List dj)(g:aw):Prop:=Uv a g\/(g.callers=a/\g.frame.mode=.run/\g.frame.todo=k/\k≠ [])
def qI(m a cl w)(h:a.mode=.run):stepG P m (iZ a cl) w=ik P m ak a cl ah w:=by obtain⟨g,e,f,b,d,c,round⟩:=a;simp only at h;subst h;rfl
def hU(m a cl w)(h:a.mode≠.run):stepG P m (iZ a cl) w=unwind P m a cl ah w:=by
 obtain⟨g,e,f,c,b,d,round⟩:=a;cases b with|run=>exact absurd rfl h|_=>rfl
def Qz(P:br)(c:h9)(kL kR:List Item)(g d:List dj)(k:Ren)(L R:ar)(m n:GStep):Prop:=
 ∃i b l,m=.go i b l/\L.drawn<=b.drawn/\b.tape=L.tape/\(MC L R b.drawn->
  ∃a j f h,Ext P k a/\n=.go j f h/\GR c kL kR g d a i j/\cg P c.sig a b f/\vu k a L R b f/\f.drawn+L.drawn=R.drawn+b.drawn/\∀e∈h,zy c.sig a e)
def N3(P:br)(c:h9)(kL kR:List Item)(d e:List dj)(g:aw)(w:ar):Prop:=∃a cl b h R i,g=iZ a cl/\a.mode=.panicking b/\cg P c.sig h w R/\dp (lE h) a.defers i/\(cl=d\/∃f,qZ c kL kR d e h cl f)
def BE(hc:c.Fits P){k j C L R}(hw:cg P c.sig C L R){g g'}(h:GR c kL kR k j C g g')(hl:¬sq kL k g)(m D):sw (stepG P m g L)\/(∃X w2 U,stepG P m g L=.go X w2 U/\N3 P c kL kR k j X w2)\/Qz P c kL kR k j C L R (stepG P m g L) (stepG P D g' R):=by
 obtain⟨rl,rr,hs⟩:=h;revert hs hl;rw[rl,rr];generalize g.frame=a;generalize g.callers=cl;generalize g'.frame=b;generalize g'.callers=W;intro hl hs;have n:∀{d:h9}{qL qR:List Item}{a b:dj},pQ d qL qR C a b->a.mode≠.run->a.mode=.returning:=λh t=>h.ok.resolve_left t
 have s:∀{d:h9}{qL qR:List Item}{a b:dj}{cl W:List dj}{ro:Option Nat×eu}{sL sR:GStep},d.sig=c.sig->lO P d qL qR C L R cl W ro sL sR->(cl=k\/∃K,qZ c kL kR k j C cl K)->
  (∀i u v,Ext P C i->G6 d qL qR i cl W ro u v->GR c kL kR k j i u v)->
  sw sL\/(∃X w2 U,sL=.go X w2 U/\N3 P c kL kR k j X w2)\/Qz P c kL kR k j C L R sL sR:=by
  intro d _ _ _ _ cl W ro sL sR Z Q KZ M;unfold lO uL at Q;rw[Z]at Q;rcases Q with h|⟨a,ch,w,U,i,R',ds,rfl,E,G,h3,h4⟩|⟨u,L',U,rfl,E,G,h3⟩;exact .inl h;exact .inr (.inl ⟨_,_,_,rfl,a,cl,ch,i,R',ds,rfl,E,G,h3,KZ.imp id λ⟨K,h⟩=>⟨K,h.mono h4⟩⟩);refine .inr (.inr ⟨u,L',U,rfl,E,G,λag=> ?_⟩);obtain⟨i,v,R',ev,e,t,S,YY,V,YI,Ip⟩:=h3 ag;exact⟨i,v,R',ev,e,t,M i u v e S,YY,V,YI,Ip⟩
 cases hs with
 |one o t=>
  have M:∀i u v,Ext P C i->G6 c kL kR i k j (sM a) u v->GR c kL kR k j i u v:=by
   intro i u v e S;cases S with|stay h p=>exact⟨rfl,rfl,.one h ((congrArg Prod.fst p).trans t)⟩|push A N h p=>exact⟨rfl,rfl,.cons A N (.one h ((congrArg Prod.fst p).trans t))⟩|pop B=>exact absurd t B
  by_cases hm:a.mode=.run;rw[qI m a _ L hm,qI D b _ R (o.mode.trans hm)];exact s (a:=a) (b:=b) rfl (Hz hc hw o (λh=>absurd t h) hm (λe=>Classical.byContradiction λB=>hl (.inr ⟨rfl,hm,e,B⟩)) m D) (.inl rfl) M;have O:=n o hm;rw[hU m a _ L hm,hU D b _ R (by rw[o.mode];exact hm)];exact s (a:=a) (b:=b) rfl (Ho hw o k j m D λV=>hl (.inl ⟨rfl,O,V⟩)) (.inl rfl) M
 |cons A o f=>
  rename_i d;have T:cg P d.sig C L R:=by rw[A.sig];exact hw
  have H:∀z:dj,z.fn=a.fn->Up c d z.fn:=λz h=>by rw[h];exact A
  have M:∀i u v,Ext P C i->G6 d [] [] i cl W (sM a) u v->GR c kL kR k j i u v:=by
   intro i u v e S;have f:=f.mono e;cases S with
   |stay h p=>exact⟨rfl,rfl,.cons (H _ (congrArg Prod.snd p)) h f⟩|push q N h p=>exact⟨rfl,rfl,.cons (A.up q) N (.cons (H _ (congrArg Prod.snd p)) h f)⟩|pop B E G I=>
    subst E;subst G;rw[A.sig]at I;refine⟨rfl,rfl,?_⟩;cases f with|one J t=>have:=J.finish I;exact .one this.1 ((congrArg Prod.fst this.2).trans t)|cons q J t=>exact .cons (by rw[show(Frame.finish _ _).fn=_ from congrArg Prod.snd (J.finish (by rw[q.sig];exact I)).2];exact q) (J.finish (by rw[q.sig];exact I)).1 t
  obtain⟨x,l,y,r,rfl,rfl⟩:=f.ne;by_cases hm:a.mode=.run;rw[qI m a _ L hm,qI D b _ R (o.mode.trans hm)];exact s (d:=d) (a:=a) (b:=b) A.sig (Hz (c:=d) (A.fits hc) T o (λ_=>⟨_,_,_,_,rfl,rfl⟩) hm (λ_=>rfl) m D) (.inr ⟨_,f⟩) M;have O:=n o hm;rw[hU m a _ L hm,hU D b _ R (by rw[o.mode];exact hm)];by_cases V:a.defers=[];have Y:d.bad=[]\/∃F,P.funcs[a.fn]? =af F/\F.results.toList.all (pf d.bad)=ak:=by rcases A with rfl|⟨rfl,N⟩;exact .inl rfl;obtain⟨F,_,E,_,_,_,G⟩:=hc.fn a.fn N;exact .inr ⟨F,E,G⟩
  refine s (d:=d) (a:=a) (b:=b) A.sig (V3 (c:=d) Y T o m D O V) (.inr ⟨_,f⟩) ?_;intro i u v e S;have f:=f.mono e;cases S with
  |stay h p=>exact⟨rfl,rfl,.cons (H _ (congrArg Prod.snd p)) h f⟩|push q N h p=>exact⟨rfl,rfl,.cons (A.up q) N (.cons (H _ (congrArg Prod.snd p)) h f)⟩|pop B E G I=>
   cases E;cases G;rw[A.sig]at I;refine⟨rfl,rfl,?_⟩;cases f with|one J t=>have:=J.finish I;exact .one this.1 ((congrArg Prod.fst this.2).trans t)|cons q J t=>exact .cons (by rw[show(Frame.finish _ _).fn=_ from congrArg Prod.snd (J.finish (by rw[q.sig];exact I)).2];exact q) (J.finish (by rw[q.sig];exact I)).1 t
  exact s (d:=d) (a:=a) (b:=b) A.sig (Ho (c:=d) T o _ _ m D V) (.inr ⟨_,f⟩) M
end
def Sub(c:Ren):Prop:=∀a b,c a b->a=b
def dK.eq{e}(s:Sub e){a b}(h:dK e a b):a=b:=by obtain⟨x,y,z⟩:=a;obtain⟨g,i,j⟩:=b;obtain⟨f,c,d⟩:=h;have:=s _ _ f;simp only at c d this;subst this;subst c;subst d;rfl
def sC{f:Type}{x y:Array f}(e:x.size=y.size)(h:∀(i:Nat) a b,x[i]? =af a->y[i]? =af b->a=b):x=y:=by apply Array.ext e;intro i c d;exact h i _ _ (aS c) (aS d)
def Qn.eq{S c}(s:Sub c):∀{a b},Qn S c a b->a=b|_,_,.func _=>rfl|_,_,.yield h=>by rw[s _ _ h]
def bz.eq{S d}(s:Sub d){v b}(h:bz S d v b):v=b:=by
 induction h with|pointer h=>rw[h.eq s]|slice l c h=>rw[h.eq s]|map h=>rw[s _ _ h]|func e a _ k _ f g=>rw[e.eq s,sC a f,sC k g]|iface t _ j=>rw[j]|agg a _ i=>rw[sC a i]|tuple a _ i=>rw[sC a i]|_=>rfl
def cH.eq{S c}(s:Sub c){x y}(h:cH S c x y):x=y:=sC h.size λi a b d e=>(h.at_ i a b d e).eq s
def nH.eq{S f}(s:Sub f){a b}(h:nH S f a b):a=b:=by obtain⟨k,v,n⟩:=a;obtain⟨g,j,i⟩:=b;obtain⟨c,d,e⟩:=h;simp only at c d e;rw[c.eq s,d.eq s,e]
def jH.eq{S r}(s:Sub r){o q}(h:jH S r o q):o=q:=by
 cases h with
 |loop h=>rename_i a b;obtain⟨w,x,y,z,A,B,C,D⟩:=a;obtain⟨E,F,G,H,I,J,K,L⟩:=b;obtain⟨d,e,_,f,g,j,m,_,n,_,p⟩:=h;simp only at d e f g j m n p;rw[d,e,f,cH.eq s g,j,m,n,s _ _ p]|number l h=>rw[h.eq s]|deferred=>rfl|cells t M h=>rw[cH.eq s h]|map k h=>rw[sC h.size λi a b u v=>(h.at_ i a b u v).eq s]|stringIter=>rfl|mapIter a b c h=>
  cases h with|none=>rfl|some h=>rw[s _ _ h]
def dp.eq{e R}(c:∀a b,R a b->a=b){l m:List e}(h:dp R l m):l=m:=by
 induction h with|nil=>rfl|cons h _ d=>rw[c _ _ h,d]
def gh.eq{d R}(c:∀a b,R a b->a=b){l m:Option d}(h:gh R l m):l=m:=by
 cases h with|none=>rfl|some h=>rw[c _ _ h]
def ou.eq{c d}(s:Sub d):∀a b,ou c d a b->a=b|_,_,.code _=>rfl|_,_,.inBlock _=>rfl|_,_,.inLoop _=>rfl|_,_,.inScope _=>rfl|_,_,.inRegion _ _=>rfl|_,_,.inRangeFunc _ h=>by rw[s _ _ h]|_,_,.endRangeFunc _ h=>by rw[s _ _ h]|_,_,.beginRound=>rfl
def lE.eq{c}(s:Sub c):∀a b,lE c a b->a=b|_,_,.mk h=>by rw[s _ _ h]
def pW.eq{c d}(s:Sub d){x y}(h:pW c d x y):x=y:=sC h.size λi a b e f=>(h.at_ i a b e f).elim (·.eq s) (·.2.1)
def G5.eq{c k d}(s:Sub d){a b}(h:G5 c k k d a b):a=b:=by
 induction h with|nil=>rfl|cons h _ e=>rw[ou.eq s _ _ h,e]
def pQ.eq{c k z}(s:Sub z){a b}(h:pQ c k k z a b):a=b:=by obtain⟨C,x,y,e,w,v,round⟩:=a;obtain⟨A,j,l,d,i,g,f⟩:=b;obtain⟨m,n,o,p,q,B,r,t,u,_,_⟩:=h;simp only at m n o p q B r t u;rw[m,pW.eq s n,G5.eq s o,dp.eq (lE.eq s) p,q,r,t,gh.eq s u]
def qZ.eq{c k a b}(s:Sub b){l m}(h:qZ c k k a a b l m):l=m:=by
 induction h with|one h _=>rw[h.eq s]|cons _ h _ d=>rw[h.eq s,d]
def GR.eq{c k a d}(s:Sub d){g b}(h:GR c k k a a d g b):g=b:=by obtain⟨e,f,i⟩:=h;rw[e,f];have:=i.eq s;simp only[List.cons.injEq]at this;rw[this.1,this.2]
def dG(w:ar)(t:Nat->Question->Nat)(d:Nat):ar:={w with tape:=t,drawn:=d}
section
variable{P:br} {c:h9}
def Sub.TU{d c}(s:Sub d){L R e f}(g:vu d c L R e f)(i:L.heap.size=R.heap.size):Sub c:=λa b h=>by rcases g.new a b h with x|x;exact s a b x;omega
def xQ{S k c}(s:Sub k){L R L' e}(h:R.heap=L.heap)(t:cg P S c L' e)(a:vu k c L R L' e):e.heap=L'.heap:=by
 have q:L.heap.size=R.heap.size:=by rw[h]
 have j:=s.TU a q;have u:=a.sizes;apply Array.ext_getElem?;intro i;rcases du i L'.heap.size with f|f;by_cases b:∃r,c i r;obtain⟨r,b⟩:=b;obtain⟨o,v,m,n,p⟩:=t.obj _ _ b;obtain rfl:=j _ _ b;rw[m,n,p.eq j];rcases du i L.heap.size with d|d;rw[a.rest i (by omega) λl d=>b ⟨i,by have:=s _ _ d;subst this;exact a.le _ _ d⟩,a.Jl i d λr g=>b ⟨r,a.le _ _ g⟩,h];exact absurd (a.all i d f) b;rw[gP f,gP (by omega)]
def EP(U:c.Fits P){k b B}(s:Sub B){w}(y:cg P c.sig B w w){g}(h:GR c k k b b B g g)(X:¬sq k b g)(t d):(sw (stepG P ak g (dG w t d)))\/(∃D O v,stepG P ak g (dG w t d)=.go D O v/\N3 P c k k b b D O)\/∃u m v n,stepG P ak g (dG w t d)=.go u m v/\d<=m.drawn/\m.tape=t/\Sub n/\cg P c.sig n m m/\GR c k k b b n u u/\∀p o,(∀i q,d+i<m.drawn->p (o+i) q=t (d+i) q)->∃C,stepG P ak g (dG w p o)=.go u (dG m p (o+(m.drawn-d))) C:=by
 have z:∀t d p o,cg P c.sig B (dG w t d) (dG w p o):=λt d p o=>⟨y.ok,y.obj,y.mG,y.rm,y.old⟩
 rcases BE U (z t d t d) h X ak ak with j|j|⟨u,m,v,l,G,K,hA⟩;exact .inl j;exact .inr (.inl j);obtain⟨n,gR,S,T,e,A,W,M,hd,YI,_⟩:=hA (λ_ _ _=>rfl);rw[l]at A;cases A;refine .inr (.inr ⟨u,m,v,n,l,G,K,s.TU hd rfl,M,W,λp o Z=> ?_⟩);rcases BE U (z t d p o) h X ak ak with⟨_,_,_,j⟩|⟨_,_,_,j,E⟩|⟨D,O,es2,r,_,_,F⟩;rw[l]at j;cases j;rw[l]at j;cases j;obtain⟨a,cl,ch,Q,R2,ds,rfl,hm,_⟩:=E;obtain⟨_,_,J⟩:=W;cases J with
 |one H _=>rcases H.ok with x|x<;>rw[hm]at x<;>cases x
 |cons _ H _=>rcases H.ok with x|x<;>rw[hm]at x<;>cases x
 rw[l]at r;cases r;obtain⟨Q,gR,S,T,e,A,I,N,f,V,_⟩:=F Z;have s2:=s.TU f rfl;obtain rfl:=I.eq s2;refine⟨T,?_⟩;rw[A];congr 1;have hh:=xQ s (L:=dG w t d) (R:=dG w p o) rfl N f;have j:=f.tape;have E:=f.os;have h3:=f.output;have h4:=f.osL;have h5:=f.tY;obtain⟨hp,tp,dr,os,out⟩:=S;obtain⟨hp',tp',dr',os',Y⟩:=m;simp only[dG]at*;subst hh;subst j;subst E;subst h3;rw[h4,h5];congr 1;omega
end
end Rel
abbrev j9:Go.Conc.Lib.WgLink where
 add:=153
 done:=156
 wait:=106
 relMerge:=203
 disable:=157
 enable:=159
 inBubble:=165
 associate:=204
 fatal:=205
 uOr:=206
 uAdd:=207
 raceRead:=208
 uLoad:=158
 uStore:=209
 disassociate:=163
 semrelease:=210
 acquire:=160
 isAssociated:=161
 uCas:=162
 raceWrite:=164
 semacquire:=166
 orU64:=235
 addU64:=236
 loadU64:=211
 storeU64:=237
 casU64:=212
 tWgP:=232
 tUP:=235
 tAssoc:=270
 tWg:=189
 tAU:=186
 tU64:=184
 tUint:=230
 tU32:=187
 tPU32:=239
 tPAU:=276
 tPU64:=278
 tNoCopy:=181
 tANoCopy:=182
 tAlign64:=183
def TE:Go.Conc.Lib.WgLib Tryz.prog j9 where
 f_add:=func153
 f_done:=func156
 f_wait:=func106
 f_relMerge:=func203
 f_disable:=func157
 f_enable:=func159
 f_inBubble:=func165
 f_associate:=func204
 f_fatal:=func205
 f_uOr:=func206
 f_uAdd:=func207
 f_raceRead:=func208
 f_uLoad:=func158
 f_uStore:=func209
 f_disassociate:=func163
 f_semrelease:=func210
 f_acquire:=func160
 f_isAssociated:=func161
 f_uCas:=func162
 f_raceWrite:=func164
 f_semacquire:=func166
 f_orU64:=func235
 f_addU64:=func236
 f_loadU64:=func211
 f_storeU64:=func237
 f_casU64:=func212
 underlying_tWgP:=underlying232
 runUnderlying_tWgP:=Tryz.runUnderlying232
 sizeOf_tWgP:=Tryz.sizeOf232
 isAgg_tWgP:=Tryz.isAgg232
 zeroValue_tWgP:=Tryz.zeroValue232
 underlying_tUP:=underlying235
 runUnderlying_tUP:=Tryz.runUnderlying235
 sizeOf_tUP:=Tryz.sizeOf235
 isAgg_tUP:=Tryz.isAgg235
 zeroValue_tUP:=Tryz.zeroValue235
 underlying_tI32:=underlying270
 runUnderlying_tI32:=Tryz.runUnderlying270
 sizeOf_tI32:=Tryz.sizeOf270
 isAgg_tI32:=Tryz.isAgg270
 zeroValue_tI32:=Tryz.zeroValue270
 underlying_tWg:=underlying189
 runUnderlying_tWg:=Tryz.runUnderlying189
 sizeOf_tWg:=Tryz.sizeOf189
 isAgg_tWg:=Tryz.isAgg189
 zeroValue_tWg:=Tryz.zeroValue189
 underlying_tAU:=underlying186
 runUnderlying_tAU:=Tryz.runUnderlying186
 sizeOf_tAU:=Tryz.sizeOf186
 isAgg_tAU:=Tryz.isAgg186
 zeroValue_tAU:=Tryz.zeroValue186
 underlying_tU64:=underlying184
 runUnderlying_tU64:=Tryz.runUnderlying184
 sizeOf_tU64:=Tryz.sizeOf184
 isAgg_tU64:=Tryz.isAgg184
 zeroValue_tU64:=Tryz.zeroValue184
 underlying_tSh:=underlying230
 runUnderlying_tSh:=Tryz.runUnderlying230
 sizeOf_tSh:=Tryz.sizeOf230
 isAgg_tSh:=Tryz.isAgg230
 zeroValue_tSh:=Tryz.zeroValue230
 underlying_tU32:=underlying187
 runUnderlying_tU32:=Tryz.runUnderlying187
 sizeOf_tU32:=Tryz.sizeOf187
 isAgg_tU32:=Tryz.isAgg187
 zeroValue_tU32:=Tryz.zeroValue187
 underlying_tPU32:=underlying239
 runUnderlying_tPU32:=Tryz.runUnderlying239
 sizeOf_tPU32:=Tryz.sizeOf239
 isAgg_tPU32:=Tryz.isAgg239
 zeroValue_tPU32:=Tryz.zeroValue239
 underlying_tPAU:=underlying276
 runUnderlying_tPAU:=Tryz.runUnderlying276
 sizeOf_tPAU:=Tryz.sizeOf276
 isAgg_tPAU:=Tryz.isAgg276
 zeroValue_tPAU:=Tryz.zeroValue276
 underlying_tPU64:=underlying278
 runUnderlying_tPU64:=Tryz.runUnderlying278
 sizeOf_tPU64:=Tryz.sizeOf278
 isAgg_tPU64:=Tryz.isAgg278
 zeroValue_tPU64:=Tryz.zeroValue278
 underlying_t0:=underlying0
 runUnderlying_t0:=Tryz.runUnderlying0
 sizeOf_t0:=Tryz.sizeOf0
 isAgg_t0:=Tryz.isAgg0
 zeroValue_t0:=Tryz.zeroValue0
 underlying_t3:=underlying3
 runUnderlying_t3:=Tryz.runUnderlying3
 sizeOf_t3:=Tryz.sizeOf3
 isAgg_t3:=Tryz.isAgg3
 zeroValue_t3:=Tryz.zeroValue3
 underlying_t4:=underlying4
 runUnderlying_t4:=Tryz.runUnderlying4
 sizeOf_t4:=Tryz.sizeOf4
 isAgg_t4:=Tryz.isAgg4
 zeroValue_t4:=Tryz.zeroValue4
 underlying_t9:=underlying9
 runUnderlying_t9:=Tryz.runUnderlying9
 sizeOf_t9:=Tryz.sizeOf9
 isAgg_t9:=Tryz.isAgg9
 zeroValue_t9:=Tryz.zeroValue9
 underlying_t20:=underlying20
 runUnderlying_t20:=Tryz.runUnderlying20
 sizeOf_t20:=Tryz.sizeOf20
 isAgg_t20:=Tryz.isAgg20
 zeroValue_t20:=Tryz.zeroValue20
 underlying_t21:=underlying21
 runUnderlying_t21:=Tryz.runUnderlying21
 sizeOf_t21:=Tryz.sizeOf21
 isAgg_t21:=Tryz.isAgg21
 zeroValue_t21:=Tryz.zeroValue21
 room_tWg:=by kernel_rfl
 room_tU32:=by kernel_rfl
namespace Rel
def fz:dj:={fn:=0,tmps:=#[],todo:=[.code (.refuse "")],defers:=[{target:=.nil,args:=#[]}],mode:=.run,kind:=.normal}
def sent:Item:=.code (.refuse "")
inductive LT(P:br) (k:List Item) (H:aw->ar->Prop):aw->ar->Prop
 |stop {g:aw} {w:ar}:H g w->LT P k H g w
 |step {g:aw} {w:ar} (gs:(Nat->Question->Nat)->Nat->aw) (ws:(Nat->Question->Nat)->Nat->ar) (es:(Nat->Question->Nat)->Nat->Array Event):¬sq k [fz] g->(∀t d,stepG P ak g (dG w t d)=.go (gs t d) (ws t d) (es t d)/\((gs t d).frame.mode=.run\/(gs t d).frame.mode=.returning))->(∀t d,LT P k H (gs t d) (ws t d))->LT P k H g w
def ln(g:aw)(w:ar):Machine:=lone g.frame g.callers w
section
variable{P:br} {c:h9} {Z Y:List Item}
def zu{g g' w a b}(c:g=iZ g.frame g.callers)(d:g'=iZ g'.frame g'.callers)(h:stepG P ak g w=.go g' a b):step P (ln g w)=.next (ln g' a):=by rw[c]at h;rw[d]at h;exact step_lone_go (by rw[h];rfl)
def step_end{g w}(b:g=iZ g.frame g.callers)(h:sw (stepG P ak g w)):∃o a,step P (ln g w)=.ended o a:=by obtain⟨o,a,c,h⟩:=h;rw[b]at h;exact⟨o,a,step_lone_ended (by rw[h];rfl)⟩
def MF(P:br)(Q:Machine->Prop)(m:Machine):Prop:=∀n a,runN P n m=.next a->¬Q a
def yt{Q m o w}(b:¬Q m)(h:step P m=.ended o w):MF P Q m:=by
 intro n c a;cases n with|zero=>cases a;exact b|succ n=>simp only[runN,h]at a;cases a
def rS(m:Machine):Prop:=∃a w,m=lone a [fz] w/\(a.mode=.run\/a.mode=.returning)
def zI{g w}(h:rS (ln g w)):g.callers=[fz]/\(g.frame.mode=.run\/g.frame.mode=.returning):=by obtain⟨b,c,h,a⟩:=h;unfold ln lone at h;simp at h;rw[h.2.1,h.2.2];exact⟨rfl,a⟩
def KB(a w):MF P rS (ln (iZ (fz.raise a) []) w):=by
 have b:¬rS (ln (iZ (fz.raise a) []) w):=λh=>by have:=(zI h).1;cases this
 have c:sw (stepG P ak (iZ (fz.raise a) []) w):=⟨_,_,_,rfl⟩;obtain⟨o,d,h⟩:=step_end rfl c;exact yt b h
def Mm(m a x l w c)(h:a.defers=[])(hm:a.mode=.panicking c):sw (unwind P m a (x::l) ah w)\/unwind P m a (x::l) ah w=.go (iZ (x.raise c) l) w:=by obtain⟨i,f,g,b,e,d,round⟩:=a;simp only at h hm;subst h;subst hm;unfold unwind;simp only;split;exact .inl ⟨_,_,_,rfl⟩;exact .inr rfl
def Pe{i}:∀{g}{w},N3 P c Z Y [fz] i g w->MF P rS (ln g w):=by
 intro g w h n
 induction n generalizing g w with
 |zero=>intro u t hL;cases t;obtain⟨a,cl,k,F,R,W,rfl,hm,_⟩:=h;rcases(zI hL).2 with this|this<;>rw[hm]at this<;>cases this
 |succ n T=>
  intro u t;obtain⟨a,cl,k,F,R,W,rfl,hm,q,O,f⟩:=h;have Q:stepG P ak (iZ a cl) w=unwind P ak a cl ah w:=hU ak a cl w (by rw[hm];simp);have j:sw (unwind P ak a cl ah w)->¬rS u:=by intro I;obtain⟨o,U,h⟩:=step_end (g:=iZ a cl) rfl (by rw[Q];exact I);simp only[runN,h]at t;cases t
  have A:∀s M G,s=iZ s.frame s.callers->unwind P ak a cl ah w=.go s M G->runN P n (ln s M)=.next u:=by intro s M G hg p;have h:=zu (g:=iZ a cl) (P:=P) rfl hg (by rw[Q];exact p);simp only[runN,h]at t;exact t
  cases H:a.defers with
  |nil=>
   obtain⟨x,l,rfl,hx⟩:∃x l,cl=x::l/\((x=fz/\l=[])\/(x.defers=[]\/True)/\∃m,dp (lE F) x.defers m/\(x.mode=.run\/x.mode=.returning)/\(l=[fz]\/∃l',qZ c Z Y [fz] i F l l')):=by
    rcases f with rfl|⟨v,f⟩;exact⟨_,_,rfl,.inl ⟨rfl,rfl⟩⟩;cases f with|one B E=>exact⟨_,_,rfl,.inr ⟨.inr trivial,_,B.defers,B.ok,.inl rfl⟩⟩|cons _ B E=>exact⟨_,_,rfl,.inr ⟨.inr trivial,_,B.defers,B.ok,.inr ⟨_,E⟩⟩⟩
   rcases Mm ak a x l w k H hm with I|p;exact j I;have b:=A _ _ _ rfl p;rcases hx with⟨rfl,rfl⟩|⟨_,m,J,C,hl⟩;exact KB k w n u b;refine T (g:=iZ (x.raise k) l) ⟨x.raise k,l,k,F,R,m,rfl,?_,q,?_,hl⟩ u b;unfold Frame.raise;rcases C with e|e<;>rw[e];unfold Frame.raise;rcases C with e|e<;>rw[e]<;>exact J
  |cons d z=>
   rw[H]at O;cases O with
   |cons X E=>
    cases X with
    |mk K=>
     have D:=tx (P:=P) ak a cl w _ _ z H;have b:=(ti (P:=P) (S:=c.sig) q.ok K).run (R:={R with tape:=w.tape,drawn:=w.drawn}) ⟨q.ok,q.obj,q.mG,q.rm,q.old⟩ #[] #[];revert b D;unfold phase;cases(Instr.takeDeferred _).runT P w #[]with
     |mk r G=>
      cases r with
      |halt y U=>intro D _;exact j (by rw[D];exact⟨_,_,_,rfl⟩)|ok y U=>rintro D ⟨_,_,h3⟩;obtain⟨N,y',V,ev,e,_,⟨rfl,rfl⟩,L,_⟩:=h3 (λ_ _ _=>rfl);have b:=A _ _ _ rfl D;exact T (g:=iZ {a with defers:=[]++z} cl) ⟨_,cl,k,N,V,_,rfl,hm,L,lE.list e E,f.imp id λ⟨v,h⟩=>⟨v,h.mono e⟩⟩ u b
end
section
variable{P:br} {c:h9} {k:List Item}
def Wr(w t b d a):dG (dG w t d) b a=dG w b a:=rfl
def pF{m o w}(h:step P m=.ended o w)(Q:Machine->Prop):∀n a,runN P (n+1) m=.next a->¬Q a:=by intro n a b;simp only[runN,h]at b;cases b
def IB{a}(k:a.mode=.returning)(t:a.defers=[])(u:a.kind=.normal)(w):∀n d,runN P (n+1) (lone a [fz] w)=.next d->¬rS d:=by
 intro n d j;have m:stepG P ak (iZ a [fz]) w=unwind P ak a [fz] ah w:=hU ak a _ w (by rw[k];simp);have q:∀b,MF P rS (ln (iZ fz []) b):=λb=>by
  have s:¬rS (ln (iZ fz []) b):=λh=>by have:=(zI h).1;cases this
  obtain⟨o,p,h⟩:=step_end (g:=iZ fz []) (P:=P) (w:=b) rfl ⟨_,_,_,rfl⟩;exact yt s h
 have f:∀v b i,unwind P ak a [fz] ah w=.go (iZ (fz.finish v) []) b i->¬rS d:=by intro v b i c;have h:=zu (g:=iZ a [fz]) (g':=iZ (fz.finish v) []) (P:=P) rfl rfl (m.trans c);have h:step P (lone a [fz] w)=.next (ln (iZ fz []) b):=h;simp only[runN,h]at j;exact q b n d j
 have e:sw (unwind P ak a [fz] ah w)->¬rS d:=by intro y;obtain⟨o,p,h⟩:=step_end (g:=iZ a [fz]) rfl (by rw[m];exact y);have h:step P (lone a [fz] w)=.ended o p:=h;exact pF h _ n d j
 have l:∀v w,doReturn P ak a [fz] ah v w=.go (iZ (fz.finish v) []) w:=λv w=>by unfold doReturn;simp only[u]
 have c:=mV (P:=P) ak a [fz] w t k;revert c;cases P.funcs[a.fn]? with
 |none=>intro c;exact f _ _ _ (c.trans (l _ _))|some F=>
  simp only[phase];cases(results F a.tmps).runT P w #[]with
  |mk r i=>
   cases r with|ok v b=>intro c;simp only[l]at c;exact f _ _ _ c|halt x b=>intro c;exact e (by rw[c];cases x<;>exact⟨_,_,_,rfl⟩)
def Mh{g}(l:g=iZ g.frame g.callers)(j:k=[]\/k=[sent])(a:g.frame.kind=.normal)(h:sq k [fz] g)(w):∀n d,runN P (n+1) (ln g w)=.next d->¬rS d:=by
 rcases h with⟨f,i,b⟩|⟨f,i,b,t⟩;have e:ln g w=lone g.frame [fz] w:=by unfold ln;rw[f]
 rw[e];exact IB i b a w;have j:=j.resolve_left t;subst j;intro n d v;have u:sw (stepG P ak g w):=by rw[l,f,qI ak g.frame [fz] w i];revert b;generalize g.frame=s;intro b;obtain⟨x,q,r,c,p,m,round⟩:=s;simp only at b;subst b;exact⟨_,_,_,rfl⟩
 obtain⟨o,y,h⟩:=step_end l u;exact pF h _ n d v
def qZ.top{n o f e k a b l m}(h:qZ c n o f e k (a::l) (b::m)):∃(d:h9)(p q:List Item),pQ d p q k a b:=by
 generalize i:a::l=x at h;generalize j:b::m=y at h;cases h with|one g _=>cases i;cases j;exact⟨_,_,_,g⟩|cons _ g _=>cases i;cases j;exact⟨_,_,_,g⟩
abbrev Tape:=Nat->Question->Nat
def HM(H:aw->ar->Prop)(m:Machine):Prop:=∃g w,m=ln g w/\g=iZ g.frame g.callers/\H g w
def RQ{H g w}(c:g=iZ g.frame g.callers)(h:HM H (ln g w)):H g w:=by obtain⟨d,e,h,a,b⟩:=h;unfold ln lone at h;simp at h;rw[c,h.2.1,h.2.2,h.1,<-a];exact b
def Reach(P:br)(H:aw->ar->Prop)(a x:aw×ar)(n D:Nat)(b:Tape):Prop:=∀t:Tape,(∀i q,i<D->t i q=b i q)->runN P n (ln a.1 (dG a.2 t 0))=.next (ln x.1 (dG x.2 t D))/\∀k,k<n->∀c,runN P k (ln a.1 (dG a.2 t 0))=.next c->¬HM H c
structure ZZ(H:aw->ar->Prop):Prop where
 tape:∀g w t d,H g (dG w t d)->H g w
 alive:∀g w,H g w->g.callers=[fz]/\(g.frame.mode=.run\/g.frame.mode=.returning)
def ZZ.hm{H}(h:ZZ H){m}(x:HM H m):rS m:=by obtain⟨g,w,rfl,_,c⟩:=x;obtain⟨a,b⟩:=h.alive g w c;exact⟨g.frame,w,by unfold ln;rw[a],b⟩
def XP(P:br)(c:h9)(k:List Item)(H:aw->ar->Prop)(x:aw×ar):Prop:=∃a,Sub a/\cg P c.sig a x.2 x.2/\GR c k k [fz] [fz] a x.1 x.1/\¬LT P k H x.1 x.2
structure X5(P:br) (H:aw->ar->Prop) (x:aw×ar) (t:Tape) (d:Nat) (y:aw×ar):Prop where
 le:d<=y.2.drawn
 not:¬H x.1 x.2
 gl:x.1=iZ x.1.frame x.1.callers
 gr:y.1=iZ y.1.frame y.1.callers
 same:∀(t':Tape)(d':Nat),(∀i q,d+i<y.2.drawn->t' (d'+i) q=t (d+i) q)->∃es',stepG P ak x.1 (dG x.2 t' d')=.go y.1 (dG y.2 t' (d'+(y.2.drawn-d))) es'
def rO(a:Tape)(D:Nat)(t:Tape)(d:Nat):Tape:=λi q=>if i<D then a i q else t (d+(i-D)) q
def PU(n m a)(h:runN P n m=.next a):runN P (n+1) m=step P a:=by rw[runN_add,h];show runN P 1 a=step P a;unfold runN;cases step P a<;>rfl
def Reach.succ{H}(p:ZZ H){l x y n D a t d}(h:Reach P H l x n D a)(k:X5 P H x t d y):Reach P H l y (n+1) (D+(y.2.drawn-d)) (rO a D t d):=by
 intro g c;obtain⟨e,o⟩:=h g λi q f=>by rw[c i q (by omega)];unfold rO;rw[if_pos f]
 have⟨m,s⟩:=k.same g D λi q f=>by rw[c (D+i) q (by omega)];unfold rO;rw[if_neg (by omega),show D+i-D=i by omega]
 refine⟨?_,λj v u hm=> ?_⟩;rw[PU n _ _ e];exact zu k.gl k.gr s;rcases du j n with b|r;exact o j b u hm;obtain rfl:j=n:=by omega
 rw[e]at hm;cases hm;exact λhL=>k.not (p.tape _ _ _ _ (RQ k.gl hL))
def QQ(B:c.Fits P){H x}(h:XP P c k H x):sq k [fz] x.1\/(¬sq k [fz] x.1/\∃t d,(sw (stepG P ak x.1 (dG x.2 t d))\/∃g m b,stepG P ak x.1 (dG x.2 t d)=.go g m b/\N3 P c k k [fz] [fz] g m))\/∃t d y,X5 P H x t d y/\XP P c k H y:=by
 obtain⟨I,s,D,z,A⟩:=h;by_cases n:sq k [fz] x.1;exact .inl n;refine .inr ?_;by_cases i:∃t d,(sw (stepG P ak x.1 (dG x.2 t d))\/∃g m b,stepG P ak x.1 (dG x.2 t d)=.go g m b/\N3 P c k k [fz] [fz] g m);exact .inl ⟨n,i⟩;refine .inr (Classical.byContradiction λr=>A ?_);have a:∀t d,∃e l b,(stepG P ak x.1 (dG x.2 t d)=.go e l b/\(e.frame.mode=.run\/e.frame.mode=.returning))/\LT P k H e l:=by intro t d;rcases EP B s D z n t d with o|o|⟨e,l,b,w,p,C,G,F,v,f,j⟩;exact absurd ⟨t,d,.inl o⟩ i;exact absurd ⟨t,d,.inr o⟩ i;refine⟨e,l,b,⟨p,?_⟩,Classical.byContradiction λq=>r ⟨t,d,(e,l),⟨C,λE=>A (.stop E),z.l,f.l,j⟩,w,F,v,f,q⟩⟩;obtain⟨_,_,u⟩:=f;obtain⟨_,_,_,i⟩:=u.top;exact i.ok
 exact .step (λt d=>(a t d).choose) (λt d=>(a t d).choose_spec.choose) (λt d=>(a t d).choose_spec.choose_spec.choose) n (λt d=>(a t d).choose_spec.choose_spec.choose_spec.1) (λt d=>(a t d).choose_spec.choose_spec.choose_spec.2)
def uH(hc:c.Fits P)(hk:k=[]\/k=[sent]){p w π}(s:Sub π)(hw:cg P c.sig π w w)(hg:GR c k k [fz] [fz] π p p){H}(R:ZZ H)(hT:∀t,∃l I,Steps P (ln p (dG w t 0)) (ln l I)/\l=iZ l.frame l.callers/\H l I):LT P k H p w:=by
 classical
 refine Classical.byContradiction λhn=> ?_
 have B0:XP P c k H (p,w):=⟨π,s,hw,hg,hn⟩;have R0:Reach P H (p,w) (p,w) 0 0 (λ_ _=>0):=λt _=>⟨rfl,λk hk=>by omega⟩
 have G:∀{x:aw×ar},XP P c k H x->¬H x.1 x.2:=λ⟨_,_,_,_,h⟩ hx=>h (.stop hx)
 have after:∀{x:aw×ar}{n D:Nat}{b t:Tape},Reach P H (p,w) x n D b->(∀i q,i<D->t i q=b i q)->
  ∃j m',runN P j (ln x.1 (dG x.2 t D))=.next m'/\HM H m':=by
  intro x n D b t B ag;obtain⟨J,h2⟩:=B t ag;obtain⟨l,I,⟨N,S⟩,Z,e2⟩:=hT t;have hge:n<=N:=Nat.le_of_not_lt λlW=>h2 N lW _ S ⟨l,I,rfl,Z,e2⟩
  refine⟨N-n,ln l I,?_,l,I,rfl,Z,e2⟩;rw[<-Nat.add_sub_cancel' hge,runN_add,J]at S;exact S
 have v:∀{x:aw×ar}{n D:Nat}{b:Tape},Reach P H (p,w) x n D b->XP P c k H x->
  ∃t d y,X5 P H x t d y/\XP P c k H y:=by
  intro x n D b B K;have C:x.1=iZ x.1.frame x.1.callers:=by obtain⟨_,_,_,h,_⟩:=K;exact h.l
  have W:∀t d,¬HM H (ln x.1 (dG x.2 t d)):=λt d h=>G K (R.tape _ _ _ _ (RQ C h))
  rcases QQ hc K with hl|⟨hl,t,d,r⟩|h;exfalso;obtain⟨j,m',E,hm⟩:=after B (t:=b) λ_ _ _=>rfl
  cases j with
  |zero=>simp only[runN]at E;cases E;exact W _ _ hm|succ j=>
   have M:x.1.frame.kind=.normal:=by obtain⟨_,_,_,h,_⟩:=K;obtain⟨_,_,Q⟩:=h;obtain⟨_,_,_,r⟩:=Q.top;exact r.kind
   exact Mh C hk M hl _ j _ E (R.hm hm)
  exfalso;obtain⟨j,m',E,hm⟩:=after B (t:=rO b D t d) λi q A=>by unfold rO;rw[if_pos A]
  obtain⟨NV,s',YY,hg',_⟩:=K;cases j with
  |zero=>simp only[runN]at E;cases E;exact W _ _ hm|succ j=>
   rcases EP hc s' YY hg' hl (rO b D t d) D with J|⟨g2,w2,es,J,h2⟩|⟨l,w2,es,π2,hgo,hd,ht,s2,Vk,RJ,V⟩;obtain⟨o,w2,J⟩:=step_end C J;exact pF J (HM H) j _ E hm;obtain⟨a,cl,Y,u⟩:=h2;have hgl:g2=iZ g2.frame g2.callers:=by obtain⟨_,_,_,rfl,_⟩:=u;rfl
   have h3:=zu C hgl J;simp only[runN,h3]at E;exact Pe ⟨a,cl,Y,u⟩ j _ E (R.hm hm);obtain⟨es',h3⟩:=V t d λi q A=>by unfold rO;rw[if_neg (by omega),show D+i-D=i by omega]
   rcases r with⟨_,_,_,r⟩|⟨g3,w3,es3,r,hp⟩;rw[h3]at r;cases r;rw[h3]at r;cases r;obtain⟨a,cl,ch,π3,R3,ds,rfl,hm,_⟩:=hp;obtain⟨_,_,Q⟩:=RJ;obtain⟨_,_,_,r⟩:=Q.top;rcases r.ok with x|x<;>rw[hm]at x<;>cases x
  exact h
 let g:={z:(aw×ar)×Nat×Nat×Tape // Reach P H (p,w) z.1 z.2.1 z.2.2.1 z.2.2.2/\XP P c k H z.1}
 have F:∀z:g,∃z':g,z'.1.2.1=z.1.2.1+1/\z.1.2.2.1<=z'.1.2.2.1/\(∀i q,i<z.1.2.2.1->z'.1.2.2.2 i q=z.1.2.2.2 i q):=by rintro⟨⟨x,n,D,b⟩,B,K⟩;obtain⟨t,d,y,hs,hb'⟩:=v B K;exact⟨⟨⟨y,n+1,D+(y.2.drawn-d),rO b D t d⟩,B.succ R hs,hb'⟩,rfl,Nat.le_add_right _ _,λi q A=>by unfold rO;exact if_pos A⟩
 let f:g->g:=λz=>(F z).choose
 have f1:∀z,(f z).1.2.1=z.1.2.1+1:=λz=>(F z).choose_spec.1
 have f2:∀z,z.1.2.2.1<=(f z).1.2.2.1:=λz=>(F z).choose_spec.2.1
 have f3:∀z i q,i<z.1.2.2.1->(f z).1.2.2.2 i q=z.1.2.2.2 i q:=λz=>(F z).choose_spec.2.2
 let s:Nat->g:=λn=>Nat.rec ⟨((p,w),0,0,λ_ _=>0),R0,B0⟩ (λ_ z=>f z) n
 have hs:∀n,s (n+1)=f (s n):=λn=>rfl
 have cnt:∀n,(s n).1.2.1=n:=by
  intro n
  induction n with|zero=>rfl|succ n X=>rw[hs,f1,X]
 have mono:∀n k,(s n).1.2.2.1<=(s (n+k)).1.2.2.1/\∀i q,i<(s n).1.2.2.1->(s (n+k)).1.2.2.2 i q=(s n).1.2.2.2 i q:=by
  intro n k
  induction k with|zero=>exact⟨ao _,λ_ _ _=>rfl⟩|succ k X=>have e:s (n+(k+1))=f (s (n+k)):=rfl;rw[e];exact⟨bD X.1 (f2 _),λi q A=>(f3 _ i q (bQ A X.1)).trans (X.2 i q A)⟩
 let T:Tape:=λi q=>if h:∃n,i<(s n).1.2.2.1 then(s (pR h)).1.2.2.2 i q else 0
 have hTn:∀n i q,i<(s n).1.2.2.1->T i q=(s n).1.2.2.2 i q:=by intro n i q A;have L:∃n,i<(s n).1.2.2.1:=⟨n,A⟩;show(if h:∃n,i<(s n).1.2.2.1 then(s (pR h)).1.2.2.2 i q else 0)=_;rw[dif_pos L];have U:=Classical.choose_spec L;generalize pR L=m at U;rcases Nat.le_total m n with O|O;have:=(mono m (n-m)).2 i q U;rw[Nat.add_sub_cancel' O]at this;exact this.symm;have:=(mono n (m-n)).2 i q A;rw[Nat.add_sub_cancel' O]at this;exact this
 obtain⟨l,I,⟨N,S⟩,Z,e2⟩:=hT T;have B:=((s N).2.1 T (hTn N)).1;rw[cnt N,S]at B;have hg:(s N).1.1.1=iZ (s N).1.1.1.frame (s N).1.1.1.callers:=by obtain⟨_,_,_,h,_⟩:=(s N).2.2;exact h.l
 have:HM H (ln (s N).1.1.1 (dG (s N).1.1.2 T (s N).1.2.2.1)):=⟨l,I,(Stepped.next.inj B).symm,Z,e2⟩;exact G (s N).2.2 (R.tape _ _ _ _ (RQ hg this))
end
end Rel
end Go.Proofs.YtknejlcijdngoaaGreat
