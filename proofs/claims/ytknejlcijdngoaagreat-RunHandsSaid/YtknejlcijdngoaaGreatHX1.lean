/- Several texts in one, made short by a program of mine. -/
import Derived.Below
import Derived.WalkKit
import Derived.Conc.CrowdInv
import Derived.Conc.Beside
import GoSem.Step
import Derived.Conc.Own
import Derived.Laws.BitsLemmas
import Derived.Laws.Sem
import Derived.Test.YtknejlcijdngoaaGreatChecked
import Derived.Conc.WgGenN3
import Derived.KernelRfl
import Derived.Calls
set_option linter.defProp false
set_option linter.unusedVariables false
set_option linter.unusedSimpArgs false
set_option linter.unusedSectionVars false
set_option maxHeartbeats 16000000
set_option maxRecDepth 100000
open Array renaming all_eq_true->eK,empty_append->iK,getD_eq_getD_getElem?->aV,getElem?_eq_getElem->aH,getElem?_eq_none->hZ,getElem?_eq_some_iff->aE,getElem?_map->gj,getElem?_modify->br,getElem?_push->lj,getElem?_setIfInBounds_ne->aJ,getElem?_setIfInBounds_self_of_lt->aK,mem_append->nz,range->pH,replicate->dF
open Bool renaming and_eq_true->aG,eq_iff_iff->mF,false_eq_true->cK,not_eq_true'->fY,or_eq_true->gJ,false->au,true->ar
open Classical renaming choose->qz
open Go renaming Frame->aY,FuncId->bG,Goroutine->aw,Operand->ca,Program->aO,TypeId->az,Value->ak,World->ai
open Go.Builtin renaming delete_->kX,firstCells->h9,zeroCells->jS
open Go.Deferred renaming ofValue->gS
open Go.Frame renaming enter->eG
open Go.Instr renaming buildSlice->fK,checkKey->fB,fill->fN,findKey->jR,loadAt->dN,lookup->kE,makeSlice->kB,storeAt->dP
open Go.Mode renaming plain->p8
open Go.Sem renaming runT->fD
open Go.Value renaming cells->fc,int->aS,slice->di
open Go.World renaming cell?->b3,setCell->dC
open Go.stepG renaming apply->eS,exec->ib
open List renaming all_eq_true->lM,any_eq_true->j4,find?_cons->mG,flatMap_cons->cN,getD->bm,getElem?_eq_getElem->aq,map_cons->fq,mem_cons->b6,mem_cons_of_mem->ju,mem_filter->cc,mem_flatMap->lN,mem_map->aI,mem_toArray->oi,mergeSort_perm->iC,not_mem_nil->gX,range->a6
open Nat renaming add_comm->du,add_zero->kq,le_refl->av,le_trans->be,lt_of_lt_of_le->aW,lt_or_ge->dU,strongRecOn->ly
open Option renaming bind_eq_some_iff->cT,bind_some->kH,map_eq_some_iff->aF,none->ah,some->ae
open Option.some renaming inj->aX,injEq->dm
open Or renaming inl->bt,inr->bW
namespace Go.Proofs.YtknejlcijdngoaaGreat
open Go.Proofs.Tryz
section
variable{Z Y:Type} [DecidableEq Z]
def eI(m:List (Z×Y))(x:Z):Option Y:=(m.find? λp=>decide (p.1=x)).map (·.2)
def iI(m:List (Z×Y))(x:Z)(v:Y):List (Z×Y):=if m.any (λp=>decide (p.1=x))then m.map (λp=>if p.1=x then(x,v)else p)else m++[(x,v)]
def eo(m:List (Z×Y))(x:Z):List (Z×Y):=m.filter λp=> !decide (p.1=x)
def bM(m:List (Z×Y)):List Z:=m.map (·.1)
def FE(m:List (Z×Y))(x:Z)(v:Y):bM (iI m x v)=if x∈bM m then bM m else bM m++[x]:=by
 unfold iI bM;have:(m.any λp=>decide (p.1=x))=decide (x∈m.map (·.1)):=by rw[mF];simp
 rw[this];by_cases h:x∈m.map (·.1);rw[if_pos (by simpa using h),if_pos h,List.map_map];apply List.map_congr_left;intro p _;simp only[Function.comp];split<;>simp_all;rw[if_neg (by simpa using h),if_neg h];simp
def Lv{m:List (Z×Y)}(h:(bM m).Nodup)(x:Z)(v:Y):(bM (iI m x v)).Nodup:=by rw[FE];split;exact h;rename_i f;rw[List.nodup_append];exact⟨h,by simp,λa d b c e=>f (by rw[List.mem_singleton]at c;rw[<-c,<-e];exact d)⟩
def o9{m:List (Z×Y)}(h:(bM m).Nodup)(x:Z):(bM (eo m x)).Nodup:=h.sublist (List.filter_sublist.map _)
def fQ{m:List (Z×Y)}{x:Z}{p:Z×Y}:p∈eo m x↔p∈m/\p.1≠x:=by simp[eo]
def ra{m:List (Z×Y)}{x:Z}:eI m x=ah↔x∉bM m:=by unfold eI bM;rw[Option.map_eq_none_iff,List.find?_eq_none];simp only[decide_eq_true_eq,aI,not_exists,not_and]
def tn{m:List (Z×Y)}{x:Z}{v:Y}(h:eI m x=ae v):(x,v)∈m:=by
 unfold eI at h;obtain⟨p,hp,rfl⟩:=aF.1 h;have a:=List.find?_some hp;have b:=List.mem_of_find?_eq_some hp;have:p.1=x:=by simpa using a
 rw[<-this];exact b
def jV{m:List (Z×Y)}(g:(bM m).Nodup){x:Z}{v:Y}(h:(x,v)∈m):eI m x=ae v:=by
 induction m with
 |nil=>simp at h|cons a m i=>
  obtain⟨d,f⟩:=List.nodup_cons.1 (show(a.1::bM m).Nodup from g);unfold eI;rw[mG];rcases b6.1 h with rfl|c;simp;have b:a.1≠x:=λe=>d (by rw[e];exact aI.2 ⟨_,c,rfl⟩)
  rw[decide_eq_false b];exact i f c
def mx{m:List (Z×Y)}(a:(bM m).Nodup){x:Z}{v:Y}:eI m x=ae v↔(x,v)∈m:=⟨tn,jV a⟩
def lg(m:List (Z×Y))(x y:Z)(v:Y):eI (iI m x v) y=if y=x then ae v else eI m y:=by
 unfold iI;by_cases c:(m.any λp=>decide (p.1=x))=ar;rw[if_pos c];by_cases b:y=x;rw[if_pos b];subst b;obtain⟨p,hp,f⟩:=j4.1 c;clear c
 induction m with
 |nil=>simp at hp|cons a m d=>unfold eI at d|-;rw[fq,mG];by_cases h:a.1=y;simp[h];rw[if_neg h,decide_eq_false h];refine d ?_;rcases b6.1 hp with rfl|i;simp at f;exact absurd f h;exact i
 rw[if_neg b];clear c
 induction m with
 |nil=>rfl|cons a m d=>
  unfold eI at d|-;rw[fq,mG,mG];by_cases h:a.1=x;have j:¬a.1=y:=λe=>b (e.symm.trans h)
  have g:¬x=y:=λe=>b e.symm
  rw[if_pos h,decide_eq_false j,decide_eq_false g];exact d;rw[if_neg h];split;rfl;exact d
 rw[if_neg c];have f:x∉bM m:=λh=>c (by obtain⟨p,hp,e⟩:=aI.1 h;exact j4.2 ⟨p,hp,by simpa using e⟩)
 unfold eI;rw[List.find?_append];by_cases b:y=x;rw[if_pos b];subst b;have:=ra.2 f;unfold eI at this;rw[Option.map_eq_none_iff]at this;rw[this];simp;rw[if_neg b];have g:¬x=y:=λe=>b e.symm
 simp[g]
def ud(m:List (Z×Y))(x y:Z):eI (eo m x) y=if y=x then ah else eI m y:=by
 by_cases b:y=x;rw[if_pos b,ra];subst b;intro h;obtain⟨p,hp,e⟩:=aI.1 h;exact(fQ.1 hp).2 e;rw[if_neg b]
 induction m with
 |nil=>rfl|cons a m c=>
  unfold eo at c|-;rw[List.filter_cons];by_cases h:a.1=x;have d:¬a.1=y:=λe=>b (e.symm.trans h)
  rw[decide_eq_true h];simp only[Bool.not_true,cK,if_false];rw[c];unfold eI;rw[mG,decide_eq_false d];rw[decide_eq_false h];simp only[Bool.not_false,if_true];unfold eI at c|-;rw[mG,mG];split;rfl;exact c
def SZ{m:List (Z×Y)}{x:Z}{v:Y}{p:Z×Y}(h:p∈iI m x v):p=(x,v)\/(p∈m/\p.1≠x):=by unfold iI at h;split at h;obtain⟨q,c,e⟩:=aI.1 h;split at e;exact bt e.symm;rename_i a;subst e;exact bW ⟨c,a⟩;rename_i b;rw[List.mem_append]at h;rcases h with h|h;exact bW ⟨h,λe=>b (j4.2 ⟨p,h,by simpa using e⟩)⟩;exact bt (by simpa using h)
end
abbrev Hd:=Int×Int
abbrev ja:=List (Hd×Hd)
inductive Up(m:ja):Hd->Hd->Prop
 |one {a p:Hd}:eI m a=ae p->Up m a p
 |more {a p q:Hd}:eI m a=ae p->Up m p q->Up m a q
def xa(m:ja)(rk:Hd->Nat)(R:Nat):Prop:=∀c p,eI m c=ae p->rk p<rk c/\rk c<=R
def nR(m:ja):Prop:=∃rk R,xa m rk R
section
variable{m Z:ja} {rk:Hd->Nat} {R:Nat} {a b c h p q x y:Hd}
def Up.adp(b:xa m rk R)(c:Up m a q):rk q<rk a:=by
 induction c with|one h=>exact(b _ _ h).1|more h _ d=>have:=(b _ _ h).1;omega
def Up.irrefl(b:nR m):¬Up m a a:=λh=>by obtain⟨rk,R,c⟩:=b;have:=h.adp c;omega
def Up.trans(e:Up m a b)(d:Up m b c):Up m a c:=by
 induction e with|one h=>exact .more h d|more h _ f=>exact .more h (f d)
def Up.linear(d:Up m a x):∀{y},Up m a y->x=y\/Up m x y\/Up m y x:=by
 induction d with
 |one h=>
  intro y c;cases c with|one b=>rw[h]at b;exact bt (aX b)|more b c=>rw[h]at b;cases aX b;exact bW (bt c)
 |more h d e=>
  intro y c;cases c with|one b=>rw[h]at b;cases aX b;exact bW (bW d)|more b c=>rw[h]at b;cases aX b;exact e c
def Up.none(b:eI m a=ah):¬Up m a x:=λh=>by
 cases h with|one h=>rw[b]at h;cases h|more h _=>rw[b]at h;cases h
def Up.mono(b:∀c p,eI m c=ae p->eI Z c=ae p)(h:Up m a x):Up Z a x:=by
 induction h with|one h=>exact .one (b _ _ h)|more h _ d=>exact .more (b _ _ h) d
def nR.sub(a:nR m)(d:∀c p,eI Z c=ae p->eI m c=ae p):nR Z:=by obtain⟨rk,R,b⟩:=a;exact⟨rk,R,λc p h=>b c p (d c p h)⟩
def nR.nil:nR []:=⟨λ_=>0,0,λc p h=>by simp[eI]at h⟩
def nR.del(a:nR m)(c:Hd):nR (eo m c):=a.sub λx p h=>by rw[ud]at h;split at h;cases h;exact h
def nR.put(j:nR m)(f:c≠p)(g:¬Up m p c):nR (iI m c p):=by
 obtain⟨rk,R,k⟩:=j
 classical
 have hp:¬(p=c\/Up m p c):=λh=>by rcases h with h|h;exact f h.symm;exact g h
 refine⟨λx=>if x=c\/Up m x c then rk x+(rk p+1)else rk x,R+rk c+(rk p+1),λx y a=> ?_⟩;rw[lg]at a;by_cases d:x=c;rw[if_pos d]at a;cases aX a;simp only;rw[if_pos (bt d),if_neg hp,d];exact⟨by omega,by omega⟩;rw[if_neg d]at a;have l:=k x y a;have b:(y=c\/Up m y c)↔(x=c\/Up m x c):=by
  constructor;rintro(e|e);exact bW (.one (e▸a));exact bW (.more a e);rintro(e|e);exact absurd e d;cases e with|one e=>rw[a]at e;exact bt (aX e)|more e i=>rw[a]at e;cases aX e;exact bW i
 simp only[b];split;exact⟨by omega,by omega⟩;exact⟨by omega,by omega⟩
inductive lz(m:ja):Hd->List Hd->Prop
 |nil {h:Hd}:eI m h=ah->lz m h []
 |cons {h p:Hd} {xs:List Hd}:eI m h=ae p->lz m p xs->lz m h (p::xs)
def lz.exists(b:nR m)(h:Hd):∃a,lz m h a:=by
 obtain⟨rk,R,c⟩:=b;generalize f:rk h=n
 induction n using ly generalizing h with
 |_ n e=>
  cases hm:eI m h with|none=>exact⟨[],.nil hm⟩|some p=>obtain⟨a,d⟩:=e (rk p) (by have:=(c _ _ hm).1;omega) p rfl;exact⟨p::a,.cons hm d⟩
def lz.mem{a:List Hd}(c:lz m h a):x∈a↔Up m h x:=by
 induction c with
 |nil d=>simp[Up.none d]|cons hm _ f=>
  rw[b6,f];constructor;rintro(rfl|e);exact .one hm;exact .more hm e;intro e;cases e with|one e=>rw[hm]at e;exact bt (aX e).symm|more e b=>rw[hm]at e;cases aX e;exact bW b
def tq{b:Type}[BEq b][LawfulBEq b]:∀{l l':List b},l.Nodup->(∀x∈l,x∈l')->l.length<=l'.length
 |[],_,_,_=>by simp|a::l,l',hn,hs=>by
  obtain⟨d,f⟩:=List.nodup_cons.1 hn;have g:=tq (l':=l'.erase a) f λx c=>(List.mem_erase_of_ne (λe:x=a=>d (by rw[<-e];exact c))).2 (hs x (ju _ c))
  have h:=List.length_erase_of_mem (hs a List.mem_cons_self);have i:=List.length_pos_of_mem (hs a List.mem_cons_self);rw[List.length_cons];omega
def lz.get{a:List Hd}(b:lz m h a):eI m h=a.head?:=by
 cases b with|nil c=>exact c|cons hm _=>exact hm
end
def YO(a b:Hd):Bool:=decide (a.1<b.1)||(decide (a.1=b.1)&&decide (a.2<b.2))
def za(a b:Hd):Bool:= !YO b a
def zc{a b:Hd}:za a b=ar↔a.1<b.1\/a.1=b.1/\a.2<=b.2:=by unfold za YO;simp only[fY,Bool.or_eq_false_iff,decide_eq_false_iff_not,Bool.and_eq_false_iff];constructor;rintro⟨d,c|c⟩<;>omega;intro h;refine⟨by omega,?_⟩;by_cases e:b.1=a.1;exact bW (by omega);exact bt e
def D1(a b c:Hd)(d:za a b=ar)(e:za b c=ar):za a c=ar:=by rw[zc]at*;omega
def DZ(a b:Hd):(za a b||za b a)=ar:=by rw[gJ,zc,zc];omega
def wi{a b:Hd}(c:za a b=ar)(d:za b a=ar):a=b:=by rw[zc]at*;exact Prod.ext (by omega) (by omega)
def xN{l c:List Hd}(hp:l.Perm c)(h:l.Pairwise λa b=>za a b=ar)(d:c.Pairwise λa b=>za a b=ar):l=c:=List.Perm.eq_of_pairwise (λ_ _ _ _ e f=>wi e f) h d hp
def nM(l:List Hd):(l.mergeSort za).Pairwise λa b=>za a b=ar:=List.pairwise_mergeSort D1 DZ l
def Qj{l a:List Hd}(hp:l.Perm a):l.mergeSort za=a.mergeSort za:=xN ((iC l _).trans (hp.trans (iC a _).symm)) (nM l) (nM a)
def Bq{l c:List Hd}(hp:c.Perm l)(h:c.Pairwise λa b=>za a b=ar):c=l.mergeSort za:=xN (hp.trans (iC l _).symm) h (nM l)
def QP{d:Type}(c:d->Hd)(a b:d):Bool:=za (c a) (c b)
def lf{e:Type}(d:e->Hd)(l:List e):(l.mergeSort (QP d)).Pairwise λa b=>QP d a b=ar:=List.pairwise_mergeSort (λa b c=>D1 (d a) (d b) (d c)) (λa b=>DZ (d a) (d b)) l
def je{e:Type}(c:e->Hd){l d:List e}(k:∀a∈l,∀b∈l,c a=c b->a=b)(hp:d.Perm l)(h:d.Pairwise λa b=>QP c a b=ar):d=l.mergeSort (QP c):=List.Perm.eq_of_pairwise (λa b i j f g=>k a (hp.subset i) b ((iC l _).subset j) (wi f g)) h (lf c l) (hp.trans (iC l _).symm)
def iX(m:ja)(h:Hd):List Hd:=(m.filter λb=>decide (b.2=h)).map (·.1)
def kids(m:ja)(h:Hd):List Hd:=(iX m h).mergeSort za
section
variable{m Z:ja} {rk:Hd->Nat} {R:Nat} {a b c h p q x y:Hd}
def kP(c:(bM m).Nodup):x∈kids m h↔eI m x=ae h:=by unfold kids iX;rw[List.mem_mergeSort,aI,mx c];constructor;rintro⟨b,a,rfl⟩;rw[cc,decide_eq_true_eq]at a;rw[<-a.2];exact a.1;intro hm;exact⟨(x,h),cc.2 ⟨hm,by simp⟩,rfl⟩
def u9(a:(bM m).Nodup)(h:Hd):(kids m h).Nodup:=(iC _ _).nodup_iff.2 (a.sublist (List.filter_sublist.map _))
def SK(m:ja)(h:Hd):(kids m h).length<=m.length:=by unfold kids iX;rw[List.length_mergeSort,List.length_map];exact List.length_filter_le _ _
def vq(m:ja):Nat->Hd->List Hd|0,_=>[]|n+1,h=>(kids m h).flatMap λc=>c::vq m n c
def oq{b d:Type}{f g:b->List d}:∀{l:List b},(∀x∈l,f x=g x)->l.flatMap f=l.flatMap g|[],_=>rfl|a::l,h=>by rw[cN,cN,h a List.mem_cons_self,oq λx c=>h x (ju _ c)]
def uN(b:(bM m).Nodup)(d:xa m rk R):∀(n a:Nat)(h:Hd),R-rk h<n->R-rk h<a->vq m n h=vq m a h
 |0,_,_,h1,_=>by omega|_,0,_,_,h2=>by omega|n+1,a+1,h,h1,h2=>by
  unfold vq;refine oq λc e=> ?_
  have:=d _ _ ((kP b).1 e);rw[uN b d n a c (by omega) (by omega)]
open Classical in
noncomputable def Fe(m:ja):Nat:=if h:nR m then(qz (Classical.choose_spec h))+1 else 0
noncomputable def under(m:ja)(h:Hd):List Hd:=vq m (Fe m) h
def Ff(a:nR m):∃rk R,xa m rk R/\Fe m=R+1:=by refine⟨qz a,qz (Classical.choose_spec a),Classical.choose_spec (Classical.choose_spec a),?_⟩;unfold Fe;rw[dif_pos a]
def Qo(e:(bM m).Nodup)(c:nR m):∃rk R,xa m rk R/\∀n h,R-rk h<n->vq m n h=under m h:=by obtain⟨rk,R,b,d⟩:=Ff c;refine⟨rk,R,b,λn h a=> ?_⟩;unfold under;rw[d];exact uN e b _ _ h a (by omega)
def tJ(a:(bM m).Nodup)(d:nR m)(h:Hd):under m h=(kids m h).flatMap λc=>c::under m c:=by
 obtain⟨rk,R,f,b⟩:=Qo a d;rw[<-b (R-rk h+1) h (by omega)]
 conv=>lhs;unfold vq
 refine oq λc e=> ?_
 have:=f _ _ ((kP a).1 e);rw[b (R-rk h) c (by omega)]
def sq(g:(bM m).Nodup)(a:nR m)(P:Hd->Prop)(step:∀h,(∀c,eI m c=ae h->P c)->P h)(h:Hd):P h:=by
 obtain⟨rk,R,d⟩:=a;generalize f:R-rk h=k
 induction k using ly generalizing h with
 |_ k e=>
  refine step h λc b=> ?_
  have:=d _ _ b;exact e (R-rk c) (by omega) c rfl
def xt(d:(bM m).Nodup)(g:nR m):x∈under m h↔Up m x h:=by
 refine sq d g (λh=>x∈under m h↔Up m x h) (λh b=> ?_) h;rw[tJ d g,lN];constructor;rintro⟨c,i,a⟩;have hm:=(kP d).1 i;rcases b6.1 a with rfl|a;exact .one hm;exact((b c hm).1 a).trans (.one hm);intro j;have:∃c,eI m c=ae h/\(x=c\/Up m x c):=by
  clear b
  induction j with|one hm=>exact⟨_,hm,bt rfl⟩|more hm _ b=>obtain⟨c,f,e|e⟩:=b;exact⟨c,f,bW (e▸ .one hm)⟩;exact⟨c,f,bW (.more hm e)⟩
 obtain⟨c,hm,a⟩:=this;refine⟨c,(kP d).2 hm,?_⟩;rcases a with rfl|a;exact List.mem_cons_self;exact ju _ ((b c hm).2 a)
def uG{h m:Type}{f:h->List m}:∀{l:List h},l.Nodup->(∀x∈l,(f x).Nodup)->(∀x∈l,∀y∈l,x≠y->∀z,z∈f x->z∈f y->False)->(l.flatMap f).Nodup|[],_,_,_=>by simp|a::l,hn,h1,h2=>by obtain⟨i,j⟩:=List.nodup_cons.1 hn;rw[cN,List.nodup_append];refine⟨h1 a List.mem_cons_self,uG j (λx c=>h1 x (ju _ c)) (λx c y b=>h2 x (ju _ c) y (ju _ b)),?_⟩;intro z k n d e;subst e;obtain⟨y,b,g⟩:=lN.1 d;exact h2 a List.mem_cons_self y (ju _ b) (λe=>i (e▸b)) z k g
def J2(b:(bM m).Nodup)(d:nR m)(h:Hd):(under m h).Nodup:=by
 refine sq b d (λh=>(under m h).Nodup) (λh w=> ?_) h;rw[tJ b d];have i:∀x z,z∈x::under m x->z=x\/Up m z x:=λx z t=>by rcases b6.1 t with e|e;exact bt e;exact bW ((xt b d).1 e)
 refine uG (u9 b h) (λc q=> ?_) (λx r y s g z o p=> ?_);rw[List.nodup_cons];exact⟨λe=>Up.irrefl d ((xt b d).1 e),w c ((kP b).1 q)⟩;have j:=(kP b).1 r;have k:=(kP b).1 s;have apart:∀u v:Hd,eI m u=ae h->eI m v=ae h->¬Up m u v:=λu v l n e=>by
  cases e with|one e=>rw[l]at e;cases aX e;exact Up.irrefl d (.one n)|more e a=>rw[l]at e;cases aX e;exact Up.irrefl d ((Up.one n).trans a)
 rcases i x z o with f|f<;>rcases i y z p with a|a
 exact g (f.symm.trans a);rw[f]at a;exact apart x y j k a;rw[a]at f;exact apart y x k j f;rcases f.linear a with e|e|e;exact g e;exact apart x y j k e;exact apart y x k j e
def xR(b:(bM m).Nodup)(a:nR m)(h:Hd):(under m h).length<=m.length:=by
 have:=tq (J2 b a h) (l':=bM m) λx d=>by
  have c:=(xt b a).1 d;cases c with|one h=>exact aI.2 ⟨_,tn h,rfl⟩|more h _=>exact aI.2 ⟨_,tn h,rfl⟩
 simpa[bM]using this
end
open Classical in
noncomputable def fh(m:ja)(c p:Hd):ja×Int:=if c=p\/Up m p c then(m,8)else(iI m c p,0)
def fy(m:ja)(c:Hd):ja×Int:=if(eI m c).isSome then(eo m c,0)else(m,5)
def nH(m:ja)(h:Hd):ja:=m.filter λb=> !(decide (b.1=h)||decide (b.2=h))
def dA(m:ja):List (Hd×Hd):=m.mergeSort (QP (·.1))
structure jA(m:ja):Prop where
 nodup:(bM m).Nodup
 sG:nR m
section
variable{m:ja} {c h p x y:Hd}
def jA.nil:jA []:=⟨List.nodup_nil,nR.nil⟩
def jA.qF(hm:jA m)(c p:Hd):jA (fh m c p).1:=by unfold fh;split;exact hm;rename_i h;exact⟨Lv hm.nodup _ _,hm.sG.put (λe=>h (bt e)) λe=>h (bW e)⟩
def jA.loosen(hm:jA m)(c:Hd):jA (fy m c).1:=by unfold fy;split;exact⟨o9 hm.nodup _,hm.sG.del c⟩;exact hm
def uX(a:(bM m).Nodup)(h:Hd):(bM (nH m h)).Nodup:=a.sublist (List.filter_sublist.map _)
def Pr(a:(bM m).Nodup)(h:Hd):eI (nH m h) x=ae y↔eI m x=ae y/\x≠h/\y≠h:=by rw[mx (uX a h),mx a];unfold nH;rw[cc];simp
def jA.gone(hm:jA m)(h:Hd):jA (nH m h):=⟨uX hm.nodup h,hm.sG.sub λ_ _ e=>((Pr hm.nodup h).1 e).1⟩
def nC(d:(bM m).Nodup):∀a∈m,∀b∈m,a.1=b.1->a=b:=λa g b h e=>by have c:=jV d (x:=a.1) (v:=a.2) g;have f:=jV d (x:=b.1) (v:=b.2) h;rw[e,f]at c;exact Prod.ext e (aX c).symm
def Pn{b:Hd×Hd}(a:(bM m).Nodup):b∈dA m↔eI m b.1=ae b.2:=by unfold dA;rw[List.mem_mergeSort,mx a]
def Dv(m:ja):(dA m).length=m.length:=by unfold dA;rw[List.length_mergeSort]
def zI(a:(bM m).Nodup)(h:Hd):dA (nH m h)=(dA m).filter λb=> !(decide (b.1=h)||decide (b.2=h)):=by have hp:((dA m).filter λb=> !(decide (b.1=h)||decide (b.2=h))).Perm (nH m h):=(iC m _).filter _;exact(je (·.1) (nC (uX a h)) hp ((lf (·.1) m).sublist List.filter_sublist)).symm
end
section
open Go.RowKit
def kinds(m:Nat):List Nat:=(a6 8).filter λk=>m.testBit k
def X6(b:Nat):Nat:=(kinds b).headD 8
def low(b:Nat):Nat:=b &&& (b-1)
def Le:∀b:Nat,b<256->b≠0->kinds b=X6 b::kinds (low b)/\low b<b:=by
 have h:∀b:Fin 256,b.val≠0->kinds b.val=X6 b.val::kinds (low b.val)/\low b.val<b.val:=by decide+kernel
 exact λb a=>h ⟨b,a⟩
def Lf:kinds 0=[]:=by decide
def oF(m:Nat):(kinds m).length<=8:=by have:=List.length_filter_le (λk=>m.testBit k) (a6 8);simpa[kinds]using this
def jg(m k:Nat):k∈kinds m↔k<8/\m.testBit k=ar:=by simp[kinds]
def pP(m:Nat):(kinds m).Nodup:=List.nodup_range.sublist List.filter_sublist
def E3:∀(m k:Nat),m<256->k<8->bits .and .i64 ((m:Int) / 2^k) 1=if m.testBit k then 1 else 0:=by
 have h:∀(m:Fin 256)(k:Fin 8),bits .and .i64 ((m.val:Int) / 2^k.val) 1=if m.val.testBit k.val then 1 else 0:=by decide+kernel
 exact λm k hm a=>h ⟨m,hm⟩ ⟨k,a⟩
def Zw:∀(m k:Nat),m<256->k<8->bits .or .i64 (m:Int) (wrap64 (2^k))=((m ||| 2^k:Nat):Int):=by
 have h:∀(m:Fin 256)(k:Fin 8),bits .or .i64 (m.val:Int) (wrap64 (2^k.val))=((m.val ||| 2^k.val:Nat):Int):=by decide+kernel
 exact λm k hm a=>h ⟨m,hm⟩ ⟨k,a⟩
end
namespace Rel
open Go.Conc Go.ConcN
structure ja where
 own:Nat->Loc->Prop
 fr:Loc->Prop
 rd:Loc->Prop
 mine:Loc->Prop
 sh:Loc->Prop
structure ja.Apart(F:ja):Prop where
 own:∀k k' l,F.own k l->F.own k' l->k=k'
 XX:∀k l,F.own k l->¬F.fr l
 ownRd:∀k l,F.own k l->¬F.rd l
 Nv:∀k l,F.own k l->¬F.mine l
 ownSh:∀k l,F.own k l->¬F.sh l
 YD:∀l,F.fr l->¬F.rd l
 YC:∀l,F.fr l->¬F.mine l
 YE:∀l,F.fr l->¬F.sh l
 TG:∀l,F.rd l->¬F.mine l
 rdSh:∀l,F.rd l->¬F.sh l
 S4:∀l,F.mine l->¬F.sh l
structure ET(F:ja) (lo hi:Nat) (t:Trace):Prop where
 nr:∀said,¬Race said t
 quiet:Quiet F.sh t
 own:∀k,lo<=k->k<hi->∀l,F.own k l->Perm t k l
 fr0:∀l,F.fr l->Perm t 0 l
 fr:∀k,lo<=k->k<hi->∀l,F.fr l->Perm t k l
 ZF:∀l,F.rd l->PermW t 0 l
 rd:∀k,lo<=k->k<hi->∀l,F.rd l->PermW t k l
 mine:∀l,F.mine l->Perm t 0 l
 gs:∀(i:Nat)(op:MemOp),t[i]? =ae op->op.g<hi
def OkK(F:ja)(k:Nat)(op:MemOp):Prop:=op.g=k/\∀x,op.act.touch? =ae x->(F.sh x.loc/\x.kind≠.plain/\x.kind≠.said)\/F.own k x.loc\/(F.rd x.loc/\x.write=au)
def OkM(F:ja)(op:MemOp):Prop:=op.g=0/\∀x,op.act.touch? =ae x->(F.sh x.loc/\x.kind≠.plain)\/F.mine x.loc\/(F.rd x.loc/\x.write=au)
section
variable{F:ja} {Z Y:Nat} {t u:Trace}
def ET.Yl(A:F.Apart)(h:ET F Z Y t){k:Nat}(E:Z<=k)(D:k<Y)(n:∀op∈u,OkK F k op):ET F Z Y (t++u):=by
 have y:∀op∈u,op.g=k:=λop c=>(n op c).1
 refine⟨λr=> ?_,h.quiet.app λop c x m f=> ?_,λo a b l d=>(h.own o a b l d).app λop c x m e=> ?_,λl d=>(h.fr0 l d).app λop c x m e=> ?_,λo a b l d=>(h.fr o a b l d).app λop c x m e=> ?_,λl d=>(h.ZF l d).app λop c x m e q=> ?_,λo a b l d=>(h.rd o a b l d).app λop c x m e q=> ?_,λl d=>(h.mine l d).app λop c x m e=> ?_,λi op p=> ?_⟩;refine noRace_append (h.nr r) y (λi a v op c b G s=> ?_);rcases(n op c).2 b G with⟨f,B,C⟩|g|⟨j,w⟩;exact h.quiet.known f B (λe=>absurd e C) i a v s;exact h.own k E D b.loc g i a v s.1;exact h.rd k E D b.loc j i a v s.1 (s.2.2.1.resolve_right (by simp[w]));rcases(n op c).2 x m with⟨_,B,C⟩|g|⟨j,_⟩;exact⟨B,λe=>absurd e C⟩;exact absurd f (A.ownSh k _ g);exact absurd f (A.rdSh _ j);rcases(n op c).2 x m with⟨f,_⟩|g|⟨j,_⟩;exact absurd (e▸f) (A.ownSh o l d);rw[y op c];exact A.own k o l (e▸g) d;exact absurd (e▸j) (A.ownRd o l d);rcases(n op c).2 x m with⟨f,_⟩|g|⟨j,_⟩;exact absurd (e▸f) (A.YE l d);exact absurd d (A.XX k l (e▸g));exact absurd (e▸j) (A.YD l d);rcases(n op c).2 x m with⟨f,_⟩|g|⟨j,_⟩;exact absurd (e▸f) (A.YE l d);exact absurd d (A.XX k l (e▸g));exact absurd (e▸j) (A.YD l d);rcases(n op c).2 x m with⟨f,_⟩|g|⟨_,j⟩;exact absurd (e▸f) (A.rdSh l d);exact absurd d (A.ownRd k l (e▸g));rw[j]at q;cases q;rcases(n op c).2 x m with⟨f,_⟩|g|⟨_,j⟩;exact absurd (e▸f) (A.rdSh l d);exact absurd d (A.ownRd k l (e▸g));rw[j]at q;cases q;rcases(n op c).2 x m with⟨f,_⟩|g|⟨j,_⟩;exact absurd (e▸f) (A.S4 l d);exact absurd d (A.Nv k l (e▸g));exact absurd d (A.TG l (e▸j));rcases getElem?_append_cases p with⟨_,p⟩|⟨_,z⟩;exact h.gs i op p;rw[y op z];exact D
def ET.aaB(A:F.Apart)(D:0<Z)(C:Z<=Y)(h:ET F Z Y t)(p:∀op∈u,OkM F op):ET F Z Y (t++u):=by
 have o:∀op∈u,op.g=0:=λop c=>(p op c).1
 refine⟨λq=> ?_,h.quiet.app λop c x g f=> ?_,λm a b l d=>(h.own m a b l d).app λop c x g e=> ?_,λl d=>(h.fr0 l d).app λop c x g e=>o op c,λm a b l d=>(h.fr m a b l d).app λop c x g e=> ?_,λl d=>(h.ZF l d).app λop c x g e z=>o op c,λm a b l d=>(h.rd m a b l d).app λop c x g e z=> ?_,λl d=>(h.mine l d).app λop c x g e=>o op c,λi op n=> ?_⟩;refine noRace_append (h.nr q) o (λi a s op c b B r=> ?_);rcases(p op c).2 b B with⟨f,y⟩|j|⟨k,v⟩;exact h.quiet.known f y (λ_=>rfl) i a s r;exact h.mine b.loc j i a s r.1;exact h.ZF b.loc k i a s r.1 (r.2.2.1.resolve_right (by simp[v]));rcases(p op c).2 x g with⟨_,y⟩|j|⟨k,_⟩;exact⟨y,λ_=>o op c⟩;exact absurd f (A.S4 _ j);exact absurd f (A.rdSh _ k);rcases(p op c).2 x g with⟨f,_⟩|j|⟨k,_⟩;exact absurd (e▸f) (A.ownSh m l d);exact absurd (e▸j) (A.Nv m l d);exact absurd (e▸k) (A.ownRd m l d);rcases(p op c).2 x g with⟨f,_⟩|j|⟨k,_⟩;exact absurd (e▸f) (A.YE l d);exact absurd (e▸j) (A.YC l d);exact absurd (e▸k) (A.YD l d);rcases(p op c).2 x g with⟨f,_⟩|j|⟨_,k⟩;exact absurd (e▸f) (A.rdSh l d);exact absurd (e▸j) (A.TG l d);rw[k]at z;cases z;rcases getElem?_append_cases n with⟨_,n⟩|⟨_,w⟩;exact h.gs i op n;rw[o op w];omega
def ET.mute(h:ET F Z Y t){g:Nat}(o:g<Y)(q:∀op∈u,op.g=g)(s:∀op∈u,op.act.touch? =ah):ET F Z Y (t++u):=by
 have j:∀{P:Prop},∀op∈u,∀x,op.act.touch? =ae x->P:=λop c x d=>by rw[s op c]at d;cases d
 refine⟨λn=>noRace_append (h.nr n) q (λi a w op c b r y=>j op c b r),h.quiet.app λop c x d z=>j op c x d,λm a b l f=>(h.own m a b l f).app λop c x d e=>j op c x d,λl f=>(h.fr0 l f).app λop c x d e=>j op c x d,λm a b l f=>(h.fr m a b l f).app λop c x d e=>j op c x d,λl f=>(h.ZF l f).app λop c x d e v=>j op c x d,λm a b l f=>(h.rd m a b l f).app λop c x d e v=>j op c x d,λl f=>(h.mine l f).app λop c x d e=>j op c x d,λi op k=> ?_⟩;rcases getElem?_append_cases k with⟨_,k⟩|⟨_,p⟩;exact h.gs i op k;rw[q op p];exact o
def qB(t:Trace)(l:Loc):Prop:=∀i a,touchAt t i=ae a->a.loc≠l
def qB.perm{l:Loc}(h:qB t l)(g:Nat):Perm t g l:=λi a b e=>absurd e (h i a b)
def ET.qk{d:ja}(h:ET F Z Y t)(i:d.sh=F.sh)(f:∀k,Z<=k->k<Y->∀l,d.own k l->F.own k l\/F.fr l\/qB t l)(e:∀l,d.fr l->F.fr l)(g:∀l,d.rd l->F.rd l)(hm:∀l,d.mine l->F.mine l\/qB t l):ET d Z Y t:=by refine⟨h.nr,by rw[i];exact h.quiet,λk a b l c=> ?_,λl c=>h.fr0 l (e l c),λk a b l c=>h.fr k a b l (e l c),λl c=>h.ZF l (g l c),λk a b l c=>h.rd k a b l (g l c),λl c=> ?_,h.gs⟩;rcases f k a b l c with x|x|x;exact h.own k a b l x;exact h.fr k a b l x;exact x.perm k;exact(hm l c).elim (h.mine l) λx=>x.perm 0
def ET.fork(O:Z<=Y)(h:ET F Z Y t){F':ja}(H:F'.sh=F.sh)(w:∀k,Z<=k->k<Y->∀l,F'.own k l->F.own k l)(v:∀l,F'.own Y l->F.mine l)(n:∀l,F'.fr l->F.fr l)(p:∀l,F'.rd l->F.rd l)(hm:∀l,F'.mine l->F.mine l)(N:0<Y){x y:MemOp}(A:x.g=0/\x.act=.go Y)(B:y.g=Y/\y.act=.start)(L:Deaf t 0=0):ET F' Z (Y+1) (t++#[x,y]):=by
 have M:Deaf t Y=0:=Deaf_absent λi op Y e=>by have:=h.gs i op Y;omega
 have m:∀op∈ #[x,y],∀b,op.act.touch? =ae b->False:=by intro op c b d;simp only[oi,b6,gX,or_false]at c;rcases c with rfl|rfl;rw[A.2]at d;cases d;rw[B.2]at d;cases d
 have old:∀{i:Nat}{a:Touch},touchAt (t++#[x,y]) i=ae a->touchAt t i=ae a:=by intro i a r;obtain⟨z,Q,C⟩:=touch_of r;rcases getElem?_append_cases Q with⟨_,I⟩|⟨_,J⟩;rw[touchAt_of I];exact C;exact(m z J a C).elim
 have E:∀{g:Nat}{l:Loc},Perm t g l->Perm (t++#[x,y]) g l:=λhp=>hp.app λop c b d _=>(m op c b d).elim
 have q:∀{g:Nat}{l:Loc},PermW t g l->PermW (t++#[x,y]) g l:=λhp=>hp.app λop c b d _ _=>(m op c b d).elim
 have K:∀{l:Loc},Perm t 0 l->Perm (t++#[x,y]) Y l:=λhp i a r e=>fork_knows A B L M (hp i a (old r) e)
 have G:∀{l:Loc},PermW t 0 l->PermW (t++#[x,y]) Y l:=λhp i a r e P=>fork_knows A B L M (hp i a (old r) e P)
 refine⟨λD=> ?_,by rw[H];exact h.quiet.app λop c b d _=>(m op c b d).elim,λk a b l f=> ?_,λl f=>E (h.fr0 l (n l f)),λk a b l f=> ?_,λl f=>q (h.ZF l (p l f)),λk a b l f=> ?_,λl f=>E (h.mine l (hm l f)),λi op o=> ?_⟩;have e:t++#[x,y]=(t++#[x])++#[y]:=by apply Array.ext';simp
 rw[e];refine noRace_append (g:=Y) (noRace_append (g:=0) (h.nr D) (λop c=>by simp at c;rw[c];exact A.1) (λi a _ op c b d _=>(m op (by simp at c|-;exact .inl c) b d).elim)) (λop c=>by simp at c;rw[c];exact B.1) (λi a _ op c b d _=>(m op (by simp at c|-;exact .inr c) b d).elim)
 rcases dU k Y with j|s;exact E (h.own k a j l (w k a j l f));obtain rfl:k=Y:=by omega
 exact K (h.mine l (v l f));rcases dU k Y with j|s;exact E (h.fr k a j l (n l f));obtain rfl:k=Y:=by omega
 exact K (h.fr0 l (n l f));rcases dU k Y with j|s;exact q (h.rd k a j l (p l f));obtain rfl:k=Y:=by omega
 exact G (h.ZF l (p l f));rcases getElem?_append_cases o with⟨_,o⟩|⟨_,u⟩;exact Nat.lt_succ_of_lt (h.gs i op o);simp only[oi,b6,gX,or_false]at u;rcases u with rfl|rfl;rw[A.1];omega;rw[B.1];omega
end
end Rel
namespace Rel
abbrev Ren:=Nat->Nat->Prop
structure Ren.Ok(P:aO) (π:Ren):Prop where
 fn:∀a b c,π a b->π a c->b=c
 inj:∀a b c,π a c->π b c->a=b
 OV:∀a b,π a b->(a<P.globals.size↔b<P.globals.size)
structure gM where
 fn:bG->Prop
 code:Code->Prop
 OV:Nat->Prop
 mem:Addr->Option Int:=λ_=>ah
 ext:bG->Prop:=λ_=>False
instance:CoeFun gM λ_=>bG->Prop:=⟨gM.fn⟩
structure Ext(P:aO) (π Kl:Ren):Prop where
 le:∀a b,π a b->Kl a b
 ok:Ren.Ok P Kl
def Ext.refl{P:aO}{a:Ren}(h:Ren.Ok P a):Ext P a a:=⟨λ_ _ x=>x,h⟩
def Ext.trans{P:aO}{a b c:Ren}(h:Ext P a b)(k:Ext P b c):Ext P a c:=⟨λ_ _ x=>k.le _ _ (h.le _ _ x),k.ok⟩
inductive gq{α β:Type} (R:α->β->Prop):Option α->Option β->Prop
 |none:gq R ah ah
 |some {a b}:R a b->gq R (ae a) (ae b)
def gq.mono{d e:Type}{R c:d->e->Prop}(h:∀a b,R a b->c a b):∀{x y},gq R x y->gq c x y|_,_,.none=>.none|_,_,.some x=>.some (h _ _ x)
structure fO{α β:Type} (R:α->β->Prop) (x:Array α) (y:Array β):Prop where
 size:x.size=y.size
 at_:∀(i:Nat) a b,x[i]? =ae a->y[i]? =ae b->R a b
inductive dh{α β:Type} (R:α->β->Prop):List α->List β->Prop
 |nil:dh R [] []
 |cons {a b l m}:R a b->dh R l m->dh R (a::l) (b::m)
structure dt(π:Ren) (a b:Addr):Prop where
 block:π a.block b.block
 off:b.off=a.off
 spot:b.spot=a.spot
inductive GN(S:gM) (π:Ren):Fn->Fn->Prop
 |func {f}:S f->GN S π (.func f) (.func f)
 |yield {l m}:π l m->GN S π (.yield l) (.yield m)
inductive bh(S:gM) (π:Ren):ak->ak->Prop
 |bool (b):bh S π (.bool b) (.bool b)
 |int (k n):bh S π (.int k n) (.int k n)
 |string (s):bh S π (.string s) (.string s)
 |eF:bh S π (.pointer ah) (.pointer ah)
 |pointer {a b}:dt π a b->bh S π (.pointer (ae a)) (.pointer (ae b))
 |fl (l c):bh S π (.slice ah l c) (.slice ah l c)
 |slice {a b} (l c):dt π a b->bh S π (.slice (ae a) l c) (.slice (ae b) l c)
 |r8:bh S π (.map ah) (.map ah)
 |map {a b}:π a b->bh S π (.map (ae a)) (.map (ae b))
 |oT:bh S π (.chan ah) (.chan ah)
 |func {f g:Fn} {x x' y y':Array ak}:GN S π f g->x.size=x'.size->(∀(i:Nat) a b,x[i]? =ae a->x'[i]? =ae b->bh S π a b)->y.size=y'.size->(∀(i:Nat) a b,y[i]? =ae a->y'[i]? =ae b->bh S π a b)->bh S π (.func f x y) (.func g x' y')
 |nilFunc:bh S π .nilFunc .nilFunc
 |iface (t) {v v'}:bh S π v v'->bh S π (.iface t v) (.iface t v')
 |nilIface:bh S π .nilIface .nilIface
 |agg {x x':Array ak}:x.size=x'.size->(∀(i:Nat) a b,x[i]? =ae a->x'[i]? =ae b->bh S π a b)->bh S π (.agg x) (.agg x')
 |tuple {x x':Array ak}:x.size=x'.size->(∀(i:Nat) a b,x[i]? =ae a->x'[i]? =ae b->bh S π a b)->bh S π (.tuple x) (.tuple x')
abbrev cz(S:gM)(a:Ren):Array ak->Array ak->Prop:=fO (bh S a)
def dt.mono{P:aO}{d c:Ren}(h:Ext P d c){a b:Addr}(x:dt d a b):dt c a b:=⟨h.le _ _ x.block,x.off,x.spot⟩
def GN.mono{P:aO}{S:gM}{d c:Ren}(h:Ext P d c):∀{a b:Fn},GN S d a b->GN S c a b|_,_,.func s=>.func s|_,_,.yield x=>.yield (h.le _ _ x)
def bh.mono{P:aO}{S:gM}{d a:Ren}(h:Ext P d a){v b:ak}(x:bh S d v b):bh S a v b:=by
 induction x with|bool=>exact .bool _|int=>exact .int _ _|string=>exact .string _|eF=>exact .eF|pointer x=>exact .pointer (x.mono h)|fl=>exact .fl _ _|slice l c x=>exact .slice _ _ (x.mono h)|r8=>exact .r8|map x=>exact .map (h.le _ _ x)|oT=>exact .oT|func f j _ k _ e g=>exact .func (f.mono h) j e k g|nilFunc=>exact .nilFunc|iface t _ i=>exact .iface _ i|nilIface=>exact .nilIface|agg s _ i=>exact .agg s i|tuple s _ i=>exact .tuple s i
structure nS(S:gM) (π:Ren) (e e':MapEntry):Prop where
 key:bh S π e.key e'.key
 val:bh S π e.val e'.val
 born:e'.born=e.born
structure xW(S:gM) (π:Ren) (a b:Loop):Prop where
 state:b.state=a.state
 pending:b.pending=a.pending
 okP:∀c,a.pending=ae c->S.code c
 fn:b.fn=a.fn
 tmps:cz S π a.tmps b.tmps
 params:b.params=a.params
 assign:b.assign=a.assign
 Zt:S.code a.assign
 body:b.body=a.body
 okB:S.code a.body
 defers:π a.defers b.defers
inductive ic(S:gM) (π:Ren):Obj->Obj->Prop
 |loop {a b:Loop}:xW S π a b->ic S π (.loop a) (.loop b)
 |number {a b:Addr} (lost:Bool):dt π a b->ic S π (.number a lost) (.number b lost)
 |deferred (b:Bool):ic S π (.deferred (if b then ae []else ah)) (.deferred (if b then ae []else ah))
 |cells {c c'} (t fr):cz S π c c'->ic S π (.cells c t fr) (.cells c' t fr)
 |map {e e'} (k):fO (nS S π) e e'->ic S π (.map e k) (.map e' k)
 |stringIter (s p):ic S π (.stringIter s p) (.stringIter s p)
 |mapIter {m m'} (since seen mC):gq π m m'->ic S π (.mapIter m since seen mC) (.mapIter m' since seen mC)
def _root_.Go.Halt.lost:Halt->Bool|.panic _|.stuck _=>ar|.unsupported (.initOrder _)=>au|.unsupported _=>ar|_=>au
def aB(P:aO)(S:gM){l p:Type}(Q:Ren->l->p->Prop):Sem l->Ren->Sem p->Prop
 |.pure a,π,s'=>∃b,s'=.pure b/\Q π a b
 |.load m a k,π,s'=>m=.plain/\∃e c,s'=.load .plain e c/\((dt π a e/\∀v j,bh S π v j->aB P S Q (k v) π (c j))\/(e=a/\∃x,S.mem a=ae x/\aB P S Q (k (.int .i64 x)) π (c (.int .i64 x))))|.store m a v k,π,s'=>m=.plain/\∃e j c,s'=.store .plain e j c/\dt π a e/\bh S π v j/\aB P S Q k π c|.new o k,π,s'=>(∃g c,s'=.new g c/\ic S π o g/\∀i r d,Ext P π i->i r d->aB P S Q (k r) i (c d))\/∀r,∃h,k r=.halt h/\h.lost=ar|.shape r k,π,s'=>∃d c,s'=.shape d c/\π r d/\∀x,aB P S Q (k x) π (c x)
 |.freeze _ _ _,_,_=>False|.frozen a k,π,s'=>∃e c,s'=.frozen e c/\dt π a e/\∀x,aB P S Q (k x) π (c x)
 |.getObj r k,π,s'=>∃d c,s'=.getObj d c/\π r d/\∀o g,ic S π o g->aB P S Q (k o) π (c g)
 |.setObj r o k,π,s'=>∃d g c,s'=.setObj d g c/\π r d/\ic S π o g/\aB P S Q k π c
 |.choose q k,π,s'=>∃c,s'=.choose q c/\∀n,aB P S Q (k n) π (c n)
 |.sys _ _,_,_=>False|.program k,π,s'=>∃c,s'=.program c/\aB P S Q (k P) π (c P)
 |.mark m k,π,s'=>(m=.noRoom\/∃f,m=.extern f/\S.ext f)/\∃c,s'=.mark m c/\aB P S Q k π c|.halt h,_,_=>h.lost=ar
section
variable{P:aO} {S:gM}
def aB.bind{D E F G:Type}{Q:Ren->D->E->Prop}{Q':Ren->F->G->Prop}{k:D->Sem F}{l:E->Sem G}:∀{s:Sem D}{i:Ren}{B:Sem E},Ren.Ok P i->aB P S Q s i B->(∀p a b,Ext P i p->Q p a b->aB P S Q' (k a) p (l b))->aB P S Q' (s >>= k) i (B >>= l):=by
 intro s
 induction s with
 |pure a=>rintro i _ f ⟨b,rfl,h⟩ d;exact d i a b (Ext.refl f) h
 |load m a k g=>rintro i _ f ⟨rfl,y,l,rfl,⟨h,j⟩|⟨rfl,x,h,j⟩⟩ d;exact⟨rfl,y,_,rfl,.inl ⟨h,λv C M=>g v f (j v C M) d⟩⟩;exact⟨rfl,y,_,rfl,.inr ⟨rfl,x,h,g _ f j d⟩⟩
 |store m a v k g=>rintro i _ f ⟨rfl,y,C,l,rfl,h,I,J⟩ d;exact⟨rfl,y,C,_,rfl,h,I,g f J d⟩
 |new o k g=>
  rintro i _ f (⟨u,l,rfl,h,j⟩|K) d;exact .inl ⟨u,_,rfl,h,λp r t e L=>g r e.ok (j p r t e L) λw a b H=>d w a b (e.trans H)⟩;refine .inr λr=> ?_
  obtain⟨x,e,z⟩:=K r;refine⟨x,?_,z⟩;show(k r).bind _=_;rw[e];rfl
 |shape r k g=>rintro i _ f ⟨t,l,rfl,h,j⟩ d;exact⟨t,_,rfl,h,λx=>g x f (j x) d⟩
 |freeze a n k g=>rintro i _ f h d;exact h.elim
 |frozen a k g=>rintro i _ f ⟨t,l,rfl,h,j⟩ d;exact⟨t,_,rfl,h,λx=>g x f (j x) d⟩
 |getObj r k g=>rintro i _ f ⟨t,l,rfl,h,j⟩ d;exact⟨t,_,rfl,h,λo u A=>g o f (j o u A) d⟩
 |setObj r o k g=>rintro i _ f ⟨t,u,l,rfl,h,A,j⟩ d;exact⟨t,u,_,rfl,h,A,g f j d⟩
 |choose q k g=>rintro i _ f ⟨l,rfl,h⟩ d;exact⟨_,rfl,λn=>g n f (h n) d⟩
 |sys c k g=>rintro i _ f h d;exact h.elim
 |program k g=>rintro i _ f ⟨l,rfl,h⟩ d;exact⟨_,rfl,g P f h d⟩
 |mark m k g=>rintro i _ f ⟨hm,l,rfl,h⟩ d;exact⟨hm,_,rfl,g f h d⟩
 |halt h=>intro i B _ z _;exact z
def aB.mono{C D:Type}{Q Q':Ren->C->D->Prop}{s:Sem C}{t:Ren}{A:Sem D}(i:Ren.Ok P t)(h:aB P S Q s t A)(g:∀j a b,Ext P t j->Q j a b->Q' j a b):aB P S Q' s t A:=by
 induction s generalizing t A with
 |pure a=>obtain⟨b,rfl,h⟩:=h;exact⟨b,rfl,g t a b (Ext.refl i) h⟩|load m a k d=>obtain⟨rfl,y,l,rfl,⟨h,f⟩|⟨rfl,x,h,f⟩⟩:=h;exact⟨rfl,y,_,rfl,.inl ⟨h,λv B J=>d v i (f v B J) g⟩⟩;exact⟨rfl,y,_,rfl,.inr ⟨rfl,x,h,d _ i f g⟩⟩|store m a v k d=>obtain⟨rfl,y,B,l,rfl,h,F,G⟩:=h;exact⟨rfl,y,B,_,rfl,h,F,d i G g⟩|new o k d=>rcases h with⟨u,l,rfl,h,f⟩|H;exact .inl ⟨u,_,rfl,h,λj r p e I=>d r e.ok (f j r p e I) λw a b E=>g w a b (e.trans E)⟩;exact .inr H
 |shape r k d=>obtain⟨p,l,rfl,h,f⟩:=h;exact⟨p,_,rfl,h,λx=>d x i (f x) g⟩|freeze a n k d=>exact h.elim|frozen a k d=>obtain⟨p,l,rfl,h,f⟩:=h;exact⟨p,_,rfl,h,λx=>d x i (f x) g⟩|getObj r k d=>obtain⟨p,l,rfl,h,f⟩:=h;exact⟨p,_,rfl,h,λo u z=>d o i (f o u z) g⟩|setObj r o k d=>obtain⟨p,u,l,rfl,h,z,f⟩:=h;exact⟨p,u,_,rfl,h,z,d i f g⟩|choose q k d=>obtain⟨l,rfl,h⟩:=h;exact⟨_,rfl,λn=>d n i (h n) g⟩|sys c k d=>exact h.elim|program k d=>obtain⟨l,rfl,h⟩:=h;exact⟨_,rfl,d P i h g⟩|mark m k d=>obtain⟨hm,l,rfl,h⟩:=h;exact⟨hm,_,rfl,d i h g⟩|halt f=>exact h
end
structure bS(P:aO) (S:gM) (π:Ren) (L R:ai):Prop where
 ok:Ren.Ok P π
 obj:∀l r,π l r->∃o o',L.heap[l]? =ae o/\R.heap[r]? =ae o'/\ic S π o o'
 kr:P.globals.size<=L.heap.size
 mR:P.globals.size<=R.heap.size
 old:∀a x,S.mem a=ae x->(∀r,¬π a.block r)/\(∀l,¬π l a.block)/\L.cell? a=ae (.int .i64 x)/\R.cell? a=ae (.int .i64 x)
def fO.mono{d e:Type}{R c:d->e->Prop}{x:Array d}{y:Array e}(h:fO R x y)(k:∀a b,R a b->c a b):fO c x y:=⟨h.size,λi a b f g=>k _ _ (h.at_ i a b f g)⟩
def fO.get{c f:Type}{R:c->f->Prop}{x:Array c}{y:Array f}(h:fO R x y){i:Nat}{a:c}(d:x[i]? =ae a):∃b,y[i]? =ae b/\R a b:=by
 have e:i<y.size:=by rw[<-h.size];exact(aE.1 d).1
 exact⟨y[i],aH e,h.at_ i a _ d (aH e)⟩
def fO.set{l m:Type}{R:l->m->Prop}{x:Array l}{y:Array m}(h:fO R x y){i:Nat}{a:l}{b:m}(k:R a b):fO R (x.setIfInBounds i a) (y.setIfInBounds i b):=by
 refine⟨by simp[h.size],λj c d e g=> ?_⟩;by_cases f:i=j;subst f;have n:i<x.size:=by have:=(aE.1 e).1;simpa using this
 rw[aK n]at e;rw[aK (by rw[<-h.size];exact n)]at g;obtain rfl:=aX e;obtain rfl:=aX g;exact k;rw[aJ f]at e g;exact h.at_ j c d e g
def nS.mono{P:aO}{S:gM}{c a:Ren}(h:Ext P c a){e b:MapEntry}(x:nS S c e b):nS S a e b:=⟨x.key.mono h,x.val.mono h,x.born⟩
def ic.mono{P:aO}{S:gM}{f d:Ren}(h:Ext P f d):∀{o e:Obj},ic S f o e->ic S d o e|_,_,.loop x=>.loop ⟨x.state,x.pending,x.okP,x.fn,x.tmps.mono λ_ _ y=>y.mono h,x.params,x.assign,x.Zt,x.body,x.okB,h.le _ _ x.defers⟩|_,_,.number l x=>.number l (x.mono h)|_,_,.deferred b=>.deferred b|_,_,.cells t g x=>.cells t g (x.mono λ_ _ y=>y.mono h)|_,_,.map k x=>.map k (x.mono λ_ _ y=>y.mono h)|_,_,.stringIter s p=>.stringIter s p|_,_,.mapIter a b c x=>.mapIter a b c (x.mono λ_ _ y=>h.le _ _ y)
structure uz(π Kl:Ren) (L R L' R':ai):Prop where
 tape:R'.tape=R.tape
 os:R'.os=R.os
 output:R'.output=R.output
 osL:L'.os=L.os
 uj:L'.output=L.output
 size:R.heap.size<=R'.heap.size
 Bm:L.heap.size<=L'.heap.size
 sizes:R'.heap.size+L.heap.size=R.heap.size+L'.heap.size
 rest:∀r,r<R.heap.size->(∀l,¬π l r)->R'.heap[r]? =R.heap[r]?
 Jr:∀l,l<L.heap.size->(∀r,¬π l r)->L'.heap[l]? =L.heap[l]?
 new:∀l r,Kl l r->π l r\/(L.heap.size<=l/\R.heap.size<=r/\r+L.heap.size=l+R.heap.size)
 all:∀l,L.heap.size<=l->l<L'.heap.size->∃r,Kl l r
 le:∀l r,π l r->Kl l r
def uz.refl(a:Ren)(L R:ai):uz a a L R L R:=⟨rfl,rfl,rfl,rfl,rfl,av _,av _,du _ _▸rfl,λ_ _ _=>rfl,λ_ _ _=>rfl,λ_ _ h=>.inl h,λl b c=>by omega,λ_ _ h=>h⟩
def uz.trans{p f a:Ren}{L R i o c d:ai}(h:uz p f L R i o)(k:uz f a i o c d):uz p a L R c d:=by have t:=h.sizes;have u:=k.sizes;refine⟨k.tape.trans h.tape,k.os.trans h.os,k.output.trans h.output,k.osL.trans h.osL,k.uj.trans h.uj,be h.size k.size,be h.Bm k.Bm,by omega,λr b e=> ?_,λl g e=> ?_,λl r m=> ?_,λl q s=> ?_,λl r x=>k.le _ _ (h.le _ _ x)⟩;refine(k.rest r (aW b h.size) λl g=> ?_).trans (h.rest r b e);rcases h.new l r g with x|x;exact e l x;omega;refine(k.Jr l (aW g h.Bm) λr b=> ?_).trans (h.Jr l g e);rcases h.new l r b with x|x;exact e r x;omega;have:=h.size;have:=h.Bm;rcases k.new l r m with x|x;exact h.new l r x;exact .inr ⟨by omega,by omega,by omega⟩;rcases dU l i.heap.size with n|j;obtain⟨r,b⟩:=h.all l q n;exact⟨r,k.le _ _ b⟩;exact k.all l j s
inductive wX(S:gM) (π:Ren):Event->Prop
 |cell {l:Nat} {a:Addr} (wr:Bool):π l a.block->wX S π ⟨.cell a,wr,au⟩
 |obj {l r:Nat} (wr:Bool):π l r->wX S π ⟨.obj r,wr,au⟩
 |room:wX S π ⟨.mark .noRoom,au,ar⟩
 |ext {f:bG}:S.ext f->wX S π ⟨.mark (.extern f),au,ar⟩
 |old {a:Addr} {x:Int}:S.mem a=ae x->wX S π ⟨.cell a,au,au⟩
def wX.mono{P:aO}{S:gM}{b a:Ren}(h:Ext P b a):∀{e:Event},wX S b e->wX S a e|_,.cell w x=>.cell w (h.le _ _ x)|_,.obj w x=>.obj w (h.le _ _ x)|_,.room=>.room|_,.ext h=>.ext h|_,.old h=>.old h
def iW{w b:ai}{a:Addr}(h:b.heap[a.block]? =w.heap[a.block]?):b.cell? a=w.cell? a:=by unfold b3;rw[h]
def vG{w:ai}{a:Addr}{v:ak}(h:w.cell? a=ae v):a.block<w.heap.size:=by unfold b3 at h;rcases dU a.block w.heap.size with c|b;exact c;rw[hZ b]at h;cases h
section
variable{P:aO} {S:gM}
def bS.lt{a:Ren}{L R:ai}(h:bS P S a L R){l r:Nat}(x:a l r):l<L.heap.size/\r<R.heap.size:=by obtain⟨o,d,b,c,_⟩:=h.obj l r x;exact⟨(aE.1 b).1,(aE.1 c).1⟩
def bS.cell{c:Ren}{L R:ai}(h:bS P S c L R){a d:Addr}(x:dt c a d):∀v,L.cell? a=ae v->∃e,R.cell? d=ae e/\bh S c v e:=by
 intro v b;obtain⟨o,m,f,g,i⟩:=h.obj _ _ x.block;unfold b3 at b|-;rw[f]at b;rw[g,x.spot,x.off];cases i with|cells t l j=>simp only at b|-;split at b;cases b;rename_i k;rw[if_neg k];exact j.get b|_=>cases b
def bS.shape{a:Ren}{L R:ai}(h:bS P S a L R){l r:Nat}(x:a l r):R.shape? r=L.shape? l:=by
 obtain⟨o,g,b,c,d⟩:=h.obj _ _ x;unfold World.shape?;rw[b,c];cases d with|cells t f e=>simp[e.size]|_=>rfl
def bS.frozen{c:Ren}{L R:ai}(h:bS P S c L R){a b:Addr}(x:dt c a b):R.frozen? b=L.frozen? a:=by obtain⟨o,g,d,e,f⟩:=h.obj _ _ x.block;unfold World.frozen?;rw[d,e,x.off];cases f<;>rfl
def bS.setBlock{c:Ren}{L R:ai}(h:bS P S c L R){l r:Nat}(x:c l r){o d:Obj}(u:ic S c o d):bS P S c {L with heap:=L.heap.setIfInBounds l o} {R with heap:=R.heap.setIfInBounds r d}:=by
 refine⟨h.ok,λm n b=> ?_,by simpa using h.kr,by simpa using h.mR,λa y v=> ?_⟩;rotate_left;obtain⟨f,g,i,j⟩:=h.old a y v;have w:l≠a.block:=λe=>f r (e▸x)
 have z:r≠a.block:=λe=>g l (e▸x)
 exact⟨f,g,(iW (aJ w)).trans i,(iW (aJ z)).trans j⟩;obtain⟨p,A,k,q,s⟩:=h.obj m n b;by_cases hm:l=m;subst hm;have:=h.ok.fn _ _ _ x b;subst this;refine⟨o,d,?_,?_,u⟩;simp[aK (h.lt x).1];simp[aK (h.lt x).2];have t:r≠n:=λe=>hm (h.ok.inj _ _ _ (e▸x) b)
 exact⟨p,A,by simpa[aJ hm]using k,by simpa[aJ t]using q,s⟩
def setCell_eq{w:ai}{a:Addr}{v:ak}{c:Array ak}{t:az}{d:Nat×Nat}(h:w.heap[a.block]? =ae (.cells c t d)):w.setCell a v={w with heap:=w.heap.setIfInBounds a.block (.cells (if a.spot.isSome then c else c.setIfInBounds a.off v) t d)}:=by
 have g:=(aE.1 h).1;have e:w.heap.modify a.block (λ|.cells c b frozen=>.cells (if a.spot.isSome then c else c.setIfInBounds a.off v) b frozen|o=>o)=w.heap.setIfInBounds a.block (.cells (if a.spot.isSome then c else c.setIfInBounds a.off v) t d):=by apply Array.ext_getElem?;intro i;rw[br];by_cases f:a.block=i;subst f;rw[if_pos rfl,aK g,h];rfl;rw[if_neg f,aJ f]
 unfold dC;exact congrArg (λhp=>({w with heap:=hp}:ai)) e
def bS.setCell{c:Ren}{L R:ai}(h:bS P S c L R){a e:Addr}(x:dt c a e){v g:ak}(l:bh S c v g){u:ak}(d:L.cell? a=ae u):bS P S c (L.setCell a v) (R.setCell e g):=by
 obtain⟨o,m,f,j,k⟩:=h.obj _ _ x.block;cases k with|cells t i b=>rw[setCell_eq f,setCell_eq j];refine h.setBlock x.block (.cells t i ?_);rw[x.spot,x.off];split;exact b;exact b.set l|_=>unfold b3 at d;rw[f]at d;cases d
def Ren.add(c:Ren)(l r:Nat):Ren:=λa b=>c a b\/(a=l/\b=r)
def bS.ext{i:Ren}{L R:ai}(h:bS P S i L R):Ext P i (i.add L.heap.size R.heap.size):=by
 refine⟨λ_ _ x=>.inl x,⟨λa b c d g=> ?_,λa b c f d=> ?_,λa b e=> ?_⟩⟩
 rotate_right
 rcases e with e|⟨rfl,rfl⟩;exact h.ok.OV a b e;have:=h.kr;have:=h.mR;omega;rcases d with d|⟨rfl,rfl⟩<;>rcases g with g|⟨k,rfl⟩
 exact h.ok.fn _ _ _ d g;have:=(h.lt d).1;omega;have:=(h.lt g).1;omega;rfl;rcases f with f|⟨rfl,rfl⟩<;>rcases d with d|⟨rfl,j⟩
 exact h.ok.inj _ _ _ f d;have:=(h.lt f).2;omega;have:=(h.lt d).2;omega;rfl
def bS.new{d:Ren}{L R:ai}(h:bS P S d L R){o c:Obj}(s:ic S d o c):bS P S (d.add L.heap.size R.heap.size) {L with heap:=L.heap.push o} {R with heap:=R.heap.push c}:=by refine⟨h.ext.ok,λl r b=> ?_,by have:=h.kr;simp;omega,by have:=h.mR;simp;omega,λa y u=> ?_⟩;rotate_left;obtain⟨i,j,f,g⟩:=h.old a y u;have w:=vG f;have x:=vG g;refine⟨λr t=>t.elim (i r) λe=>by omega,λl q=>q.elim (j l) λe=>by omega,(iW ?_).trans f,(iW ?_).trans g⟩;show(L.heap.push o)[a.block]? =_;rw[lj,if_neg (by omega)];show(R.heap.push c)[a.block]? =_;rw[lj,if_neg (by omega)];rcases b with b|⟨rfl,rfl⟩;obtain⟨p,v,k,m,n⟩:=h.obj l r b;have:=h.lt b;exact⟨p,v,by simp[lj,show l≠L.heap.size by omega,k],by simp[lj,show r≠R.heap.size by omega,m],n.mono h.ext⟩;exact⟨o,c,by simp,by simp,s.mono h.ext⟩
def bS.abk{d:Ren}{L R:ai}(h:bS P S d L R)(o:Obj):bS P S d {L with heap:=L.heap.push o} R:=by refine⟨h.ok,λl r b=> ?_,by have:=h.kr;simp;omega,h.mR,λa y m=> ?_⟩;obtain⟨p,n,i,j,k⟩:=h.obj l r b;have:=h.lt b;exact⟨p,n,by simp[lj,show l≠L.heap.size by omega,i],j,k⟩;obtain⟨e,f,c,g⟩:=h.old a y m;have q:=vG c;refine⟨e,f,(iW ?_).trans c,g⟩;show(L.heap.push o)[a.block]? =_;rw[lj,if_neg (by omega)]
def Vm{b:Ren}{L R:ai}{l r:Nat}(x:b l r)(o d:Obj):uz b b L R {L with heap:=L.heap.setIfInBounds l o} {R with heap:=R.heap.setIfInBounds r d}:=by
 refine⟨rfl,rfl,rfl,rfl,rfl,by simp,by simp,by simp[du],λn _ a=> ?_,λn _ a=> ?_,λ_ _ h=>.inl h,λn f c=>by simp at c;omega,λ_ _ h=>h⟩;have:r≠n:=λe=>a l (e▸x)
 simp[aJ this];have:l≠n:=λe=>a r (e▸x)
 simp[aJ this]
def Hw{d:Ren}{L R:ai}{a b:Addr}(x:dt d a b)(v g:ak):uz d d L R (L.setCell a v) (R.setCell b g):=by
 refine⟨rfl,rfl,rfl,rfl,rfl,by simp[dC],by simp[dC],by simp[dC,du],λn _ c=> ?_,λn _ c=> ?_,λ_ _ h=>.inl h,λn i f=>by simp[dC]at f;omega,λ_ _ h=>h⟩;have:b.block≠n:=λe=>c a.block (e▸x.block)
 simp[dC,br,this];have:a.block≠n:=λe=>c b.block (e▸x.block)
 simp[dC,br,this]
def MG(L R:ai)(d:Nat):Prop:=∀i q,L.drawn+i<d->R.tape (R.drawn+i) q=L.tape (L.drawn+i) q
def uu(P:aO)(S:gM){k l:Type}(Q:Ren->k->l->Prop)(i:Ren)(L R:ai)(m:Sem l)(g:Array Event):Result k×Array Event->Prop|(.ok a d,_)=>L.drawn<=d.drawn/\d.tape=L.tape/\(MG L R d.drawn->∃c b f j,Ext P i c/\m.runT P R g=(.ok b f,g++j)/\Q c a b/\bS P S c d f/\uz i c L R d f/\f.drawn+L.drawn=R.drawn+d.drawn/\∀e∈j,wX S c e)|(.halt h d,_)=>h.lost=ar/\∃c f,Ext P i c/\bS P S c d f
def uu.step{B C:Type}{Q:Ren->B->C->Prop}{v d:Ren}{L R L1 R1:ai}{A z:Sem C}{c H4:Array Event}{f:Result B×Array Event}(H:L1.drawn=L.drawn)(y:L1.tape=L.tape)(o:R1.drawn=R.drawn)(t:R1.tape=R.tape)(e:Ext P v d)(UA:uz v d L R L1 R1)(s:∀e∈H4,wX S d e)(k:A.runT P R c=z.runT P R1 (c++H4))(h:uu P S Q d L1 R1 z (c++H4) f):uu P S Q v L R A c f:=by
 obtain⟨r,N⟩:=f;cases r with
 |halt x _=>obtain⟨w,g,n,m,u⟩:=h;exact⟨w,g,n,e.trans m,u⟩|ok a M=>obtain⟨w,F,G⟩:=h;refine⟨by omega,F.trans y,λD=> ?_⟩;obtain⟨g,b,n,E,m,K,J,u,p,I,j⟩:=G (λi q O=>by rw[o,t,H,y];exact D i q (by omega));refine⟨g,b,n,H4++E,e.trans m,by rw[k,K,Array.append_assoc],J,u,UA.trans p,by omega,λx l=> ?_⟩;rcases nz.1 l with l|l;exact(s x l).mono m;exact j x l
def yp{e:Ren}{L:ai}{o d:Obj}(c:ic S e o d){a:Addr}(b:L.heap[a.block]? =ae o)(w:String):(L.noCell a w).lost=ar:=by unfold World.noCell;rw[b];cases c<;>rfl
def aB.run{α β:Type}{Q:Ren->α->β->Prop}:∀{s:Sem α}{j:Ren}{s':Sem β}{L R:ai},aB P S Q s j s'->bS P S j L R->∀z g:Array Event,uu P S Q j L R s' g (s.runT P L z):=by
 intro s
 induction s with
 |pure a=>rintro j _ L R ⟨b,rfl,h⟩ d z g;exact⟨av _,rfl,λ_=>⟨j,b,R,#[],Ext.refl d.ok,by simp[fD],h,d,uz.refl _ _ _,rfl,by simp⟩⟩
 |load m a k B=>
  rintro j _ L R ⟨rfl,N,E,rfl,hh⟩ d z g;rcases hh with⟨h,G⟩|⟨rfl,x,h,G⟩;rotate_left;obtain⟨_,_,g3,g4⟩:=d.old _ x h;simp only[fD,g3];refine uu.step (H4:=#[⟨.cell N,au,au⟩]) rfl rfl rfl rfl (Ext.refl d.ok) (uz.refl _ _ _) (by intro y hy;simp at hy;subst hy;exact .old h) ?_ (B _ G d _ _);simp only[fD,g4];rfl;simp only[fD];cases hc:L.cell? a with
  |none=>
   obtain⟨o,I,D,K,M⟩:=d.obj _ _ h.block;have Z:L.farLoad P a (p8== .atomic)=.error (L.noCell a "load: no such cell"):=by unfold World.farLoad;rw[D];cases M<;>rfl
   simp only[Z];exact⟨yp M D _,j,R,Ext.refl d.ok,d⟩
  |some v=>obtain⟨V,W,hv⟩:=d.cell h v hc;refine uu.step (H4:=#[⟨.cell N,au,au⟩]) rfl rfl rfl rfl (Ext.refl d.ok) (uz.refl _ _ _) (by intro x J;simp at J;subst J;exact .cell au h.block) ?_ (B v (G v V hv) d _ _);simp only[fD,W];rfl
 |store m a v k B=>
  rintro j _ L R ⟨rfl,N,V,E,rfl,h,hv,G⟩ d z g;have main:∀(C:(∀c,v≠.agg c)/\∀c,v≠.tuple c),uu P S Q j L R (.store p8 N V E) g ((Sem.store p8 a v k).runT P L z):=by
   intro C;have e1:(Sem.store p8 a v k).runT P L z=match L.cell? a with
    |some _=>if L.frozen? a then(.halt (.unsupported (.unsafePointer "a write to bytes that a string shares")) L,z)else k.runT P (L.setCell a v) (z.push ⟨.cell a,ar,p8== .atomic⟩)|none=>match L.farStore P a v (p8== .atomic)with|.ok (w,Gx)=>k.runT P w (z++Gx.toArray.map (⟨.cell ·,ar,p8== .atomic⟩))|.error h=>(.halt h L,z):=by
    cases v<;>first|exact absurd rfl (C.1 _)|exact absurd rfl (C.2 _)|rfl
   have e2:(Sem.store p8 N V E).runT P R g=match R.cell? N with
    |some _=>if R.frozen? N then(.halt (.unsupported (.unsafePointer "a write to bytes that a string shares")) R,g)else E.runT P (R.setCell N V) (g.push ⟨.cell N,ar,p8== .atomic⟩)|none=>match R.farStore P N V (p8== .atomic)with|.ok (w,Gx)=>E.runT P w (g++Gx.toArray.map (⟨.cell ·,ar,p8== .atomic⟩))|.error h=>(.halt h R,g):=by
    cases hv<;>first|exact absurd rfl (C.1 _)|exact absurd rfl (C.2 _)|rfl
   rw[e1];cases hc:L.cell? a with
   |none=>
    obtain⟨o,I,D,K,M⟩:=d.obj _ _ h.block;have Z:L.farStore P a v (p8== .atomic)=.error (L.noCell a "store: no such cell"):=by unfold World.farStore;rw[D];cases M<;>rfl
    simp only[Z];exact⟨yp M D _,j,R,Ext.refl d.ok,d⟩
   |some u=>
    obtain⟨u',W,_⟩:=d.cell h u hc;cases Sw:L.frozen? a with|true=>simp only[if_true];exact⟨rfl,j,R,Ext.refl d.ok,d⟩|false=>simp only[cK,if_false];refine uu.step (H4:=#[⟨.cell N,ar,au⟩]) (L1:=L.setCell a v) (R1:=R.setCell N V) rfl rfl rfl rfl (Ext.refl d.ok) (Hw h v V) (by intro x J;simp at J;subst J;exact .cell ar h.block) ?_ (B G (d.setCell h hv hc) _ _);rw[e2];simp only[W,d.frozen h,Sw,cK,if_false];rfl
  by_cases D:∃c,v=.agg c;obtain⟨c,rfl⟩:=D;simp only[fD];exact⟨rfl,j,R,Ext.refl d.ok,d⟩;by_cases K:∃c,v=.tuple c;obtain⟨c,rfl⟩:=K;simp only[fD];exact⟨rfl,j,R,Ext.refl d.ok,d⟩;exact main ⟨λc e=>D ⟨c,e⟩,λc e=>K ⟨c,e⟩⟩
 |new o k B=>
  rintro j _ L R (⟨I,E,rfl,h,G⟩|hd) d z g;rotate_left;obtain⟨x,e,hl⟩:=hd L.heap.size;simp only[fD,e];exact⟨hl,j,R,Ext.refl d.ok,d.abk o⟩;simp only[fD];refine uu.step (H4:=#[]) (L1:={L with heap:=L.heap.push o}) (R1:={R with heap:=R.heap.push I}) rfl rfl rfl rfl d.ext ⟨rfl,rfl,rfl,rfl,rfl,by simp,by simp,by simp;omega,λn hn _=>by show(R.heap.push I)[n]? =R.heap[n]?;rw[lj,if_neg (by omega)],λn hn _=>by show(L.heap.push o)[n]? =L.heap[n]?;rw[lj,if_neg (by omega)],λl r hlr=> ?_,λl D K=>⟨R.heap.size,.inr ⟨by simp at K;omega,rfl⟩⟩,λ_ _ h=>.inl h⟩ (by simp) ?_ (B L.heap.size (G _ _ _ d.ext (.inr ⟨rfl,rfl⟩)) (d.new h) _ _)
  rcases hlr with x|⟨rfl,rfl⟩;exact .inl x;exact .inr ⟨av _,av _,by omega⟩;simp[fD]
 |shape r k B=>rintro j _ L R ⟨U,E,rfl,h,G⟩ d z g;have:=B (L.shape? r) (G _) d z g;simp only[fD];refine uu.step (H4:=#[]) rfl rfl rfl rfl (Ext.refl d.ok) (uz.refl _ _ _) (by simp) ?_ (by simpa using this);simp[fD,d.shape h]
 |freeze a n k B=>intro j _ L R h;exact h.elim|frozen a k B=>rintro j _ L R ⟨U,E,rfl,h,G⟩ d z g;have:=B (L.frozen? a) (G _) d z g;simp only[fD];refine uu.step (H4:=#[]) rfl rfl rfl rfl (Ext.refl d.ok) (uz.refl _ _ _) (by simp) ?_ (by simpa using this);simp[fD,d.frozen h]
 |getObj r k B=>
  rintro j _ L R ⟨U,E,rfl,h,G⟩ d z g;obtain⟨o,I,D,K,M⟩:=d.obj _ _ h;have O:o.isChan=au/\I.isChan=au:=by cases M<;>exact⟨rfl,rfl⟩
  have H:(∃c t F,o=.cells c t F)\/((∀c t F,o≠.cells c t F)/\∀c t F,I≠.cells c t F):=by
   cases M with|cells t F _=>exact .inl ⟨_,_,_,rfl⟩|_=>exact .inr ⟨by simp,by simp⟩
  rcases H with⟨c,t,F,rfl⟩|⟨C,T⟩;simp only[fD,D];exact⟨rfl,j,R,Ext.refl d.ok,d⟩;have eL:(Sem.getObj r k).runT P L z=(k o).runT P L (z.push ⟨.obj r,au,au⟩):=by simp only[fD,D];cases o<;>first|exact absurd rfl (C _ _ _)|rfl|exact absurd O.1 (by simp[Obj.isChan])
  have eR:(Sem.getObj U E).runT P R g=(E I).runT P R (g++#[⟨.obj U,au,au⟩]):=by simp only[fD,K];cases I<;>first|exact absurd rfl (T _ _ _)|rfl|exact absurd O.2 (by simp[Obj.isChan])
  rw[eL];exact uu.step rfl rfl rfl rfl (Ext.refl d.ok) (uz.refl _ _ _) (by intro x J;simp at J;subst J;exact .obj au h) eR (B o (G _ _ M) d _ _)
 |setObj r o k B=>
  rintro j _ L R ⟨U,I,E,rfl,h,ho,G⟩ d z g;obtain⟨p,p',D,K,M⟩:=d.obj _ _ h;have O:o.isChan=au/\I.isChan=au:=by cases ho<;>exact⟨rfl,rfl⟩
  have H:(∃c t F,p=.cells c t F)\/((∀c t F,p≠.cells c t F)/\∀c t F,p'≠.cells c t F):=by
   cases M with|cells t F _=>exact .inl ⟨_,_,_,rfl⟩|_=>exact .inr ⟨by simp,by simp⟩
  rcases H with⟨c,t,F,rfl⟩|⟨C,T⟩;simp only[fD,D];exact⟨rfl,j,R,Ext.refl d.ok,d⟩;have eL:(Sem.setObj r o k).runT P L z=k.runT P {L with heap:=L.heap.setIfInBounds r o} (z.push ⟨.obj r,ar,au⟩):=by simp only[fD,D,O.1];try(cases p<;>first|exact absurd rfl (C _ _ _)|rfl)
  have eR:(Sem.setObj U I E).runT P R g=E.runT P {R with heap:=R.heap.setIfInBounds U I} (g++#[⟨.obj U,ar,au⟩]):=by simp only[fD,K,O.2];cases p'<;>first|exact absurd rfl (T _ _ _)|rfl
  rw[eL];exact uu.step (H4:=#[⟨.obj U,ar,au⟩]) (L1:={L with heap:=L.heap.setIfInBounds r o}) (R1:={R with heap:=R.heap.setIfInBounds U I}) rfl rfl rfl rfl (Ext.refl d.ok) (Vm h o I) (by intro x J;simp at J;subst J;exact .obj ar h) eR (B G (d.setBlock h ho) _ _)
 |choose q k B=>
  rintro j _ L R ⟨E,rfl,h⟩ d z g;simp only[fD];cases hqf:q.forced with
  |true=>simp only[if_true];refine uu.step (H4:=#[]) rfl rfl rfl rfl (Ext.refl d.ok) (uz.refl _ _ _) (by simp) ?_ (B _ (h 0) d _ _);simp[fD,hqf]|false=>
   simp only[cK,if_false];have key:∀R1:ai,bS P S j {L with drawn:=L.drawn+1} R1->_:=λR1 VN=>B _ (h (q.cut (L.tape L.drawn q))) VN z g
   have:=key {R with drawn:=R.drawn+1} ⟨d.ok,d.obj,d.kr,d.mR,d.old⟩;revert this;generalize (k (q.cut (L.tape L.drawn q))).runT P {L with drawn:=L.drawn+1} z=res;intro this;obtain⟨r,es1⟩:=res;cases r with
   |halt x _=>exact this|ok a L'=>
    obtain⟨D,K,M⟩:=this;simp only at D K;refine⟨by omega,K,λag=> ?_⟩;have X:=ag 0 q (by omega);simp only[kq]at X;obtain⟨Kl,b,R',ev,e',hr,hq,Zd,A,YV,Y⟩:=M (λi q' hi=>by simp only at hi|-;have:=ag (i+1) q' (by omega);rw[show R.drawn+1+i=R.drawn+(i+1)by omega,show L.drawn+1+i=L.drawn+(i+1)by omega];exact this)
    simp only at YV;refine⟨Kl,b,R',ev,e',?_,hq,Zd,⟨A.tape,A.os,A.output,A.osL,A.uj,A.size,A.Bm,A.sizes,A.rest,A.Jr,A.new,A.all,A.le⟩,by omega,Y⟩;simp only[fD,hqf,cK,if_false];rw[X];exact hr
 |sys c k B=>intro j _ L R h;exact h.elim|program k B=>rintro j _ L R ⟨E,rfl,h⟩ d z g;simp only[fD];refine uu.step (H4:=#[]) rfl rfl rfl rfl (Ext.refl d.ok) (uz.refl _ _ _) (by simp) ?_ (B _ h d _ _);simp[fD]
 |mark m k B=>
  rintro j _ L R ⟨hm,E,rfl,h⟩ d z g;simp only[fD];refine uu.step (H4:=#[⟨.mark m,au,ar⟩]) rfl rfl rfl rfl (Ext.refl d.ok) (uz.refl _ _ _) (by intro x J;simp at J;subst J;rcases hm with rfl|⟨f,rfl,Z⟩;exact .room;exact .ext Z) ?_ (B h d _ _)
  simp only[fD];rfl
 |halt x=>intro j _ L R h d z g;exact⟨h,j,R,Ext.refl d.ok,d⟩
end
section
variable{P:aO} {S:gM}
abbrev lq{c:Type}:Ren->c->c->Prop:=λ_ a b=>a=b
abbrev VQ(S:gM):Ren->ak->ak->Prop:=λc a b=>bh S c a b
abbrev Yi(S:gM):Ren->Array ak->Array ak->Prop:=λc a b=>cz S c a b
abbrev AQ:Ren->Addr->Addr->Prop:=λc a b=>dt c a b
def aA{c d:Type}{Q:Ren->c->d->Prop}{e:Ren}{a:c}{b:d}(h:Q e a b):aB P S Q (Pure.pure a:Sem c) e (Pure.pure b:Sem d):=⟨b,rfl,h⟩
def my{a b:Type}{Q:Ren->a->b->Prop}{d:Ren}{w:String}{c:Sem b}:aB P S Q (stuck w:Sem a) d c:=rfl
def NC{a b:Type}{Q:Ren->a->b->Prop}{e:Ren}{w:Unsupported}{d:Sem b}(c:(Halt.unsupported w).lost=ar:=by rfl):aB P S Q (unsupported w:Sem a) e d:=c
def gD{c:Ren}:aB P S (λ_ a b=>a=P/\b=P) program c program:=⟨_,rfl,_,rfl,rfl,rfl⟩
def nK{a:Ren}(q:Question):aB P S lq (choose q) a (choose q):=⟨_,rfl,λn=>⟨n,rfl,rfl⟩⟩
def TA{c:Ren}{a b:Addr}(h:dt c a b):aB P S (VQ S) (load a) c (load b):=⟨rfl,_,_,rfl,.inl ⟨h,λ_ e d=>⟨e,rfl,d⟩⟩⟩
def LM{b:Ren}{a:Addr}{x:Int}(h:S.mem a=ae x):aB P S (λ_ u v=>u=.int .i64 x/\v=.int .i64 x) (load a) b (load a):=⟨rfl,_,_,rfl,.inr ⟨rfl,x,h,⟨_,rfl,rfl,rfl⟩⟩⟩
def Wu{b:Ren}{a c:Addr}{v d:ak}(h:dt b a c)(e:bh S b v d):aB P S lq (store a v) b (store c d):=⟨rfl,_,_,_,rfl,h,e,(),rfl,rfl⟩
def AU{c:Ren}{o d:Obj}(h:ic S c o d):aB P S (λc a b=>c a b) (newObj o) c (newObj d):=.inl ⟨_,_,rfl,h,λ_ _ f _ e=>⟨f,rfl,e⟩⟩
def ny{b:Ren}{r a:Nat}(h:b r a):aB P S lq (shape r) b (shape a):=⟨_,_,rfl,h,λx=>⟨x,rfl,rfl⟩⟩
def tz{c:Ren}{a b:Addr}(h:dt c a b):aB P S lq (frozen a) c (frozen b):=⟨_,_,rfl,h,λx=>⟨x,rfl,rfl⟩⟩
def iR{c:Ren}{r d:Nat}(h:c r d):aB P S (λc a b=>ic S c a b) (getObj r) c (getObj d):=⟨_,_,rfl,h,λ_ f e=>⟨f,rfl,e⟩⟩
def lG{a:Ren}{r c:Nat}{o b:Obj}(h:a r c)(d:ic S a o b):aB P S lq (setObj r o) a (setObj c b):=⟨_,_,_,rfl,h,d,(),rfl,rfl⟩
def fi{c:Ren}(d:Ren.Ok P c)(t:az):aB P S (λ_ a b=>a=b/\P.info? t=ae a) (typeInfo t) c (typeInfo t):=by
 refine aB.bind d gD λf a b e h=> ?_
 obtain⟨rfl,rfl⟩:=h;cases b.info? t with|none=>exact my|some i=>exact aA ⟨rfl,rfl⟩
def bH{c:Ren}(d:Ren.Ok P c)(t:az):aB P S (λ_ a b=>a=b/\P.underlying t=ae a) (underlying t) c (underlying t):=by
 refine aB.bind d gD λf a b e h=> ?_
 obtain⟨rfl,rfl⟩:=h;cases b.underlying t with|none=>exact my|some i=>exact aA ⟨rfl,rfl⟩
def fI{d:Ren}(c:Ren.Ok P d)(t:az):aB P S lq (sizeOf t) d (sizeOf t):=aB.bind c (fi c t) λ_ a b _ h=>by obtain⟨rfl,_⟩:=h;exact aA rfl
def NA{d:Ren}(c:Ren.Ok P d)(t:az):aB P S lq (isAgg t) d (isAgg t):=aB.bind c (bH c t) λ_ a b _ h=>by obtain⟨rfl,_⟩:=h;cases a<;>exact aA rfl
def dt.add{c:Ren}{a b:Addr}(h:dt c a b)(n:Nat):dt c (a.add n) (b.add n):=by unfold Addr.add;split;exact h;exact⟨h.block,by simp[h.off],rfl⟩
def fO.push{k l:Type}{R:k->l->Prop}{x:Array k}{y:Array l}(h:fO R x y){a:k}{b:l}(g:R a b):fO R (x.push a) (y.push b):=by refine⟨by simp[h.size],λi c d f e=> ?_⟩;rw[lj]at f e;rw[<-h.size]at e;split at f;rename_i j;rw[if_pos j]at e;obtain rfl:=aX f;obtain rfl:=aX e;exact g;rename_i j;rw[if_neg j]at e;exact h.at_ i c d f e
def yM{d:Ren}(k:Ren.Ok P d){a f:Addr}(h:dt d a f):∀(n i:Nat)(acc b:Array ak),cz S d acc b->aB P S (Yi S) (loadCellsFrom a i n acc) d (loadCellsFrom f i n b):=by
 intro n
 induction n generalizing d with|zero=>intro i acc b c;exact aA c|succ n j=>intro i acc b c;exact aB.bind k (TA (h.add i)) λl v m e g=>j e.ok (h.mono e) (i+1) _ _ ((c.mono λ_ _ x=>x.mono e).push g)
def yw{b:Ren}(d:Ren.Ok P b){a c:Addr}(h:dt b a c)(n:Nat):aB P S (Yi S) (loadCells a n) b (loadCells c n):=yM d h n 0 _ _ ⟨rfl,by simp⟩
def Ey{f:Ren}(j:Ren.Ok P f)(t:az){a g:Addr}(h:dt f a g):aB P S (VQ S) (loadVar t a) f (loadVar t g):=by
 refine aB.bind j (NA j t) λo b q e l=> ?_
 subst l;cases b with
 |true=>
  simp only[if_true];refine aB.bind e.ok (fI e.ok t) λk n u d m=> ?_
  subst m;refine aB.bind d.ok (yw d.ok ((h.mono e).mono d) n) λp c r s i=>aA (.agg i.size i.at_)
 |false=>exact TA (h.mono e)
def sj{d:Ren}(k:Ren.Ok P d){a f:Addr}(h:dt d a f):∀{vs b:List ak}(i:Nat),dh (bh S d) vs b->aB P S lq (storeCells a vs i) d (storeCells f b i):=by
 intro vs
 induction vs generalizing d with
 |nil=>intro b i c;cases c;exact aA rfl|cons v vs g=>
  intro b i c;cases c with
  |cons c j=>
   exact aB.bind k (Wu (h.add i) c) λl _ _ e _=>g e.ok (h.mono e) (i+1) (by
    clear g
    induction j with
    |nil=>exact .nil|cons x _ y=>exact .cons (x.mono e) y)
def dh.lx{g j:Type}{R:g->j->Prop}{x:Array g}{y:Array j}(h:fO R x y):dh R x.toList y.toList:=by
 obtain⟨x⟩:=x;obtain⟨y⟩:=y;have e:=h.size;have f:=h.at_;simp at e f|-;clear h
 induction x generalizing y with
 |nil=>cases y with|nil=>exact .nil|cons b m=>simp at e
 |cons a l o=>cases y with|nil=>simp at e|cons b m=>refine .cons (f 0 a b (by simp) (by simp)) (o m (by simpa using e) λi c d k n=>f (i+1) c d (by simpa using k) (by simpa using n))
def bh.cells{c:Ren}{v g:ak}(h:bh S c v g):cz S c v.cells g.cells:=by
 have one:∀{x y:ak},bh S c x y->cz S c #[x] #[y]:=λ{x y} e=>⟨rfl,λi a b d f=>by
  have j:i=0:=by have:=(aE.1 d).1;simpa using this
  subst j;simp at d f;subst d;subst f;exact e⟩
 cases h with|agg s i=>exact⟨s,i⟩|_=>exact one (by constructor<;>assumption)
def LR{b:Ren}(f:Ren.Ok P b)(t:az){a c:Addr}(h:dt b a c){v g:ak}(j:bh S b v g):aB P S lq (storeVar t a v) b (storeVar t c g):=by
 refine aB.bind f (fI f t) λk n l e i=> ?_
 subst i;have d:=(j.mono e).cells;rw[<-d.size];split;exact rfl;exact sj e.ok (h.mono e) 0 (dh.lx d)
def wI{a:Ren}(t:az)(e:Ren.Ok P a){c b:Array ak}(h:cz S a c b):aB P S AQ (newRow t c) a (newRow t b):=aB.bind e (AU (.cells t (0,0) h)) λ_ _ _ _ d=>aA ⟨d,rfl,rfl⟩
def Jm{a:Ren}(t:az)(c:Ren.Ok P a){v b:ak}(h:bh S a v b):aB P S AQ (newVar t v) a (newVar t b):=wI t c h.cells
def sQ(S:gM)(v:ak):Prop:=∀a,bh S a v v
def qC(P:aO)(S:gM):Prop:=∀t i v,P.info? t=ae i->i.zero=ae v->sQ S v
def kQ{f:Ren}(j:qC P S)(d:Ren.Ok P f)(t:az):aB P S (λ_ a b=>a=b/\sQ S a) (zeroValue t) f (zeroValue t):=by
 refine aB.bind d (fi d t) λk i l e h=> ?_
 obtain⟨rfl,g⟩:=h;cases c:i.zero with|none=>exact NC|some v=>exact aA ⟨rfl,j t i v g c⟩
end
section
variable{P:aO} {S:gM}
def jP{g i:Type}{Q:Ren->g->i->Prop}{j:Ren}(k:Ren.Ok P j)(x l:RuntimeError)(f:(∀a b c d,x≠.typeAssertion a b c d)/\x≠.panicNil):aB P S Q (runtimePanic x:Sem g) j (runtimePanic l:Sem i):=by
 refine aB.bind k gD λm a b e h=> ?_
 cases x with|typeAssertion=>exact absurd rfl (f.1 _ _ _ _)|panicNil=>exact absurd rfl f.2|_=>exact rfl
def jk{a b:Type}{Q:Ren->a->b->Prop}{c:Ren}(d:Ren.Ok P c)(m:String):aB P S Q (runtimePanic (.error m):Sem a) c (runtimePanic (.error m):Sem b):=jP d _ _ ⟨by simp,by simp⟩
def pf{a b:Type}{Q:Ren->a->b->Prop}{c:Ren}(d:Ren.Ok P c):aB P S Q (runtimePanic .nilDeref:Sem a) c (runtimePanic .nilDeref:Sem b):=jP d _ _ ⟨by simp,by simp⟩
def km{g j:Type}{Q:Ren->g->j->Prop}{l:Ren}(f:Ren.Ok P l)(k:IntKind)(i y:Int)(c:BoundsCode):aB P S Q (boundsPanic k i y c:Sem g) l (boundsPanic k i y c:Sem j):=by
 unfold boundsPanic;split;refine aB.bind (Q:=lq) f ?_ λd a b e h=>by subst h;exact jP e.ok _ _ ⟨by simp,by simp⟩
 exact aB.bind f (nK _) λd a b e h=>by subst h;exact aA rfl
 exact aB.bind (Q:=lq) f (aA rfl) λd a b e h=>by subst h;exact jP e.ok _ _ ⟨by simp,by simp⟩
def ru{b:Ren}{v a:ak}(h:bh S b v a):aB P S lq (asIntOf v) b (asIntOf a):=by cases h<;>first|exact aA rfl|exact NC|exact my
def wF{c:Ren}(e:Ren.Ok P c){v d:ak}(h:bh S c v d):aB P S lq (asInt v) c (asInt d):=aB.bind e (ru h) λ_ a b _ h=>by subst h;exact aA rfl
def AJ{b:Ren}{v a:ak}(h:bh S b v a):aB P S lq (asBool v) b (asBool a):=by cases h<;>first|exact aA rfl|exact my
def Wj{b:Ren}{v a:ak}(h:bh S b v a):aB P S (Yi S) (asAgg v) b (asAgg a):=by
 cases h with|agg s i=>exact aA ⟨s,i⟩|_=>exact my
def Je{a:Ren}(c:Ren.Ok P a){v b:ak}(h:bh S a v b):aB P S AQ (asAddr v) a (asAddr b):=by
 cases h with|pointer x=>exact aA x|eF=>exact pf c|_=>exact my
def pg{b:Ren}{v a:ak}(h:bh S b v a):aB P S AQ (Instr.sureAddr v) b (Instr.sureAddr a):=by
 cases h with|pointer x=>exact aA x|_=>exact my
def Ji{a:Ren}(d:Ren.Ok P a)(t:az){v b:ak}(h:bh S a v b):aB P S (VQ S) (dN t v) a (dN t b):=aB.bind d (pg h) λ_ _ _ e c=>Ey e.ok t c
def P0{a:Ren}(g:Ren.Ok P a)(t:az){v b x c:ak}(h:bh S a v b)(f:bh S a x c):aB P S lq (dP t v x) a (dP t b c):=aB.bind g (pg h) λ_ _ _ e d=>LR e.ok t d (f.mono e)
def abl{a:Ren}(b:Ren.Ok P a)(t:az){v c:ak}(h:bh S a v c):aB P S (VQ S) (Instr.box t v) a (Instr.box t c):=aB.bind b (Jm t b h) λ_ _ _ _ d=>aA (.pointer d)
def Wi{f:Ren}(i:qC P S)(d:Ren.Ok P f)(t:az):aB P S (VQ S) (Instr.alloc t ar (.tuple #[])) f (Instr.alloc t ar (.tuple #[])):=by
 refine aB.bind d (kQ i d t) λc a b e h=> ?_
 obtain⟨rfl,h⟩:=h;exact aB.bind e.ok (Jm t e.ok (h c)) λ_ _ _ _ g=>aA (.pointer g)
def Jn{c:Ren}(j:Ren.Ok P c){r f:Nat}(h:c r f):aB P S (λ_ a b=>a=ah/\b=ah) (viewAt r) c (viewAt f):=by
 unfold viewAt;refine aB.bind j (ny h) λd a b e i=> ?_
 subst i;cases a with
 |some x=>exact aA ⟨rfl,rfl⟩|none=>
  refine aB.bind e.ok (iR (e.le _ _ h)) λd a b e g=> ?_
  cases g<;>exact aA ⟨rfl,rfl⟩
def AV{b:Ren}(d:Ren.Ok P b){a c:Addr}(h:dt b a c):aB P S lq (noView a) b (noView c):=by
 unfold noView;refine aB.bind d (Jn d h.block) λg x y e f=> ?_
 obtain⟨rfl,rfl⟩:=f;exact aA rfl
def pe{c:Ren}(g:Ren.Ok P c){a d:Addr}(h:dt c a d):aB P S lq (byteOf a) c (byteOf d):=by
 unfold byteOf;rw[h.spot,h.off];cases a.spot with
 |some s=>exact aA rfl|none=>
  refine aB.bind g gD λi p m b hp=> ?_
  obtain⟨rfl,rfl⟩:=hp;refine aB.bind b.ok (AV b.ok (h.mono b)) λj _ _ e _=> ?_
  refine aB.bind e.ok (ny ((h.mono b).mono e).block) λk x y l f=> ?_
  subst f;cases x with|none=>exact my|some x=>simp only;split;exact aA rfl;split;exact aA rfl;exact my
def TD{g:Ren}(j:Ren.Ok P g){a b:Addr}(h:dt g a b)(n m:Nat):aB P S AQ (partAt a n m) g (partAt b n m):=by
 unfold partAt;refine aB.bind j (pe j h) λi x y d f=> ?_
 subst f;have c:dt i {block:=a.block,off:=a.off+n} {block:=b.block,off:=b.off+n}:=⟨(h.mono d).block,by simp[h.off],rfl⟩;refine aB.bind d.ok (pe d.ok c) λk l o e f=> ?_
 subst f;split;exact aA (c.mono e);exact aA ⟨(c.mono e).block,(c.mono e).off,rfl⟩
def F6{c:Ren}(e:Ren.Ok P c){a d:Addr}(h:dt c a d)(f:Field):aB P S AQ (fieldPlace a f) c (fieldPlace d f):=by
 unfold fieldPlace;refine aB.bind e (fI e _) λi x y b g=> ?_
 subst g;split;exact TD b.ok (h.mono b) _ _;exact aA ((h.mono b).add _)
def PV{c:Ren}(g:Ren.Ok P c)(s:az){v i:ak}(h:bh S c v i)(f:Nat):aB P S (VQ S) (Instr.fieldAt s v f) c (Instr.fieldAt s i f):=by
 unfold Instr.fieldAt;refine aB.bind g (bH g s) λm x y d l=> ?_
 obtain⟨rfl,_⟩:=l;split;split;refine aB.bind d.ok (pg (h.mono d)) λn a p e j=> ?_
 exact aB.bind e.ok (F6 e.ok j _) λo b q r k=>aA (.pointer k)
 exact my;exact my
end
section
variable{P:aO} {S:gM}
def ub(t:az)(k:IntKind)(i:Int)(x:Option Addr×Nat×az):Sem ak:=do
 let(base,len,elem):=x
 let b:=len<=1&&(match<-underlying t with|.array ..=>ar|_=>au)
 match base with
 |some a=>
  if 0<=i/\i<len then pure (.pointer (ae (a.add (i.toNat*(<-sizeOf elem)))))
  else if b then unsupported (.noEntry "op/indexAddr.an index out of range at an array of length 0 or 1 (ledger 616)")
  else boundsPanic k i len .index
 |none=>boundsPanic k i 0 .index
def xD{b:Ren}(f:Ren.Ok P b)(t:az)(k:IntKind)(n:Int){o e:Option Addr}(h:gq (dt b) o e)(l:Nat)(c:az):aB P S (VQ S) (ub t k n (o,l,c)) b (ub t k n (e,l,c)):=by
 unfold ub;refine aB.bind f (bH f t) λp d r a j=> ?_
 obtain⟨rfl,_⟩:=j;cases h with
 |none=>exact km a.ok _ _ _ _|some i=>
  simp only;split;exact aB.bind a.ok (fI a.ok _) λq s u g m=>by subst m;exact aA (.pointer (((i.mono a).mono g).add _))
  split<;>(split<;>first|exact rfl|exact km a.ok _ _ _ _)
def Ew{j:Ren}(w:Ren.Ok P j)(t:az){x q i p:ak}(v:bh S j x q)(u:bh S j i p):aB P S (VQ S) (Instr.indexAt t x i) j (Instr.indexAt t q p):=by
 unfold Instr.indexAt;refine aB.bind w (ru u) λy a b m h=> ?_
 subst h;obtain⟨k,n⟩:=a;simp only;refine aB.bind m.ok (bH m.ok t) λz d C f s=> ?_
 obtain⟨rfl,_⟩:=s;have e:=(v.mono m).mono f;cases d with
 |array l g=>simp only;exact aB.bind f.ok (pg e) λA a B r o=>xD r.ok t k n (.some o) l g|slice g=>
  cases e with|fl l c=>exact xD f.ok t k n .none l g|slice l c o=>exact xD f.ok t k n (.some o) l g|_=>exact rfl
 |_=>cases e<;>exact rfl
def F9{d:Ren}(g:Ren.Ok P d){x e:ak}(h:bh S d x e)(y:Nat)(c:BoundsCode):aB P S lq (Instr.sliceBound x y c) d (Instr.sliceBound e y c):=by
 unfold Instr.sliceBound;refine aB.bind g (ru h) λj a b f h=> ?_
 subst h;obtain⟨k,i⟩:=a;simp only;split;exact aA rfl;exact km f.ok _ _ _ _
def C'{g:Type}{Q:Ren->g->g->Prop}{f:Ren}(j:Ren.Ok P f){x l:ak}(h:bh S f x l)(y:Nat)(c:BoundsCode){k i:Nat->Sem g}(m:∀d n,Ext P f d->aB P S Q (k n) d (i n)):aB P S Q (Instr.sliceBound x y c >>= k) f (Instr.sliceBound l y c >>= i):=aB.bind j (F9 j h y c) λd a b e h=>by subst h;exact m d a e
def lH{h:Ren}(a:Ren.Ok P h)(b:Bool)(len c:Nat){m f l d n g:Option ak}(i:gq (bh S h) m f)(k:gq (bh S h) l d)(hm:gq (bh S h) n g):aB P S lq (Instr.sliceBounds b len c m l n) h (Instr.sliceBounds b len c f d g):=by
 unfold Instr.sliceBounds;cases hm with
 |none=>cases k with
  |none=>cases i with|none=>exact aA rfl|some x=>exact C' a x _ _ λ_ _ _=>aA rfl
  |some y=>cases i with|none=>exact C' a y _ _ λ_ _ _=>aA rfl|some x=>exact C' a y _ _ λ_ _ e=>C' e.ok (x.mono e) _ _ λ_ _ _=>aA rfl
 |some z=>cases k with
  |none=>exact C' a z _ _ λ_ _ _=>rfl|some y=>cases i with|none=>exact C' a z _ _ λ_ _ e=>C' e.ok (y.mono e) _ _ λ_ _ _=>aA rfl|some x=>exact C' a z _ _ λ_ _ e=>C' e.ok (y.mono e) _ _ λ_ _ j=>C' j.ok ((x.mono e).mono j) _ _ λ_ _ _=>aA rfl
def Wt{r:Ren}(I:Ren.Ok P r)(t:az){x J:ak}(Q:bh S r x J){F w E v G y:Option ak}(O:gq (bh S r) F w)(N:gq (bh S r) E v)(hm:gq (bh S r) G y):aB P S (VQ S) (Instr.slice t x F E G) r (Instr.slice t J w v y):=by
 unfold Instr.slice;refine aB.bind I (bH I t) λR d K f D=> ?_
 obtain⟨rfl,_⟩:=D;have k:=Q.mono f;have j:=O.mono λ_ _ x=>bh.mono f x
 have i:=N.mono λ_ _ x=>bh.mono f x
 have q:=hm.mono λ_ _ x=>bh.mono f x
 cases d with
 |string=>
  cases k with
  |string s=>
   simp only;cases hm with|some=>exact rfl|none=>exact aB.bind f.ok (lH f.ok _ _ _ j i .none) λ_ a b e h=>by subst h;exact aA (.string _)
  |_=>exact rfl
 |slice M=>
  cases k with
  |fl l c=>
   simp only;refine aB.bind f.ok (lH f.ok _ _ _ j i q) λz a b g h=> ?_
   subst h;refine aB.bind g.ok (fI g.ok _) λA n H o h=> ?_
   subst h;obtain⟨l,h,m⟩:=a;simp only[Option.map_none,ite_self];exact aA (.fl _ _)
  |slice l c B=>
   simp only;refine aB.bind f.ok (lH f.ok _ _ _ j i q) λz a b g h=> ?_
   subst h;refine aB.bind g.ok (fI g.ok _) λA n H o h=> ?_
   subst h;obtain⟨l,h,m⟩:=a;simp only;split;exact aA (.slice _ _ ((B.mono g).mono o));exact aA (.slice _ _ (((B.mono g).mono o).add _))
  |_=>exact rfl
 |pointer arr=>
  simp only;refine aB.bind f.ok (Je f.ok k) λz a V g B=> ?_
  refine aB.bind g.ok (bH g.ok arr) λA d K o D=> ?_
  obtain⟨rfl,_⟩:=D;cases d with
  |array n M=>
   have p:=g.trans o;refine aB.bind o.ok (lH o.ok _ _ _ (j.mono λ_ _ x=>bh.mono p x) (i.mono λ_ _ x=>bh.mono p x) (q.mono λ_ _ x=>bh.mono p x)) λT b W C h=> ?_
   subst h;refine aB.bind C.ok (fI C.ok _) λU n H L h=> ?_
   subst h;obtain⟨l,h,m⟩:=b;have u:=((B.mono o).mono C).mono L;simp only;split;exact aA (.slice _ _ u);exact aA (.slice _ _ (u.add _))
  |_=>exact rfl
 |_=>cases k<;>exact rfl
def PZ{e:Ren}(y:Ren.Ok P e)(t:az){x z:ak}(u:bh S e x z){v p s j w q:Option ak}(E:gq (bh S e) v p)(D:gq (bh S e) s j)(hm:gq (bh S e) w q):aB P S (VQ S) (Instr.sliceAt t x v s w) e (Instr.sliceAt t z p j q):=by
 unfold Instr.sliceAt;refine aB.bind y (bH y t) λF d L c C=> ?_
 obtain⟨rfl,_⟩:=C;have k:=E.mono λ_ _ x=>bh.mono c x
 have i:=D.mono λ_ _ x=>bh.mono c x
 have o:=hm.mono λ_ _ x=>bh.mono c x
 cases d with
 |array n M=>
  simp only;refine aB.bind c.ok (pg (u.mono c)) λG a J f B=> ?_
  refine aB.bind f.ok (lH f.ok _ _ _ (k.mono λ_ _ x=>bh.mono f x) (i.mono λ_ _ x=>bh.mono f x) (o.mono λ_ _ x=>bh.mono f x)) λH b K r h=> ?_
  subst h;refine aB.bind r.ok (fI r.ok _) λI n N A h=> ?_
  subst h;obtain⟨l,h,m⟩:=b;have g:=(B.mono r).mono A;simp only;split;exact aA (.slice _ _ g);exact aA (.slice _ _ (g.add _))
 |_=>exact Wt c.ok t (u.mono c) k i o
end
section
variable{P:aO} {S:gM}
def fO.extract{g j:Type}{R:g->j->Prop}{x:Array g}{y:Array j}(h:fO R x y)(a b:Nat):fO R (x.extract a b) (y.extract a b):=by refine⟨by simp[h.size],λi c d e f=> ?_⟩;rw[Array.getElem?_extract]at e f;rw[<-h.size]at f;split at e;rename_i k;rw[if_pos k]at f;exact h.at_ _ c d e f;cases e
def nX{g:Ren}(k:Ren.Ok P g)(t:az){c d:Array ak}(h:cz S g c d)(a:Nat):aB P S (VQ S) (part t c a) g (part t d a):=by
 unfold part;refine aB.bind k (NA k t) λi b s e m=> ?_
 subst m;have j:cz S i c d:=h.mono λ_ _ x=>x.mono e
 cases b with
 |true=>
  simp only[if_true];refine aB.bind e.ok (fI e.ok t) λr n u l p=> ?_
  subst p;have:=(j.extract a (a+n)).mono λ_ _ x=>bh.mono l x
  exact aA (.agg this.size this.at_)
 |false=>
  simp only[cK,if_false];cases o:c[a]? with|none=>exact rfl|some v=>obtain⟨w,f,q⟩:=j.get o;rw[f];exact aA q
def Wo{c:Ren}(g:Ren.Ok P c)(t:az){x i:ak}(h:bh S c x i)(f:Nat):aB P S (VQ S) (Instr.field t x f) c (Instr.field t i f):=by
 unfold Instr.field;refine aB.bind g (bH g t) λm d p e l=> ?_
 obtain⟨rfl,_⟩:=l;cases d with
 |struct b=>
  simp only;cases b[f]? with|none=>exact rfl|some q=>exact aB.bind e.ok (Wj (h.mono e)) λn a o j k=>nX j.ok _ k _
 |_=>exact rfl
def Wp{f:Ren}(w:Ren.Ok P f)(t:az){x p i o:ak}(u:bh S f x p)(r:bh S f i o):aB P S (VQ S) (Instr.index t x i) f (Instr.index t p o):=by
 unfold Instr.index;refine aB.bind w (ru r) λy a b g h=> ?_
 subst h;obtain⟨k,n⟩:=a;simp only;refine aB.bind g.ok (bH g.ok t) λz d B e q=> ?_
 obtain⟨rfl,_⟩:=q;have c:=(u.mono g).mono e;cases d with
 |array l C=>
  cases c with
  |agg s v=>
   simp only;split;exact aB.bind e.ok (fI e.ok _) λA m D j hm=>by subst hm;exact nX j.ok _ (fO.mono ⟨s,v⟩ λ_ _ x=>bh.mono j x) _
   exact km e.ok _ _ _ _
  |_=>exact rfl
 |string=>
  cases c with|string s=>simp only;split;exact aA (.int _ _);exact km e.ok _ _ _ _|_=>exact rfl
 |_=>cases c<;>exact rfl
def PU{b:Ren}{x c:ak}(h:bh S b x c)(i:Nat):aB P S (VQ S) (Instr.extract x i) b (Instr.extract c i):=by
 unfold Instr.extract;cases h with
 |tuple s f=>
  rename_i x y;simp only;cases d:x[i]? with|none=>exact rfl|some v=>obtain⟨g,a,e⟩:=fO.get (R:=bh S b) ⟨s,f⟩ d;rw[a];exact aA e
 |_=>exact rfl
end
end Rel
section
open Go.RowKit
def BE(X:BitVec 64):IntKind.i64.wrap (X.toNat:Int)=X.toInt:=by have h:=X.isLt;rw[IntKind.wrap_i64,BitVec.toInt_eq_toNat_cond];split<;>omega
def Hk(a b:Int):bits .and .i64 a b=(BitVec.ofInt 64 a &&& BitVec.ofInt 64 b).toInt:=BE _
def Vd(a b:Int):bits .or .i64 a b=(BitVec.ofInt 64 a ||| BitVec.ofInt 64 b).toInt:=BE _
def kO(m a b c:Int):Bool:=(bits .and .i64 m a==a)&&(bits .and .i64 m b==0)&&(c==0||bits .and .i64 m c !=0)
def Fits(a:Int):Prop:= -9223372036854775808<=a/\a<=9223372036854775807
def and_zero(m:Int):bits .and .i64 m 0=0:=by rw[Hk];simp
def parts{m a b c:Int}:kO m a b c=(kO m a 0 0&&kO m 0 b 0&&kO m 0 0 c):=by simp[kO,and_zero]
def FA(m:Int):kO m 0 0 0=ar:=by simp[kO,and_zero]
structure aN where
 k:Int
 v:List Int
def aN.list(b:aN):List Int:=b.k::b.v
structure Query where
 FG:Int
 nt:Int
 any:Int
def Query.list(q:Query):List Int:=[q.FG,q.nt,q.any]
structure Sys where
 q:Query
 read:Int
 write:Int
 act:Int
 n:Int
def Sys.list(s:Sys):List Int:=[s.q.FG,s.q.nt,s.q.any,s.read,s.write,s.act,s.n]
def cX(m:Int):Bool:=decide (0<=m)&&decide (m<=255)
def ky(b:aN)(j:Nat):Int:=if b.k.toNat.testBit j=au/\b.v.getD j 0≠0 then 4 else if b.v.getD j 0< -1000000000\/1000000000<b.v.getD j 0 then 1 else 0
def il:List Int->Int|[]=>0|e::r=>if e=0 then il r else e
def bT(b:aN):Int:=if cX b.k then il ((a6 8).map (ky b))else 1
def jN(q:Query):Int:=if cX q.FG&&cX q.nt&&cX q.any then 0 else 1
def eP(s:Sys):Int:=
 if jN s.q≠0 then jN s.q
 else if !(cX s.read)|| !(cX s.write)||decide (s.act<1)||decide (3<s.act)||decide (s.n< -1000000)||decide (1000000<s.n)then 1
 else if(decide (s.act=3)&&decide (s.n≠0))||(decide (s.act≠2)&&decide (s.read≠0))then 4 else 0
def fu(m:Int)(q:Query):Bool:=kO m q.FG q.nt q.any
def sx(l r:List Int)(h:∀e∈l,e=0):il (l++r)=il r:=by
 induction l with|nil=>rfl|cons a l c=>rw[List.cons_append,il,if_pos (h a (by simp)),c λe b=>h e (by simp[b])]
def ya(b:aN)(j:Nat)(e:j<8)(d:cX b.k=ar)(a:∀i,i<j->ky b i=0)(c:ky b j≠0):bT b=ky b j:=by unfold bT;rw[if_pos d,show(8:Nat)=j+(1+(7-j))from by omega,List.range_add,List.map_append,sx _ _ (by simpa using a),du 1,List.range_succ_eq_map];simp[il,c]
def qg(b:aN)(c:cX b.k=ar)(a:∀i,i<8->ky b i=0):bT b=0:=by unfold bT;rw[if_pos c];have:=sx ((a6 8).map (ky b)) [] (by simpa using a);rw[List.append_nil]at this;exact this
def mh(b:aN)(h:bT b=0):(0<=b.k/\b.k<=255)/\∀j,j<8->(b.k.toNat.testBit j=au->b.v.getD j 0=0)/\ -1000000000<=b.v.getD j 0/\b.v.getD j 0<=1000000000:=by
 have f:cX b.k=ar:=by unfold bT at h;split at h;assumption;simp at h
 refine⟨by simpa[cX]using f,?_⟩;have a:∀j,j<8->ky b j=0:=by
  intro j
  induction j using ly with|ind j n=>intro e;by_cases d:ky b j=0;exact d;have:=ya b j e f (λi m=>n i m (by omega)) d;exact absurd (this.symm.trans h) d
 intro j e;have c:=a j e;unfold ky at c;split at c;simp at c;rename_i k;split at c;simp at c;rename_i o;refine⟨λl=> ?_,by omega⟩;by_cases g:b.v.getD j 0=0;exact g;exact absurd ⟨l,g⟩ k
def Rr(b:aN)(e:0<=b.k/\b.k<=255)(h:∀j,j<8->(b.k.toNat.testBit j=au->b.v.getD j 0=0)/\ -1000000000<=b.v.getD j 0/\b.v.getD j 0<=1000000000):bT b=0:=by
 refine qg b (by simpa[cX]using e) λj d=> ?_
 obtain⟨c,f,g⟩:=h j d;unfold ky;rw[if_neg (λa=>a.2 (c a.1)),if_neg (by omega)]
def yI(n:Int):Int:=if n< -1000000000 then-1000000000 else if 1000000000<n then 1000000000 else n
def wl(b:aN)(s:Sys):List Nat:=kinds (b.k.toNat &&& s.write.toNat)
def rl(b:aN)(s:Sys):List Nat:=kinds (b.k.toNat &&& s.read.toNat)
def mD(b:aN)(s:Sys)(l:List Nat):Int:=l.foldl (λa k=>a+b.v.getD k 0) s.n
def iQ(b:aN)(s:Sys)(l:List Nat)(i:Nat):Int:=if s.act=1 then yI (b.v.getD (l.getD i 0) 0+s.n)else if s.act=2 then yI (mD b s (rl b s))else b.v.getD (l.getD ((i+1) % l.length) 0) 0
def pd(f:Nat->Int)(l:List Nat)(v:List Int):Nat->List Int|0=>v|i+1=>(pd f l v i).set (l.getD i 0) (f i)
def cq(b:aN)(s:Sys):aN:=if fu b.k s.q then⟨b.k,pd (iQ b s (wl b s)) (wl b s) b.v (wl b s).length⟩else b
def nh:aN:=⟨0,[0,0,0,0,0,0,0,0]⟩
def wz(f:Nat->Int)(l:List Nat)(v:List Int)(i:Nat):(pd f l v i).length=v.length:=by
 induction i with|zero=>rfl|succ i a=>simp[pd,a]
def ns{l:List Nat}{j:Nat}(h:j<l.length):l.getD j 0=l[j]:=by simp[bm,aq h]
def s9(v:List Int)(i k:Nat)(x:Int):(v.set i x).getD k 0=if i=k/\k<v.length then x else v.getD k 0:=by simp only[bm,List.getElem?_set];by_cases h:i=k;subst h;by_cases a:i<v.length;simp[a];simp[a];simp[h]
def Nu(f:Nat->Int)(l:List Nat)(v:List Int)(d:l.Nodup):∀i,i<=l.length->∀j,j<i->l.getD j 0<v.length->(pd f l v i).getD (l.getD j 0) 0=f j:=by
 intro i
 induction i with
 |zero=>intro _ j c;omega|succ i g=>intro h j c b;unfold pd;rw[s9,wz];by_cases a:j=i;subst a;rw[if_pos ⟨rfl,b⟩];rw[if_neg];exact g (by omega) j (by omega) b;rintro⟨e,_⟩;rw[ns (show i<l.length by omega),ns (show j<l.length by omega)]at e;exact(List.pairwise_iff_getElem.1 (List.nodup_iff_pairwise_ne.1 d) j i (by omega) (by omega) (by omega)) e.symm
def I5(f:Nat->Int)(l:List Nat)(v:List Int)(k:Nat)(a:k∉l):∀i,i<=l.length->(pd f l v i).getD k 0=v.getD k 0:=by
 intro i
 induction i with
 |zero=>intro _;rfl|succ i b=>intro c;unfold pd;rw[s9,if_neg];exact b (by omega);rintro⟨e,_⟩;rw[ns (show i<l.length by omega)]at e;exact a (e▸List.getElem_mem _)
def wx{l:List Nat}{k:Nat}(h:k∈l):∃j,j<l.length/\l.getD j 0=k:=by obtain⟨j,a,e⟩:=List.mem_iff_getElem.1 h;exact⟨j,a,by simp[bm,aq a,e]⟩
def nn(b:aN)(s:Sys):(cq b s).k=b.k:=by unfold cq;split<;>rfl
def fF(b:aN)(s:Sys):(cq b s).v.length=b.v.length:=by unfold cq;split<;>simp[wz]
def Um(b:aN)(s:Sys):(wl b s).Nodup:=pP _
def lW(b:aN)(s:Sys)(k:Nat):k∈wl b s↔k<8/\b.k.toNat.testBit k=ar/\s.write.toNat.testBit k=ar:=by unfold wl;rw[jg,Nat.testBit_and,aG]
def gw(b:aN)(s:Sys)(k:Nat)(a:k∉wl b s):(cq b s).v.getD k 0=b.v.getD k 0:=by unfold cq;split;exact I5 _ _ _ _ a _ (av _);rfl
def oW(b:aN)(s:Sys)(d:b.v.length=8)(c:fu b.k s.q=ar)(j:Nat)(a:j<(wl b s).length):(cq b s).v.getD ((wl b s).getD j 0) 0=iQ b s (wl b s) j:=by
 unfold cq;rw[if_pos c];refine Nu _ _ _ (Um b s) _ (av _) j a ?_;have hm:(wl b s).getD j 0∈wl b s:=by simp[bm,aq a]
 have:=((lW b s _).1 hm).1;omega
def zN(n:Int): -1000000000<=yI n/\yI n<=1000000000:=by unfold yI;split<;>(try split)<;>omega
def vP(b:aN)(s:Sys)(l:b.v.length=8)(m:bT b=0):bT (cq b s)=0:=by
 obtain⟨p,k⟩:=mh b m;refine Rr _ (by rw[nn];exact p) λj o=> ?_
 rw[nn];by_cases hm:fu b.k s.q=ar/\j∈wl b s;have d:=hm.1;have hm:=hm.2;obtain⟨i,n,e⟩:=wx hm;have a:=oW b s l d i n;rw[e]at a;have c:=((lW b s j).1 hm).2.1;refine⟨λh=>absurd (c.symm.trans h) (by simp),?_⟩;rw[a];unfold iQ;split;exact zN _;split;exact zN _;have f:(i+1) % (wl b s).length<(wl b s).length:=Nat.mod_lt _ (by omega);have g:(wl b s).getD ((i+1) % (wl b s).length) 0∈wl b s:=by simp[bm,aq f]
 exact(k _ ((lW b s _).1 g).1).2;have a:(cq b s).v.getD j 0=b.v.getD j 0:=by
  by_cases d:fu b.k s.q=ar;exact gw b s j λh=>hm ⟨d,h⟩
  unfold cq;rw[if_neg d]
 rw[a];exact k j o
def Fy:∀a b:Int,0<=a/\a<=255->0<=b/\b<=255->bits .and .i64 a b=((a.toNat &&& b.toNat:Nat):Int)/\a.toNat &&& b.toNat<256:=by
 have h:∀a b:Fin 256,bits .and .i64 (a.val:Int) (b.val:Int)=((a.val &&& b.val:Nat):Int)/\a.val &&& b.val<256:=by
  intro a b;have c:=a.isLt;have d:=b.isLt;have e:a.val &&& b.val<256:=Nat.lt_of_le_of_lt Nat.and_le_left c;refine⟨?_,e⟩;rw[Hk];have f:∀x:Nat,x<256->BitVec.ofInt 64 (x:Int)=BitVec.ofNat 64 x:=λx _=>by rw[BitVec.ofInt_natCast]
  rw[f _ c,f _ d,<-BitVec.ofNat_and,BitVec.toInt_eq_toNat_cond,BitVec.toNat_ofNat,Nat.mod_eq_of_lt (by omega)];rw[if_pos (by omega)]
 intro a b c d;have:=h ⟨a.toNat,by omega⟩ ⟨b.toNat,by omega⟩;simp only[Int.toNat_of_nonneg c.1,Int.toNat_of_nonneg d.1]at this;exact this
def gu(s t:Sys):Bool:=bits .or .i64 (bits .and .i64 s.write (bits .or .i64 t.read t.write)) (bits .and .i64 t.write s.read) !=0
def JY{x:Nat}(h:x<256):(BitVec.ofNat 64 x).toInt=(x:Int):=by rw[BitVec.toInt_eq_toNat_cond,BitVec.toNat_ofNat,Nat.mod_eq_of_lt (by omega),if_pos (by omega)]
def yq{a:Int}(h:0<=a/\a<=255):BitVec.ofInt 64 a=BitVec.ofNat 64 a.toNat:=by have:=BitVec.ofInt_natCast 64 a.toNat;rwa[Int.toNat_of_nonneg h.1]at this
def XV(a b:Int)(d:0<=a/\a<=255)(e:0<=b/\b<=255):bits .or .i64 a b=((a.toNat ||| b.toNat:Nat):Int)/\a.toNat ||| b.toNat<256:=by have c:a.toNat ||| b.toNat<2^8:=Nat.or_lt_two_pow (by omega) (by omega);refine⟨?_,c⟩;rw[Vd,yq d,yq e,<-BitVec.ofNat_or,JY c]
def tS{s t:Sys}(i:cX s.read=ar)(j:cX s.write=ar)(l:cX t.read=ar)(f:cX t.write=ar):gu s t=ar↔∃k,k<8/\((s.write.toNat.testBit k=ar/\(t.read.toNat.testBit k=ar\/t.write.toNat.testBit k=ar))\/(t.write.toNat.testBit k=ar/\s.read.toNat.testBit k=ar)):=by
 simp only[cX,aG,decide_eq_true_eq]at i j l f;obtain⟨m,v⟩:=XV _ _ l f;obtain⟨n,w⟩:=Fy s.write ((t.read.toNat ||| t.write.toNat:Nat):Int) j (by omega);obtain⟨o,x⟩:=Fy t.write s.read f i;unfold gu;rw[m,n,o];obtain⟨p,u⟩:=XV ((s.write.toNat &&& ((t.read.toNat ||| t.write.toNat:Nat):Int).toNat:Nat):Int) ((t.write.toNat &&& s.read.toNat:Nat):Int) (by omega) (by omega);rw[p];simp only[Int.toNat_natCast]at*;generalize q:(s.write.toNat &&& (t.read.toNat ||| t.write.toNat)) ||| (t.write.toNat &&& s.read.toNat)=X at*;have a:∀k,X.testBit k=((s.write.toNat.testBit k&&(t.read.toNat.testBit k||t.write.toNat.testBit k))||(t.write.toNat.testBit k&&s.read.toNat.testBit k)):=by intro k;rw[<-q];simp[Nat.testBit_or,Nat.testBit_and]
 constructor;intro h;have d:X≠0:=by intro e;rw[e]at h;simp at h
 obtain⟨k,b⟩:=Nat.exists_testBit_of_ne_zero d;refine⟨k,?_,?_⟩;apply Decidable.byContradiction;intro r;have g:X<2^k:=aW u (be (by decide:256<=2^8) (Nat.pow_le_pow_right (by omega) (by omega)));rw[Nat.testBit_lt_two_pow g]at b;exact absurd b (by simp);rw[a]at b;simpa using b;rintro⟨k,_,b⟩;have c:X.testBit k=ar:=by rw[a];simpa using b
 have d:X≠0:=by intro e;rw[e]at c;simp at c
 simp;omega
def KF{s t:Sys}(e:cX s.read=ar)(f:cX s.write=ar)(g:cX t.read=ar)(i:cX t.write=ar):gu t s=gu s t:=by have a:=tS e f g i;have b:=tS g i e f;rw[mF,a,b];constructor;rintro⟨k,d,h⟩;refine⟨k,d,?_⟩;rcases h with⟨h,c|c⟩|⟨h,c⟩;exact bW ⟨h,c⟩;exact bt ⟨c,bW h⟩;exact bt ⟨h,bt c⟩;rintro⟨k,d,h⟩;refine⟨k,d,?_⟩;rcases h with⟨h,c|c⟩|⟨h,c⟩;exact bW ⟨h,c⟩;exact bt ⟨c,bW h⟩;exact bt ⟨h,bt c⟩
def Dt{a b:aN}(c:a.k=b.k)(f:a.v.length=8)(g:b.v.length=8)(h:∀k,k<8->a.v.getD k 0=b.v.getD k 0):a=b:=by
 cases a with|mk j l=>cases b with|mk m n=>
 simp only at c f g h;subst c;congr 1;apply List.ext_getElem (by omega);intro i d e;have:=h i (by omega);simpa[bm,aq d,aq e]using this
def Di{b a:aN}(h:a.k=b.k)(s:Sys):wl a s=wl b s:=by unfold wl;rw[h]
def adq{b a:aN}(h:a.k=b.k)(s:Sys):rl a s=rl b s:=by unfold rl;rw[h]
def sa{b c:aN}{s:Sys}{l:List Nat}{i:Nat}(m:c.k=b.k)(f:i<l.length)(d:∀k∈l,c.v.getD k 0=b.v.getD k 0)(e:s.act=2->∀k∈rl b s,c.v.getD k 0=b.v.getD k 0):iQ c s l i=iQ b s l i:=by
 have hm:∀j,j<l.length->l.getD j 0∈l:=λj g=>by simp[bm,aq g]
 unfold iQ;split;rw[d _ (hm i f)];split;rename_i h;rw[adq m];have:∀(l:List Nat)(a:Int),(∀k∈l,c.v.getD k 0=b.v.getD k 0)->l.foldl (λa k=>a+c.v.getD k 0) a=l.foldl (λa k=>a+b.v.getD k 0) a:=by
  intro l
  induction l with|nil=>intro a _;rfl|cons k l o=>intro a h;rw[List.foldl_cons,List.foldl_cons,h k (by simp),o _ λq n=>h q (by simp[n])]
 unfold mD;rw[this _ _ (e h)];exact d _ (hm _ (Nat.mod_lt _ (by omega)))
def Lt(b:aN)(s:Sys)(k:Nat):k∈rl b s↔k<8/\b.k.toNat.testBit k=ar/\s.read.toNat.testBit k=ar:=by unfold rl;rw[jg,Nat.testBit_and,aG]
def apart(b:aN)(s t:Sys)(v:b.v.length=8)(x:cX s.read=ar)(y:cX s.write=ar)(z:cX t.read=ar)(A:cX t.write=ar)(B:gu s t=au):cq (cq b s) t=cq (cq b t) s:=by
 have m:∀k,k<8->¬((s.write.toNat.testBit k=ar/\(t.read.toNat.testBit k=ar\/t.write.toNat.testBit k=ar))\/(t.write.toNat.testBit k=ar/\s.read.toNat.testBit k=ar)):=by intro k w h;have:=(tS x y z A).2 ⟨k,w,h⟩;rw[B]at this;exact absurd this (by simp)
 have d:(cq b s).k=b.k:=nn b s;have f:(cq b t).k=b.k:=nn b t;by_cases r:fu b.k s.q=ar;by_cases u:fu b.k t.q=ar;refine Dt (by rw[nn,d,nn,f]) (by rw[fF,fF,v]) (by rw[fF,fF,v]) λk w=> ?_
 by_cases o:k∈wl b s;have l:k∉wl b t:=λh=>by have a:=(lW _ _ _).1 o;have c:=(lW _ _ _).1 h;exact m k w (bt ⟨a.2.2,bW c.2.2⟩)
 obtain⟨j,q,g⟩:=wx o;rw[gw (cq b s) t k (by rw[Di d];exact l)];have a:=oW b s v r j q;have c:=oW (cq b t) s (by rw[fF,v]) (by rw[f];exact r) j (by rw[Di f];exact q);rw[Di f,g]at c;rw[g]at a;rw[a,c];refine(sa f q (λi p=>gw b t i λh=> ?_) (λ_ i p=>gw b t i λh=> ?_)).symm;have a:=(lW _ _ _).1 p;have c:=(lW _ _ _).1 h;exact m i a.1 (bt ⟨a.2.2,bW c.2.2⟩);have a:=(Lt _ _ _).1 p;have c:=(lW _ _ _).1 h;exact m i a.1 (bW ⟨c.2.2,a.2.2⟩);rw[gw (cq b t) s k (by rw[Di f];exact o)];by_cases l:k∈wl b t;obtain⟨j,q,g⟩:=wx l;have a:=oW b t v u j q;have c:=oW (cq b s) t (by rw[fF,v]) (by rw[d];exact u) j (by rw[Di d];exact q);rw[Di d,g]at c;rw[g]at a;rw[a,c];refine sa d q (λi p=>gw b s i λh=> ?_) (λ_ i p=>gw b s i λh=> ?_);have a:=(lW _ _ _).1 p;have c:=(lW _ _ _).1 h;exact m i a.1 (bt ⟨c.2.2,bW a.2.2⟩);have a:=(Lt _ _ _).1 p;have c:=(lW _ _ _).1 h;exact m i a.1 (bt ⟨c.2.2,bt a.2.2⟩);rw[gw (cq b s) t k (by rw[Di d];exact l),gw b s k o,gw b t k l];have e:∀n:aN,n.k=b.k->cq n t=n:=λn h=>by unfold cq;rw[h,if_neg u]
 rw[e _ d,e b rfl];have e:∀n:aN,n.k=b.k->cq n s=n:=λn h=>by unfold cq;rw[h,if_neg r]
 rw[e _ f,e b rfl]
end
namespace Rel
section
variable{P:aO} {S:gM}
abbrev xX(S:gM)(c:Ren):Nat×ak->Nat×ak->Prop:=λa b=>a.1=b.1/\bh S c a.2 b.2
def Ik{n:Ren}:∀(l f:List (ak×Nat))(d:Nat)(c e:Array ak),cz S n c e->dh (λa b=>bh S n a.1 b.1/\a.2=b.2) l f->cz S n (l.foldl (λg(c,j)=>g.setIfInBounds (d+j) c) c) (f.foldl (λg(c,j)=>g.setIfInBounds (d+j) c) e):=by
 intro l
 induction l with
 |nil=>intro f d c e h k;cases k;exact h|cons a l r=>
  intro f d c e h k;cases k with|cons i q=>obtain⟨v,j⟩:=a;rename_i b m;obtain⟨t,s⟩:=b;obtain⟨o,p⟩:=i;simp only at o p;subst p;exact r m d _ _ (fO.set h o) q
def MF{e:Ren}:∀{l c:List ak}(n:Nat),dh (bh S e) l c->dh (λ(a b:ak×Nat)=>bh S e a.1 b.1/\a.2=b.2) (l.zipIdx n) (c.zipIdx n):=by
 intro l
 induction l with
 |nil=>intro c n h;cases h;exact .nil|cons a l g=>
  intro c n h;cases h with|cons d f=>exact .cons ⟨d,rfl⟩ (g (n+1) f)
def CR{d:Ren}{v f:Array ak}(h:cz S d v f)(a:Nat){c e:Array ak}(g:cz S d c e):cz S d (v.zipIdx.foldl (λb(x,j)=>b.setIfInBounds (a+j) x) c) (f.zipIdx.foldl (λb(x,j)=>b.setIfInBounds (a+j) x) e):=by rw[<-Array.foldl_toList,<-Array.foldl_toList,Array.toList_zipIdx,Array.toList_zipIdx];exact Ik _ _ a _ _ g (MF 0 (dh.lx h))
def zU{π:Ren}(a:Nat->Option (Nat×Nat)):∀(e b:List (Nat×ak))(c f:Array ak),cz S π c f->dh (xX S π) e b->gq (cz S π) (fN a c e) (fN a f b):=by
 intro e
 induction e with
 |nil=>intro b c f h j;cases j;exact .some h|cons p e r=>
  intro b c f h j;cases j with
  |cons g o=>
   obtain⟨i,v⟩:=p;rename_i q m;obtain⟨t,u⟩:=q;obtain⟨l,n⟩:=g;simp only at l n;subst l;unfold fN;cases a i with|none=>exact .none|some s=>obtain⟨k,size⟩:=s;simp only;have d:=n.cells;rw[<-d.size,<-h.size];split;exact .none;exact r m _ _ (CR d k h) o
def Jk{j n:Type}{f:j->Sem n}(k:∀a d,Ren.Ok P d->aB P S lq (f a) d (f a)):∀(l:List j)(d:Ren),Ren.Ok P d->aB P S lq (l.mapM f) d (l.mapM f):=by
 intro l
 induction l with|nil=>intro d e;rw[List.mapM_nil];exact aA rfl|cons a l m=>intro d e;rw[List.mapM_cons];exact aB.bind e (k a d e) λg b p i h=>by subst h;exact aB.bind i.ok (m g i.ok) λo c q r h=>by subst h;exact aA rfl
def ZB{e i:Type}{f:e->Sem i}(g:∀a c,Ren.Ok P c->aB P S lq (f a) c (f a))(x:Array e){c:Ren}(d:Ren.Ok P c):aB P S lq (x.mapM f) c (x.mapM f):=by rw[Array.mapM_eq_mapM_toList];exact aB.bind d (Jk g _ c d) λj b k l h=>by subst h;exact aA rfl
def Wl{π:Ren}(F:qC P S)(s:Ren.Ok P π)(t:az){m j:Array (Nat×ak)}(h:dh (xX S π) m.toList j.toList):aB P S (VQ S) (Instr.build t m) π (Instr.build t j):=by
 unfold Instr.build;refine aB.bind s (kQ F s t) λH z K u C=> ?_
 obtain⟨rfl,B⟩:=C;refine aB.bind u.ok (bH u.ok t) λA d I q D=> ?_
 obtain⟨rfl,_⟩:=D;have mono:∀{π o:Ren},Ext P π o->∀{l w:List (Nat×ak)},dh (xX S π) l w->dh (xX S o) l w:=by
  intro π o e l w E
  induction E with|nil=>exact .nil|cons x _ y=>exact .cons ⟨x.1,x.2.mono e⟩ y
 have v:∀(g:Ren),Ext P A g->∀c:Nat->Option (Nat×Nat),aB P S (VQ S)
  (match fN c z.cells m.toList with|some cells=>pure (.agg cells)|_=>stuck "build: no such field, or a part of the wrong size") g
  (match fN c z.cells j.toList with|some cells=>pure (.agg cells)|_=>stuck "build: no such field, or a part of the wrong size"):=by
  intro g r c;have:=zU (S:=S) (π:=g) c m.toList j.toList z.cells z.cells (B g).cells (mono (u.trans (q.trans r)) h);revert this;generalize fN c z.cells m.toList=a;generalize fN c z.cells j.toList=b;intro this;cases this with|none=>exact rfl|some x=>exact aA (.agg x.size x.at_)
 cases d with
 |struct k=>
  simp only;refine aB.bind q.ok (ZB (λf π s=>aB.bind s (fI s _) λ_ a b _ h=>by subst h;exact aA rfl) k q.ok) λg p G r hp=> ?_
  subst hp;exact v g r _
 |array n J=>
  simp only;refine aB.bind q.ok (fI q.ok _) λg p G r hp=> ?_
  subst hp;have:=zU (S:=S) (π:=g) (λi=>ae (i*p,p)) m.toList j.toList z.cells z.cells (B g).cells (mono (u.trans (q.trans r)) h);revert this;generalize fN _ z.cells m.toList=a;generalize fN _ z.cells j.toList=b;intro this;cases this with|none=>exact rfl|some x=>exact aA (.agg x.size x.at_)
 |_=>exact rfl
end
section
variable{P:aO} {S:gM}
def GC(a:Ren):bh S a default default:=by show bh S a (.bool default) (.bool default);exact .bool _
def WM{a:Ren}{z:Array ak}(h:cz S a z z)(i:Nat):bh S a z[i]! z[i]! :=by
 rw[getElem!_def];cases b:z[i]? with|none=>exact GC a|some v=>exact h.at_ i v v b b
def vk{e:Ren}{z:Array ak}(h:cz S e z z)(n:Nat):cz S e ((pH n).map (z[· % z.size]!)) ((pH n).map (z[· % z.size]!)):=by refine⟨rfl,λi a b c d=> ?_⟩;rw[c]at d;obtain rfl:=aX d;rw[gj]at c;obtain⟨j,_,rfl⟩:=aF.1 c;exact WM h _
def Et{a:Ren}(n:Nat):aB P S lq (askRoom n) a (askRoom n):=by unfold askRoom;split;exact⟨.inl rfl,_,rfl,(),rfl,rfl⟩;exact aA rfl
def FZ{π:Ren}(D:qC P S)(s:Ren.Ok P π)(t:az)(len:Nat){j f:Array (Nat×ak)}(h:dh (xX S π) j.toList f.toList):aB P S (VQ S) (fK t len j) π (fK t len f):=by
 have mono:∀{π g:Ren},Ext P π g->∀{l r:List (Nat×ak)},dh (xX S π) l r->dh (xX S g) l r:=by
  intro π g e l r A
  induction A with|nil=>exact .nil|cons x _ y=>exact .cons ⟨x.1,x.2.mono e⟩ y
 unfold fK;refine aB.bind s (bH s t) λE d G o v=> ?_
 obtain⟨rfl,_⟩:=v;cases d with
 |slice q=>
  simp only;refine aB.bind o.ok (fI o.ok _) λk n I m B=> ?_
  subst B;split;exact rfl;have tail:∀c z,Ext P k c->cz S c z z->aB P S (VQ S)
   (match fN (λi=>ae (i*n,n)) ((pH (len*n)).map (z[· % z.size]!)) j.toList with|some cells=>do pure (.slice (ae (<-newRow q cells)) len len)|_=>stuck "buildSlice: a part of the wrong size") c
   (match fN (λi=>ae (i*n,n)) ((pH (len*n)).map (z[· % z.size]!)) f.toList with|some cells=>do pure (.slice (ae (<-newRow q cells)) len len)|_=>stuck "buildSlice: a part of the wrong size"):=by
   intro c z p C;have:=zU (S:=S) (π:=c) (λi=>ae (i*n,n)) j.toList f.toList _ _ (vk C (len*n)) (mono (o.trans (m.trans p)) h);revert this;generalize fN _ _ j.toList=a;generalize fN _ _ f.toList=b;intro this;cases this with|none=>exact rfl|some x=>exact aB.bind p.ok (wI _ p.ok x) λF a b H u=>aA (.slice _ _ u)
  split;exact tail k #[] (Ext.refl m.ok) ⟨rfl,by simp⟩;exact aB.bind m.ok (kQ D m.ok q) λc a b e h=>by obtain⟨rfl,w⟩:=h;exact tail c _ e (w c).cells
 |_=>exact rfl
end
section
variable{P:aO} {S:gM}
def Jj{r:Ren}(L:qC P S)(D:Ren.Ok P r)(t:az){l C c w:ak}(J:bh S r l C)(G:bh S r c w):aB P S (VQ S) (kB t l c) r (kB t C w):=by
 unfold kB;refine aB.bind D (bH D t) λM d R p H=> ?_
 obtain⟨rfl,_⟩:=H;cases d with
 |slice f=>
  simp only;refine aB.bind p.ok (wF p.ok (J.mono p)) λN a g u h=> ?_
  subst h;refine aB.bind u.ok (wF u.ok ((G.mono p).mono u)) λO b Q A h=> ?_
  subst h;refine aB.bind A.ok (fi A.ok f) λo i T q h=> ?_
  obtain⟨rfl,_⟩:=h;have tail:∀e n z,Ext P o e->cz S e z z->aB P S (VQ S)
   (do let g<-newRow f ((pH n).map (z[· % z.size]!));pure (di (ae g) (IntKind.i64.wrap a).toNat (IntKind.i64.wrap b).toNat)) e
   (do let g<-newRow f ((pH n).map (z[· % z.size]!));pure (di (ae g) (IntKind.i64.wrap a).toNat (IntKind.i64.wrap b).toNat)):=by
   intro e n z k K;exact aB.bind k.ok (wI _ k.ok (vk K n)) λm a b B F=>aA (.slice _ _ F)
  have E:aB P S (VQ S) (do
   askRoom ((IntKind.i64.wrap b).toNat*i.bytes)
   let n:=(IntKind.i64.wrap b).toNat*(<-sizeOf f)
   let zero<-if n=0 then pure #[]else do pure (<-zeroValue f).cells
   let g<-newRow f ((pH n).map (zero[· % zero.size]!))
   pure (di (ae g) (IntKind.i64.wrap a).toNat (IntKind.i64.wrap b).toNat)) o (do
   askRoom ((IntKind.i64.wrap b).toNat*i.bytes)
   let n:=(IntKind.i64.wrap b).toNat*(<-sizeOf f)
   let zero<-if n=0 then pure #[]else do pure (<-zeroValue f).cells
   let g<-newRow f ((pH n).map (zero[· % zero.size]!))
   pure (di (ae g) (IntKind.i64.wrap a).toNat (IntKind.i64.wrap b).toNat)):=by
   refine aB.bind q.ok (Et _) λv _ _ j _=> ?_
   refine aB.bind j.ok (fI j.ok _) λe s U k h=> ?_
   subst h;simp only;split;exact tail e _ #[] (j.trans k) ⟨rfl,by simp⟩;exact aB.bind k.ok (kQ L k.ok f) λm x y B h=>by obtain⟨rfl,I⟩:=h;exact tail m _ _ (j.trans (k.trans B)) (I m).cells
  split;split;exact jk q.ok _;split;exact jk q.ok _;refine aB.bind q.ok (nK _) λv x y j h=> ?_
  subst h;first|exact jk j.ok _|(split<;>exact jk j.ok _)
  exact E
 |_=>exact rfl
end
section
variable{P:aO} {S:gM}
def fO.opt{e f:Type}{R:e->f->Prop}{x:Array e}{y:Array f}(h:fO R x y)(i:Nat):gq R x[i]? y[i]?:=by
 cases d:x[i]? with
 |none=>
  have:y[i]? =ah:=by rw[Array.getElem?_eq_none_iff]at d|-;rw[<-h.size];exact d
  rw[this];exact .none
 |some a=>obtain⟨b,g,c⟩:=h.get d;rw[g];exact .some c
def abn{j:Ren}(p:Ren.Ok P j)(i:Array az)(t:az){x y:Array ak}(h:cz S j x y):aB P S (VQ S) (Builtin.len_ i t x) j (Builtin.len_ i t y):=by
 unfold Builtin.len_;have f:=h.opt 0;revert f;generalize x[0]? =a;generalize y[0]? =b;intro f;cases i[0]? with
 |none=>cases f<;>exact rfl|some A=>
  cases f with
  |none=>exact rfl|some z=>
   simp only;refine aB.bind p (bH p A) λB d q e g=> ?_
   obtain⟨rfl,_⟩:=g;have c:=z.mono e;cases d with
   |array n m=>cases c<;>exact aA (.int _ _)|string=>cases c<;>first|exact aA (.int _ _)|exact rfl
   |slice m=>cases c<;>first|exact aA (.int _ _)|exact rfl
   |chan C m=>cases c<;>first|exact aA (.int _ _)|exact rfl
   |map k v=>
    cases c with
    |r8=>exact aA (.int _ _)|map w=>
     refine aB.bind e.ok (iR w) λl o D r u=> ?_
     cases u with|map k s=>simp only;rw[s.size];exact aA (.int _ _)|_=>exact rfl
    |_=>exact rfl
   |pointer arr=>
    cases c<;>
     (refine aB.bind e.ok (bH e.ok arr) λl d q r g=> ?_
      obtain⟨rfl,_⟩:=g;cases d<;>first|exact aA (.int _ _)|exact rfl)
   |_=>cases c<;>exact rfl
end
section
variable{P:aO} {S:gM}
def LN{a:Ren}{f b:Fn}{x e y g:Array ak}(h:GN S a f b)(c:cz S a x e)(d:cz S a y g):aB P S (VQ S) (Instr.makeFunc f x y) a (Instr.makeFunc b e g):=aA (.func h c.size c.at_ d.size d.at_)
def abm{j:Ren}(l:Ren.Ok P j)(i:Array az)(t:az){x y:Array ak}(h:cz S j x y):aB P S (VQ S) (Builtin.cap_ i t x) j (Builtin.cap_ i t y):=by
 unfold Builtin.cap_;have e:=h.opt 0;revert e;generalize x[0]? =a;generalize y[0]? =b;intro e;cases i[0]? with
 |none=>cases e<;>exact rfl|some p=>
  cases e with
  |none=>exact rfl|some o=>
   simp only;refine aB.bind l (bH l p) λq d m f g=> ?_
   obtain⟨rfl,_⟩:=g;have c:=o.mono f;cases d with
   |array n k=>cases c<;>exact aA (.int _ _)|slice k=>cases c<;>first|exact aA (.int _ _)|exact rfl
   |chan s k=>cases c<;>first|exact aA (.int _ _)|exact rfl
   |pointer arr=>
    cases c<;>
     (refine aB.bind f.ok (bH f.ok arr) λr d m u g=> ?_
      obtain⟨rfl,_⟩:=g;cases d<;>first|exact aA (.int _ _)|exact rfl)
   |_=>cases c<;>exact rfl
def AP{a:Ren}(op:BinOp)(k:IntKind)(x y:Int):aB P S (VQ S) (Op.intArith op k x y) a (Op.intArith op k x y):=by cases op<;>first|exact aA (.int _ _)|exact rfl
def Ty{a:Ren}(b:Ren.Ok P a)(op:BinOp)(k:IntKind)(x y:Int):aB P S (VQ S) (Op.intDiv op k x y) a (Op.intDiv op k x y):=by unfold Op.intDiv;split;exact jk b _;cases op<;>first|exact aA (.int _ _)|exact rfl
def Ex{a:Ren}(op:BinOp)(k:IntKind)(x y:Int):aB P S (VQ S) (Op.intBits op k x y) a (Op.intBits op k x y):=by cases op<;>first|exact aA (.int _ _)|exact rfl
def Ws{b:Ren}(c:Ren.Ok P b)(op:BinOp)(k:IntKind)(x:Int)(a:IntKind)(y:Int):aB P S (VQ S) (Op.shift op k x a y) b (Op.shift op k x a y):=by unfold Op.shift;split;exact jk c _;cases op<;>first|exact aA (.int _ _)|exact rfl
def Tx{a:Ren}(op:BinOp)(x y:Int):aB P S (VQ S) (Op.intCmp op x y) a (Op.intCmp op x y):=by cases op<;>first|exact aA (.bool _)|exact rfl
def vj{a:Ren}(op:BinOp)(x y:ByteArray):aB P S (VQ S) (Op.stringOp op x y) a (Op.stringOp op x y):=by unfold Op.stringOp;cases op<;>first|exact aA (.bool _)|exact rfl|(simp only;split<;>first|exact rfl|exact aA (.string _))
def Wv{b:Ren}(op:UnOp){x a:ak}(h:bh S b x a):aB P S (VQ S) (Op.unary op x) b (Op.unary op a):=by cases op<;>cases h<;>first|exact rfl|exact AP _ _ _ _|exact Ex _ _ _ _|exact aA (.int _ _)|exact aA (.bool _)
def ZD{f:Ren}(m:Ren.Ok P f){x i y j:ak}(l:bh S f x i)(g:bh S f y j):aB P S (VQ S) (Builtin.min2 x y) f (Builtin.min2 i j):=by
 cases l with
 |int=>cases g<;>first|exact rfl|exact aA (.int _ _)
 |string=>
  cases g with
  |string=>
   refine aB.bind m (vj _ _ _) λn a b e h=> ?_
   refine aB.bind e.ok (AJ h) λo c d p k=> ?_
   subst k;cases c<;>exact aA (.string _)
  |_=>exact rfl
 |_=>cases g<;>exact rfl
def ZC{f:Ren}(m:Ren.Ok P f){x i y j:ak}(l:bh S f x i)(g:bh S f y j):aB P S (VQ S) (Builtin.max2 x y) f (Builtin.max2 i j):=by
 cases l with
 |int=>cases g<;>first|exact rfl|exact aA (.int _ _)
 |string=>
  cases g with
  |string=>
   refine aB.bind m (vj _ _ _) λn a b e h=> ?_
   refine aB.bind e.ok (AJ h) λo c d p k=> ?_
   subst k;cases c<;>exact aA (.string _)
  |_=>exact rfl
 |_=>cases g<;>exact rfl
def Jg{f:ak->ak->Sem ak}(r:∀(c:Ren) x d y o,Ren.Ok P c->bh S c x d->bh S c y o->aB P S (VQ S) (f x y) c (f d o)):∀{l j:List ak}{c:Ren}{x d:ak},Ren.Ok P c->dh (bh S c) l j->bh S c x d->aB P S (VQ S) (l.foldlM f x) c (j.foldlM f d):=by
 intro l
 induction l with
 |nil=>intro j c x d m g k;cases g;exact aA k|cons a l n=>
  intro j c x d m g k;cases g with
  |cons p g=>
   refine aB.bind m (r c _ _ _ _ m k p) λs b t e q=>n e.ok ?_ q
   clear n
   induction g with|nil=>exact .nil|cons h _ i=>exact .cons (h.mono e) i
def abp{a:Ren}(c:Ren.Ok P a)(d:Array az)(t:az){x y:Array ak}(h:cz S a x y):aB P S (VQ S) (Builtin.min_ d t x) a (Builtin.min_ d t y):=by
 unfold Builtin.min_;have b:=dh.lx h;generalize x.toList=l at b;generalize y.toList=j at b;cases b with|nil=>exact rfl|cons e f=>exact Jg (λa x k y m c g i=>ZD c g i) c f e
def abo{a:Ren}(c:Ren.Ok P a)(d:Array az)(t:az){x y:Array ak}(h:cz S a x y):aB P S (VQ S) (Builtin.max_ d t x) a (Builtin.max_ d t y):=by
 unfold Builtin.max_;have b:=dh.lx h;generalize x.toList=l at b;generalize y.toList=j at b;cases b with|nil=>exact rfl|cons e f=>exact Jg (λa x k y m c g i=>ZC c g i) c f e
end
section
variable{P:aO} {S:gM}
def NB{b:Ren}{x a:ak}(h:bh S b x a):aB P S lq (Builtin.lenOf x) b (Builtin.lenOf a):=by cases h<;>first|exact aA rfl|exact rfl
def cz.append{f:Ren}{x g y j:Array ak}(h:cz S f x g)(k:cz S f y j):cz S f (x++y) (g++j):=by refine⟨by simp[h.size,k.size],λi a b d c=> ?_⟩;rw[Array.getElem?_append]at d c;rw[<-h.size]at c;split at d;rename_i e;rw[if_pos e]at c;exact h.at_ i a b d c;rename_i e;rw[if_neg e]at c;exact k.at_ _ a b d c
def Pa{f:Ren}(l:Array UInt8):cz S f (l.map λb=>aS .u8 b.toNat) (l.map λb=>aS .u8 b.toNat):=by refine⟨rfl,λi a b d e=> ?_⟩;rw[d]at e;obtain rfl:=aX e;rw[gj]at d;obtain⟨c,_,rfl⟩:=aF.1 d;exact .int _ _
def sg{a:Ren}(e:Ren.Ok P a)(size n:Nat){x b:ak}(h:bh S a x b):aB P S (Yi S) (h9 size n x) a (h9 size n b):=by
 cases h with|fl=>exact aA ⟨rfl,by simp⟩|slice l c d=>exact yw e d _|string s=>exact aA (Pa _)|_=>exact rfl
def wG{b:Ren}(f:Ren.Ok P b){a c:Addr}(h:dt b a c)(n:Nat):aB P S lq (Builtin.holdsCells a n) b (Builtin.holdsCells c n):=by
 unfold Builtin.holdsCells;refine aB.bind f (ny h.block) λg x y e d=> ?_
 subst d;cases x with|none=>exact aA rfl|some x=>simp only[h.spot,h.off];exact aA rfl
def LP{h:Ren}(i:Ren.Ok P h)(size g n:Nat){b b':Option Addr}(C:gq (dt h) b b'){x u:ak}(E:bh S h x u):aB P S lq (Builtin.mayShare size g n b x) h (Builtin.mayShare size g n b' u):=by
 unfold Builtin.mayShare;have tail:∀(f:Ren)(t:Bool),Ext P h f->aB P S lq (do
  if !t then return ar
  match x with
   |.slice (ae c) _ _=>do pure (!(<-Builtin.holdsCells c (n*size))||b.any (·.block==c.block))
   |_=>pure au) f (do
    if !t then return ar
    match u with
   |.slice (ae c) _ _=>do pure (!(<-Builtin.holdsCells c (n*size))||b'.any (·.block==c.block))
   |_=>pure au):=by
  intro f t r;cases t with
  |false=>exact aA rfl|true=>
   cases E with
   |slice l c B=>
    refine aB.bind r.ok (wG r.ok (B.mono r) _) λv x y e a=> ?_
    subst a;cases C with
    |none=>exact aA rfl|some d=>
     rename_i m o p q;refine aA ?_;have:(p.block==m.block)=(q.block==o.block):=by
      have j:=d.block;have A:=B.block;by_cases k:p.block=m.block;rw[k]at j;have:=i.fn _ _ _ j A;simp[k,this];have:q.block≠o.block:=λs=>by rw[s]at j;exact k (i.inj _ _ _ j A)
      rw[beq_eq_false_iff_ne.2 k,beq_eq_false_iff_ne.2 this]
     show(!x||(p.block==m.block))=(!x||(q.block==o.block));rw[this]
   |_=>exact aA rfl
 cases C with
 |none=>exact tail h ar (Ext.refl i)|some d=>
  refine aB.bind i (wG i d _) λf x y e a=> ?_
  subst a;refine aB.bind e.ok (tz ((d.mono e).add _)) λv x y z a=> ?_
  subst a;exact aB.bind (Q:=lq) z.ok (aA rfl) λw x y D a=>by subst a;exact tail w x (e.trans (z.trans D))
def oo(b:az)(h:Option Addr)(g f size:Nat)(s x:ak)(jX:Bool)(n:Nat):Sem ak:=do
 let d:Sem (Array ak):=
  if !jX then h9 size n x
  else if n*size=0 then pure #[]
  else do pure (jS (<-zeroValue b).cells n)
 let c:=g+n
 if c<=f then
  let new<-d
  if let ae a:=h then storeCells (a.add (g*size)) new.toList
  pure (.slice h c f)
 else
  if(c:Int)>IntKind.i64.max/\(jX\/(<-typeInfo b).bytes=0)then runtimePanic (.error "growslice: len out of range")
  if Builtin.nextslicecap c f*(<-typeInfo b).bytes>2^48 then(if jX then runtimePanic (.error "growslice: len out of range")else do
   if !(<-Builtin.mayShare size g n h x)then mark .noRoom
   unsupported (.resourceLimit "append: a slice or a string whose bytes no memory bears"))
  let e<-choose (.appendCap c f b)
  askRoom (e*(<-typeInfo b).bytes)
  let old<-h9 size g s
  let new<-d
  let i:=jS (<-zeroValue b).cells (e-c)
  pure (.slice (ae (<-newRow b (old++new++i))) c e)
def tQ{a:Ren}{z:Array ak}(h:cz S a z z)(n:Nat):cz S a (jS z n) (jS z n):=vk h _
def cz.mono{b a:Ren}(e:Ext P b a){x y:Array ak}(h:cz S b x y):cz S a x y:=fO.mono h λ_ _ k=>k.mono e
def AI{f:Ren}(l:qC P S)(d:Ren.Ok P f)(c:az)(size:Nat){x i:ak}(jX:Bool)(n:Nat)(k:bh S f x i):aB P S (Yi S) (if !jX then h9 size n x else if n*size=0 then pure #[]else do pure (jS (<-zeroValue c).cells n)) f (if !jX then h9 size n i else if n*size=0 then pure #[]else do pure (jS (<-zeroValue c).cells n)):=by split;exact sg d _ _ k;split;exact aA ⟨rfl,by simp⟩;exact aB.bind d (kQ l d c) λg a b e h=>by obtain⟨rfl,j⟩:=h;exact aA (tQ (j g).cells _)
def PN{m:Ren}(w:qC P S)(I:Ren.Ok P m)(d:az)(k j size:Nat){s y x A:ak}(jX:Bool)(n f:Nat)(F:bh S m s y)(H:bh S m x A):aB P S (VQ S) (do
 let b<-choose (.appendCap f j d)
 askRoom (b*(<-typeInfo d).bytes)
 let old<-h9 size k s
 let new<-(if !jX then h9 size n x else if n*size=0 then pure #[]else do pure (jS (<-zeroValue d).cells n))
 let g:=jS (<-zeroValue d).cells (b-f)
 pure (.slice (ae (<-newRow d (old++new++g))) f b)) m (do
 let b<-choose (.appendCap f j d)
 askRoom (b*(<-typeInfo d).bytes)
 let old<-h9 size k y
 let new<-(if !jX then h9 size n A else if n*size=0 then pure #[]else do pure (jS (<-zeroValue d).cells n))
 let g:=jS (<-zeroValue d).cells (b-f)
 pure (.slice (ae (<-newRow d (old++new++g))) f b)):=by
 refine aB.bind I (nK _) λJ c R p h=> ?_
 subst h;refine aB.bind p.ok (fi p.ok _) λK i U u h=> ?_
 obtain⟨rfl,_⟩:=h;refine aB.bind u.ok (Et _) λL _ _ B _=> ?_
 have e:=p.trans (u.trans B);refine aB.bind e.ok (sg e.ok _ _ (F.mono e)) λM o V q E=> ?_
 refine aB.bind q.ok (AI w q.ok d size jX n ((H.mono e).mono q)) λN v W r G=> ?_
 refine aB.bind r.ok (kQ w r.ok d) λt z X l h=> ?_
 obtain⟨rfl,D⟩:=h;refine aB.bind l.ok (wI _ l.ok (((((E.mono r).mono l)).append (G.mono l)).append (tQ (D t).cells _))) λO a Q T C=>aA (.slice _ _ C)
def Es{j:Ren}(t:qC P S)(l:Ren.Ok P j)(d:az){b b':Option Addr}(a f size:Nat){s u x w:ak}(jX:Bool)(n:Nat)(r:gq (dt j) b b')(y:bh S j s u)(o:bh S j x w):aB P S (VQ S) (oo d b a f size s x jX n) j (oo d b' a f size u w jX n):=by
 unfold oo;simp only;split;refine aB.bind l (AI t l d size jX n o) λp v E g z=> ?_
 cases r with|none=>exact aA (.fl _ _)|some k=>exact aB.bind g.ok (sj g.ok ((k.mono g).add _) 0 (dh.lx z)) λq _ _ m _=>aA (.slice _ _ ((k.mono g).mono m))
 refine aB.bind l (fi l _) λp i A g h=> ?_
 obtain⟨rfl,_⟩:=h;split;exact jk g.ok _;refine aB.bind g.ok (fi g.ok _) λq i A m h=> ?_
 obtain⟨rfl,_⟩:=h;have e:=g.trans m;split;refine aB.bind (Q:=λ_ _ _=>False) e.ok ?_ λ_ _ _ _ h=>h.elim
 cases jX with
 |true=>exact jk e.ok _|false=>
  simp only[cK,if_false];refine aB.bind e.ok (LP (b:=b) (b':=b') e.ok size a n ?_ (o.mono e)) λB c C D h=> ?_
  cases r with|none=>exact .none|some k=>exact .some (k.mono e)
  subst h;cases c with|true=>exact rfl|false=>exact⟨.inl rfl,_,rfl,rfl⟩
 exact PN t e.ok d a f size jX n (a+n) (y.mono e) (o.mono e)
end
section
variable{P:aO} {S:gM}
def zD(a:az)(g:Option az)(c:Option Addr)(f e:Nat)(s x:ak):Sem ak:=do
 let size<-sizeOf a
 let jX<-match g with
  |some b=>do pure ((<-underlying b) matches .int _)
  |none=>pure au
 let n<-if jX then do
  let l:=IntKind.i64.wrap (<-asInt x)
  if l<0 then runtimePanic (.error "makeslice: len out of range")
  if l*(<-typeInfo a).bytes>2^48 then
   let d<-choose (.extern "append.ofMake.carriedOut" 2)
   runtimePanic (.error (if d==1 then "makeslice: len out of range" else "growslice: len out of range"))
  pure l.toNat
  else Builtin.lenOf x
 oo a c f e size s x jX n
def gq.addr{d a:Ren}(e:Ext P d a){c b:Option Addr}(h:gq (dt d) c b):gq (dt a) c b:=gq.mono (λ_ _ k=>k.mono e) h
def Jd{y:Ren}(J:qC P S)(K:Ren.Ok P y)(g:az)(F:Option az){c A:Option Addr}(l t:Nat){s E x w:ak}(H:gq (dt y) c A)(I:bh S y s E)(D:bh S y x w):aB P S (VQ S) (zD g F c l t s x) y (zD g F A l t E w):=by
 unfold zD;refine aB.bind K (fI K g) λG n W q h=> ?_
 subst h;have L:∀(o:Ren)(z:Bool),Ext P y o->aB P S (VQ S) (if z then do
  let v:=IntKind.i64.wrap (<-asInt x)
  let C:=λ(_:Unit)=>do
   let i<-typeInfo g
   let j:=λ(_:Unit)=>do
    let k<-pure v.toNat
    oo g c l t n s x z k
   if v*i.bytes>2^48 then do
    let m<-choose (.extern "append.ofMake.carriedOut" 2)
    let r<-runtimePanic (.error (if m==1 then "makeslice: len out of range" else "growslice: len out of range"))
    j r
   else j ()
  if v<0 then do
   let r<-runtimePanic (.error "makeslice: len out of range")
   C r
  else C ()
  else do
   let k<-Builtin.lenOf x
   oo g c l t n s x z k) o (if z then do
   let v:=IntKind.i64.wrap (<-asInt w)
   let C:=λ(_:Unit)=>do
    let i<-typeInfo g
    let j:=λ(_:Unit)=>do
     let k<-pure v.toNat
     oo g A l t n E w z k
    if v*i.bytes>2^48 then do
     let m<-choose (.extern "append.ofMake.carriedOut" 2)
     let r<-runtimePanic (.error (if m==1 then "makeslice: len out of range" else "growslice: len out of range"))
     j r
    else j ()
   if v<0 then do
    let r<-runtimePanic (.error "makeslice: len out of range")
    C r
   else C ()else do
   let k<-Builtin.lenOf w
   oo g A l t n E w z k):=by
  intro o z f;cases z with
  |false=>
   refine aB.bind f.ok (NB (D.mono f)) λp k N u h=> ?_
   subst h;have e:=f.trans u;exact Es J e.ok g l t n au k (gq.addr e H) (I.mono e) (D.mono e)
  |true=>
   refine aB.bind f.ok (wF f.ok (D.mono f)) λR a T B h=> ?_
   subst h;simp only;split;exact aB.bind (Q:=λ_ _ _=>False) B.ok (jk B.ok _) λ_ _ _ _ h=>h.elim
   refine aB.bind B.ok (fi B.ok _) λG i V q h=> ?_
   obtain⟨rfl,_⟩:=h;split;refine aB.bind q.ok (nK _) λo c A f h=> ?_
   subst h;exact aB.bind (Q:=λ_ _ _=>False) f.ok (jk f.ok _) λ_ _ _ _ h=>h.elim
   refine aB.bind (Q:=lq) q.ok (aA rfl) λp k N u h=> ?_
   subst h;have e:=f.trans (B.trans (q.trans u));exact Es J e.ok g l t n ar _ (gq.addr e H) (I.mono e) (D.mono e)
 cases F with
 |none=>exact aB.bind (Q:=lq) q.ok (aA rfl) λp a b u h=>by subst h;exact L p a (q.trans u)|some O=>
  refine aB.bind q.ok (bH q.ok O) λo d U f M=> ?_
  obtain⟨rfl,_⟩:=M;exact aB.bind (Q:=lq) f.ok (aA rfl) λp a b u h=>by subst h;exact L p a (q.trans (f.trans u))
def append_eq(a:Array az)(t:az)(x:Array ak):Builtin.append_ a t x=(match a[0]?,x[0]?,x[1]? with
 |some b,ae s,ae v=>do
  let .slice el<-underlying b|stuck "append: slice type expected"
  let .slice base l cp:=s|stuck "append: slice expected"
  zD el a[1]? base l cp s v
 |_,_,_=>stuck "append: two arguments expected"):=by
 unfold Builtin.append_ zD oo;cases a[0]?<;>cases x[0]?<;>cases x[1]?<;>rfl
def Tt{k:Ren}(q:qC P S)(r:Ren.Ok P k)(g:Array az)(t:az){x y:Array ak}(h:cz S k x y):aB P S (VQ S) (Builtin.append_ g t x) k (Builtin.append_ g t y):=by
 rw[append_eq,append_eq];have e:=h.opt 0;have f:=h.opt 1;revert e f;generalize x[0]? =a;generalize y[0]? =z;generalize x[1]? =b;generalize y[1]? =A;generalize g[1]? =s;intro e f;cases g[0]? with
 |none=>cases e<;>cases f<;>exact rfl|some v=>
  cases e with
  |none=>exact rfl|some o=>
   cases f with
   |none=>exact rfl|some p=>
    refine aB.bind r (bH r v) λw d B c u=> ?_
    obtain⟨rfl,_⟩:=u;cases d with
    |slice m=>
     have j:=o.mono c;cases j with|fl l i=>exact Jd q c.ok m s l i .none (.fl _ _) (p.mono c)|slice l i n=>exact Jd q c.ok m s l i (.some n) (.slice _ _ n) (p.mono c)|_=>exact rfl
    |_=>cases o<;>exact rfl
def vM(d:az)(b:Option Addr)(c:Nat)(e:ak):Sem ak:=do
 let n:=Nat.min (<-Builtin.lenOf e) c
 let cells<-h9 (<-sizeOf d) n e
 if let ae a:=b then storeCells a cells.toList
 pure (goInt n)
def Ev{d:Ren}(r:Ren.Ok P d)(f:az){c i:Option Addr}(l:Nat){x m:ak}(p:gq (dt d) c i)(j:bh S d x m):aB P S (VQ S) (vM f c l x) d (vM f i l m):=by
 unfold vM;refine aB.bind r (NB j) λs n A a h=> ?_
 subst h;refine aB.bind a.ok (fI a.ok f) λt k z b h=> ?_
 subst h;refine aB.bind b.ok (sg b.ok _ _ ((j.mono a).mono b)) λu v B e q=> ?_
 have g:=gq.addr (a.trans (b.trans e)) p;cases g with|none=>exact aA (.int _ _)|some o=>exact aB.bind e.ok (sj e.ok o 0 (dh.lx q)) λw _ _ y _=>aA (.int _ _)
def copy_eq(a:Array az)(t:az)(x:Array ak):Builtin.copy_ a t x=(match a[0]?,x[0]?,x[1]? with
 |some b,ae s,ae v=>do
  let .slice el<-underlying b|stuck "copy: slice type expected"
  let .slice base l _:=s|stuck "copy: slice expected"
  vM el base l v
 |_,_,_=>stuck "copy: two arguments expected"):=by
 unfold Builtin.copy_ vM;cases a[0]?<;>cases x[0]?<;>cases x[1]?<;>rfl
def ZA{j:Ren}(o:Ren.Ok P j)(i:Array az)(t:az){x y:Array ak}(h:cz S j x y):aB P S (VQ S) (Builtin.copy_ i t x) j (Builtin.copy_ i t y):=by
 rw[copy_eq,copy_eq];have e:=h.opt 0;have f:=h.opt 1;revert e f;generalize x[0]? =a;generalize y[0]? =v;generalize x[1]? =b;generalize y[1]? =w;intro e f;cases i[0]? with
 |none=>cases e<;>cases f<;>exact rfl|some s=>
  cases e with
  |none=>exact rfl|some m=>
   cases f with
   |none=>exact rfl|some n=>
    refine aB.bind o (bH o s) λu d z c r=> ?_
    obtain⟨rfl,_⟩:=r;cases d with
    |slice k=>
     have g:=m.mono c;cases g with|fl l p=>exact Ev c.ok k l .none (n.mono c)|slice l p q=>exact Ev c.ok k l (.some q) (n.mono c)|_=>exact rfl
    |_=>cases m<;>exact rfl
end
section
variable{P:aO} {S:gM}
def Nz{k g:Type}{f i:k->g->Sem (ForInStep g)}{d:Ren}(j:Ren.Ok P d)(h:∀c,Ext P d c->∀x s,aB P S lq (f x s) c (i x s)):∀(l:List k)(s:g),aB P S lq (forIn l s f) d (forIn l s i):=by
 intro l
 induction l generalizing d with
 |nil=>intro s;exact aA rfl|cons a l o=>
  intro s;rw[List.forIn_cons,List.forIn_cons];refine aB.bind j (h d (Ext.refl j) a s) λp r q e n=> ?_
  subst n;cases r with|done b=>exact aA rfl|yield b=>exact o e.ok (λc m=>h c (e.trans m)) b
def AN{e c:Type}{f d:e->c->Sem (ForInStep c)}{b:Ren}(g:Ren.Ok P b)(h:∀a,Ext P b a->∀x s,aB P S lq (f x s) a (d x s))(l:Array e)(s:c):aB P S lq (forIn l s f) b (forIn l s d):=by rw[<-Array.forIn_toList,<-Array.forIn_toList];exact Nz g h _ _
def AO{c:Type}{f d:Nat->c->Sem (ForInStep c)}{b:Ren}(e:Ren.Ok P b)(h:∀a,Ext P b a->∀x s,aB P S lq (f x s) a (d x s))(r:Std.Legacy.Range)(s:c):aB P S lq (forIn r s f) b (forIn r s d):=by rw[Std.Legacy.Range.forIn_eq_forIn_range',Std.Legacy.Range.forIn_eq_forIn_range'];exact Nz e h _ _
def sS{j:Ren}(k:Ren.Ok P j){a b g i:Addr}(c:dt j a g)(d:dt j b i):(a==b)=(g==i):=by
 have f:a=b↔g=i:=by
  constructor;rintro rfl;have:=k.fn _ _ _ c.block d.block;cases g;cases i
  simp_all
  exact⟨c.off.trans d.off.symm,c.spot.trans d.spot.symm⟩;rintro rfl;have:=k.inj _ _ _ c.block d.block;cases a;cases b
  simp_all
  exact⟨c.off.symm.trans d.off,c.spot.symm.trans d.spot⟩
 by_cases h:a=b;rw[beq_iff_eq.2 h,beq_iff_eq.2 (f.1 h)];rw[beq_eq_false_iff_ne.2 h,beq_eq_false_iff_ne.2 λe=>h (f.2 e)]
def xe{g:Ren}(k:Ren.Ok P g){a b d f:Nat}(i:g a d)(j:g b f):(a==b)=(d==f):=by have c:a=b↔d=f:=⟨λh=>by subst h;exact k.fn _ _ _ i j,λh=>by subst h;exact k.inj _ _ _ i j⟩;by_cases h:a=b;rw[beq_iff_eq.2 h,beq_iff_eq.2 (c.1 h)];rw[beq_eq_false_iff_ne.2 h,beq_eq_false_iff_ne.2 λe=>h (c.2 e)]
def yx{c:Ren}(g:Ren.Ok P c){a d:Addr}(h:dt c a d):aB P S lq (stringish a) c (stringish d):=by
 unfold stringish;refine aB.bind g (tz h) λi x y e b=> ?_
 subst b;cases x with
 |true=>exact aA rfl|false=>
  simp only[cK,if_false];refine aB.bind e.ok (ny (e.le _ _ h.block)) λj x y f b=> ?_
  subst b;cases x with|none=>exact aA rfl|some x=>exact tz ⟨(e.trans f).le _ _ h.block,rfl,rfl⟩
def LO{h:Ren}(m:Ren.Ok P h){a b i j:Addr}(k:dt h a i)(l:dt h b j):aB P S lq (mayBeOne a b) h (mayBeOne i j):=by
 unfold mayBeOne;refine aB.bind m (yx m k) λn x y d c=> ?_
 subst c;refine aB.bind d.ok (yx d.ok (l.mono d)) λo x y g c=> ?_
 subst c;refine aB.bind (Q:=lq) g.ok (aB.bind g.ok (ny ((k.mono d).mono g).block) λf x y e c=>by subst c;exact aA rfl) λf x y e c=> ?_
 subst c;refine aB.bind (Q:=lq) e.ok (aB.bind e.ok (ny (((l.mono d).mono g).mono e).block) λf x y e c=>by subst c;exact aA rfl) λp x y q c=> ?_
 subst c;exact aA rfl
def AW{i:Ren}(m:Ren.Ok P i){a b n o:Addr}(f:dt i a n)(g:dt i b o):aB P S lq (sameAddr a b) i (sameAddr n o):=by
 unfold sameAddr;rw[xe m f.block g.block,sS m f g];split;exact aA rfl;refine aB.bind m (tz f) λq x y j c=> ?_
 subst c;refine aB.bind j.ok (tz (g.mono j)) λr x y k c=> ?_
 subst c;have d:=j.trans k;split;exact rfl;refine aB.bind k.ok (AV k.ok (f.mono d)) λs x y h c=> ?_
 refine aB.bind h.ok (AV h.ok ((g.mono d).mono h)) λt x y l c=> ?_
 have e:=(d.trans h).trans l;refine aB.bind l.ok (LO l.ok (f.mono e) (g.mono e)) λu x y p c=> ?_
 subst c;cases x with|true=>exact aB.bind p.ok (nK _) λv x y w c=>by subst c;exact aA rfl|false=>exact aA rfl
def jO{c:Ren}(i:Ren.Ok P c){a g:Addr}(h:dt c a g):aB P S (λc p q=>dt c p.1 q.1/\q.2=p.2) (behindNumber a) c (behindNumber g):=by
 unfold behindNumber;refine aB.bind (Q:=λc a b=>gq (λp q:Addr×Bool=>dt c p.1 q.1/\q.2=p.2) a b) i ?_ λf x y e d=>by
  cases d with|none=>exact aA ⟨h.mono e,rfl⟩|some k=>exact aA k
 unfold numberAt;refine aB.bind i (ny h.block) λf x y e d=> ?_
 subst d;cases x with
 |some x=>exact aA .none|none=>
  refine aB.bind e.ok (iR (e.le _ _ h.block)) λn o s r m=> ?_
  cases m with|number l j=>exact aA (.some ⟨j,rfl⟩)|_=>exact aA .none
end
section
variable{P:aO} {S:gM}
def K6(t:az)(a b:Addr):Sem Bool:=do
 let(a,b):=((<-behindNumber a).1,(<-behindNumber b).1)
 if a.block==b.block&&a.block<(<-program).globals.size then return (<-byteOf a)==(<-byteOf b)
 let .named "sync.copyChecker" _:=(<-typeInfo t).desc|unsupported .addressObserved
 if a==b then pure ar else unsupported .addressObserved
def Tz{g:Ren}(s:Ren.Ok P g)(t:az){a b m n:Addr}(u:dt g a m)(v:dt g b n):aB P S lq (K6 t a b) g (K6 t m n):=by
 unfold K6;refine aB.bind s (jO s u) λD p C h hp=> ?_
 refine aB.bind h.ok (jO h.ok (v.mono h)) λE q J o A=> ?_
 have e:=hp.1.mono o;have f:=A.1;refine aB.bind o.ok gD λF r k c B=> ?_
 obtain⟨rfl,rfl⟩:=B;have e:=e.mono c;have f:=f.mono c;rename_i k;have w:decide (p.1.block<k.globals.size)=decide (C.1.block<k.globals.size):=decide_eq_decide.2 (c.ok.OV _ _ e.block);rw[xe c.ok e.block f.block,w];split;refine aB.bind c.ok (pe c.ok e) λl x y d j=> ?_
 subst j;refine aB.bind d.ok (pe d.ok (f.mono d)) λG x y H j=> ?_
 subst j;exact aA rfl;refine aB.bind c.ok (fi c.ok t) λl i I d z=> ?_
 obtain⟨rfl,_⟩:=z;rw[sS d.ok (e.mono d) (f.mono d)];split;split;exact aA rfl;exact rfl;exact rfl
def PT:∀(d:Nat)(t:az){J:Ren}{x R y T:ak},Ren.Ok P J->bh S J x R->bh S J y T->aB P S lq (Op.equalIn d t x y) J (Op.equalIn d t R T):=by
 intro d
 induction d with
 |zero=>intros;exact rfl|succ d N=>
  intro t J x R y T W l g;refine aB.bind W (bH W t) λC ds ds' q hd=> ?_
  obtain⟨rfl,_⟩:=hd;have l:=l.mono q;have g:=g.mono q;cases ds with
  |bool=>cases l<;>first|exact rfl|(cases g<;>first|exact aA rfl|exact rfl)
  |int k=>
   cases l with
   |int k a=>
    cases g with
    |int V b=>by_cases h:k=V;simp only[h,if_true];exact aA rfl;simp only[h,if_false];exact rfl|pointer w=>rcases a with(_|n)|n<;>first|exact aA rfl|exact rfl
    |eF=>rcases a with(_|n)|n<;>exact rfl
    |_=>exact rfl
   |pointer B=>
    cases g with
    |int V b=>rcases b with(_|n)|n<;>first|exact aA rfl|exact rfl
    |pointer w=>exact Tz q.ok t B w|_=>exact rfl
   |eF=>cases g<;>exact rfl|_=>cases g<;>exact rfl
  |float k=>cases l<;>first|exact rfl|(cases g<;>exact rfl)
  |complex k=>cases l<;>first|exact rfl|(cases g<;>exact rfl)
  |string=>cases l<;>first|exact rfl|(cases g<;>first|exact aA rfl|exact rfl)
  |pointer G=>
   cases l with
   |eF=>cases g<;>first|exact aA rfl|exact rfl
   |pointer B=>
    cases g with
    |eF=>exact aA rfl|pointer w=>
     refine aB.bind q.ok (fI q.ok G) λE n n' o h=> ?_
     subst h;split;exact AW o.ok (B.mono o) (w.mono o);rw[sS o.ok (B.mono o) (w.mono o)];split;exact aA rfl;exact aB.bind o.ok (nK _) λz a b p h=>by subst h;exact aA rfl
    |_=>exact rfl
   |_=>exact rfl
  |unsafePointer=>
   cases l with
   |eF=>cases g<;>first|exact aA rfl|exact rfl
   |pointer B=>
    cases g with|eF=>exact aA rfl|pointer w=>exact AW q.ok B w|_=>exact rfl
   |_=>exact rfl
  |chan dd G=>cases l<;>first|exact rfl|(cases g<;>first|exact aA rfl|exact rfl)
  |interface ms=>
   cases l with
   |nilIface=>cases g<;>first|exact aA rfl|exact rfl
   |iface O vx=>
    cases g with
    |nilIface=>exact aA rfl|iface ty vy=>
     simp only;split;exact aA rfl;refine aB.bind q.ok (fi q.ok O) λE i i' o hi=> ?_
     obtain⟨rfl,_⟩:=hi;split;refine aB.bind o.ok gD λz r X p H=> ?_
     obtain⟨rfl,rfl⟩:=H;refine aB.bind p.ok gD λK r X u H=> ?_
     obtain⟨rfl,rfl⟩:=H;split;exact rfl;refine aB.bind (Q:=lq) u.ok (aB.bind u.ok (fi u.ok O) λF j j' A hj=> ?_) λF s Y A h=> ?_
     obtain⟨rfl,_⟩:=hj;simp only;split;exact rfl;exact aA rfl;subst h;exact jk A.ok _;exact N O o.ok (vx.mono o) (vy.mono o)
    |_=>exact rfl
   |_=>exact rfl
  |struct fs=>
   cases l with
   |agg D L=>
    cases g with
    |agg I M=>
     have l:cz S C _ _:=⟨D,L⟩;have g:cz S C _ _:=⟨I,M⟩;refine aB.bind q.ok gD λE r X o H=> ?_
     obtain⟨rfl,rfl⟩:=H;split;exact rfl;refine aB.bind (Q:=lq) o.ok (AN o.ok (λz p f s=> ?_) fs _) λz s Y p h=> ?_
     have e:=o.trans p;split;refine aB.bind p.ok (nX p.ok _ (cz.mono e l) _) λK a Z u B=> ?_
     refine aB.bind u.ok (nX u.ok _ (cz.mono (e.trans u) g) _) λF b b' A w=> ?_
     refine aB.bind A.ok (N _ A.ok (B.mono A) w) λU c c' e6 h=> ?_
     subst h;cases c<;>exact aA rfl;exact aA rfl;subst h;obtain⟨D,I⟩:=s;cases D<;>exact aA rfl
    |_=>exact rfl
   |_=>exact rfl
  |array n G=>
   cases l with
   |agg D L=>
    cases g with
    |agg I M=>
     have l:cz S C _ _:=⟨D,L⟩;have g:cz S C _ _:=⟨I,M⟩;refine aB.bind q.ok (fI q.ok G) λE m m' o h=> ?_
     subst h;refine aB.bind (Q:=lq) o.ok (AO o.ok (λz p f s=> ?_) _ _) λz s Y p h=> ?_
     have e:=o.trans p;refine aB.bind p.ok (nX p.ok _ (cz.mono e l) _) λK a Z u B=> ?_
     refine aB.bind u.ok (nX u.ok _ (cz.mono (e.trans u) g) _) λF b b' A w=> ?_
     refine aB.bind A.ok (N _ A.ok (B.mono A) w) λU c c' e6 h=> ?_
     subst h;cases c<;>exact aA rfl;subst h;obtain⟨D,I⟩:=s;cases D<;>exact aA rfl
    |_=>exact rfl
   |_=>exact rfl
  |slice G=>cases l<;>first|exact rfl|(cases g<;>first|exact aA rfl|exact rfl)
  |map k v=>cases l<;>first|exact rfl|(cases g<;>first|exact aA rfl|exact rfl)
  |func a b c=>cases l<;>first|exact rfl|(cases g<;>first|exact aA rfl|exact rfl)
  |_=>cases l<;>cases g<;>exact rfl
def Ny(t:az){a:Ren}{x b y c:ak}(f:Ren.Ok P a)(d:bh S a x b)(e:bh S a y c):aB P S lq (Op.equal t x y) a (Op.equal t b c):=PT _ t f d e
end
section
variable{P:aO} {S:gM}
def fO.Nq{g j:Type}{R:g->j->Prop}:∀{x:List g}{y:List j},dh R x y->fO R x.toArray y.toArray:=by
 intro x y h
 induction h with
 |nil=>exact⟨rfl,by simp⟩|cons a _ f=>
  refine⟨by simpa using f.size,λi c d b e=> ?_⟩;cases i with|zero=>simp at b e;subst b;subst e;exact a|succ i=>exact f.at_ i c d (by simpa using b) (by simpa using e)
def fO.Em{a b:Type}{R:a->b->Prop}{x:Array a}{y:Array b}(h:dh R x.toList y.toList):fO R x y:=by have:=fO.Nq h;simpa using this
abbrev xU(S:gM)(a:Ren):Array MapEntry->Array MapEntry->Prop:=fO (nS S a)
abbrev QF(S:gM)(a:Ren):List MapEntry->List MapEntry->Prop:=dh (nS S a)
abbrev Km(S:gM)(c:Ren):Option (Nat×ak)->Option (Nat×ak)->Prop:=gq λa b=>b.1=a.1/\bh S c a.2 b.2
def dh.mono{e f:Type}{R d:e->f->Prop}(h:∀a b,R a b->d a b){l:List e}{m:List f}(x:dh R l m):dh d l m:=by
 induction x with|nil=>exact .nil|cons c _ g=>exact .cons (h _ _ c) g
def QF.mono{b a:Ren}(e:Ext P b a){l m:List MapEntry}(x:QF S b l m):QF S a l m:=dh.mono (λ_ _ h=>h.mono e) x
def xU.mono{b a:Ren}(e:Ext P b a){l m:Array MapEntry}(x:xU S b l m):xU S a l m:=fO.mono x λ_ _ h=>h.mono e
def sf(b:Bool):∀(n:Nat)(t:az){r:Ren}{v z:ak},Ren.Ok P r->bh S r v z->aB P S lq (fB b n t v) r (fB b n t z):=by
 intro n
 induction n with
 |zero=>intros;exact rfl|succ n y=>
  intro t r v z B p;refine aB.bind B (bH B t) λq E F g I=> ?_
  obtain⟨rfl,_⟩:=I;have p:=p.mono g;cases E with
  |interface V=>
   cases p with
   |nilIface=>exact aA rfl|iface d L=>
    refine aB.bind g.ok (fi g.ok d) λM i R o J=> ?_
    obtain⟨rfl,_⟩:=J;split;split;exact jP o.ok (.unhashable d) (.unhashable d) ⟨by simp,by simp⟩;refine aB.bind (Q:=lq) o.ok (aB.bind o.ok (fi o.ok d) λl j T e K=> ?_) λl s C e h=> ?_
    obtain⟨rfl,_⟩:=K;simp only;split;exact rfl;exact aA rfl;subst h;exact jk e.ok _;exact y d o.ok (L.mono o)
   |_=>exact rfl
  |array len H=>
   cases p with
   |agg s h=>
    have x:cz S q _ _:=⟨s,h⟩;refine aB.bind (Q:=lq) g.ok (AO g.ok (λk c f s=> ?_) _ _) λk s C c h=>aA rfl
    refine aB.bind c.ok (fI c.ok H) λN m U u h=> ?_
    subst h;refine aB.bind u.ok (nX u.ok _ (cz.mono (c.trans u) x) _) λl a D e w=> ?_
    exact aB.bind e.ok (y _ e.ok w) λA _ _ G _=>aA rfl
   |_=>exact rfl
  |struct O=>
   cases p with
   |agg s h=>
    have x:cz S q _ _:=⟨s,h⟩;refine aB.bind (Q:=lq) g.ok (AN g.ok (λk c f s=> ?_) _ _) λk s C c h=>aA rfl
    split;refine aB.bind c.ok (nX c.ok _ (cz.mono c x) _) λl a D e w=> ?_
    exact aB.bind e.ok (y _ e.ok w) λA _ _ G _=>aA rfl
    exact aA rfl
   |_=>exact rfl
  |_=>exact aA rfl
def F7(t:az):∀{l m:List MapEntry}{c:Ren}{k f:ak}(i:Nat),Ren.Ok P c->QF S c l m->bh S c k f->aB P S (λc=>Km S c) (Instr.findAsking t k l i) c (Instr.findAsking t f m i):=by
 intro l
 induction l with
 |nil=>intro m c k f i j h g;cases h;exact aA .none|cons a l o=>
  intro m c k f i j h g;cases h with
  |cons d n=>
   refine aB.bind j (Ny t j g d.key) λp b q e h=> ?_
   subst h;cases b with|true=>exact aA (.some ⟨rfl,d.val.mono e⟩)|false=>exact o (i+1) e.ok (QF.mono e n) (g.mono e)
def JE{g:Ren}(d:TypeDesc){a e b f:ak}(h:bh S g a e)(c:bh S g b f):Instr.sameNow d a b=Instr.sameNow d e f:=by
 cases h with|int=>cases d<;>cases c<;>rfl|string=>cases d<;>cases c<;>rfl|bool=>cases d<;>cases c<;>rfl|_=>cases d<;>rfl
def Ie{c:Ren}(d:TypeDesc){k e:ak}(f:bh S c k e):∀{l m:List MapEntry}(i:Nat),QF S c l m->gq (Km S c) (Instr.findNow d k l i) (Instr.findNow d e m i):=by
 intro l
 induction l with
 |nil=>intro m i h;cases h;exact .some .none|cons a l j=>
  intro m i h;cases h with|cons b g=>unfold Instr.findNow;rw[JE d f b.key];split;exact .some (.some ⟨rfl,b.val⟩);exact j (i+1) g;exact .none
def xC{a:Ren}(f:Ren.Ok P a)(t:az){k c:ak}(e:bh S a k c){l m:List MapEntry}(h:QF S a l m):aB P S (λa=>Km S a) (jR t k l) a (jR t c m):=by
 unfold jR;refine aB.bind f (bH f t) λn d o b g=> ?_
 obtain⟨rfl,_⟩:=g;have:=Ie d (e.mono b) 0 (QF.mono b h);revert this;generalize Instr.findNow d k l 0=r;generalize Instr.findNow d c m 0=p;intro j;cases j with|none=>exact F7 t 0 b.ok (QF.mono b h) (e.mono b)|some i=>exact aA i
def y6{a:Ren}{l m:Array MapEntry}(h:xU S a l m):m.isEmpty=l.isEmpty:=by simp only[Array.isEmpty,h.size]
def wH{e:Ren}(O:qC P S)(n:Ren.Ok P e)(r A:az){E l:ak}(L:bh S e E l)(c:Bool){B g:Array MapEntry}(h:xU S e B g):aB P S (VQ S) (do
 fB B.isEmpty 10000 r E
 let(v,n)<-match<-jR r E B.toList with|some (_,v)=>pure (v,ar)|none=>pure (<-zeroValue A,au)
 pure (if c then .tuple #[v,.bool n]else v)) e (do
 fB g.isEmpty 10000 r l
 let(v,n)<-match<-jR r l g.toList with|some (_,v)=>pure (v,ar)|none=>pure (<-zeroValue A,au)
 pure (if c then .tuple #[v,.bool n]else v)):=by
 have o:∀(m:Ren)(v u:ak)(b:Bool),bh S m v u->bh S m (if c then .tuple #[v,.bool b]else v) (if c then .tuple #[u,.bool b]else u):=by
  intro m v u b t;cases c with
  |false=>exact t|true=>
   refine .tuple rfl λi x y d k=> ?_
   match i,d,k with|0,d,k=>simp at d k;subst d;subst k;exact t|1,d,k=>simp at d k;subst d;subst k;exact .bool _|i+2,d,_=>simp at d
 rw[y6 h];refine aB.bind n (sf _ _ _ n L) λR _ _ s _=> ?_
 refine aB.bind s.ok (xC s.ok r (L.mono s) (QF.mono s (dh.lx h))) λT f U w C=> ?_
 cases C with
 |none=>
  refine aB.bind w.ok (kQ O w.ok A) λF z V M D=> ?_
  obtain⟨rfl,C⟩:=D;exact aB.bind (Q:=λe a b=>b.2=a.2/\bh S e a.1 b.1) M.ok (aA ⟨rfl,C F⟩) λG a b N j=>by obtain⟨H,I⟩:=a;obtain⟨J,K⟩:=b;obtain⟨p,q⟩:=j;simp only at p q;subst p;exact aA (o _ _ _ _ q)
 |some t=>rename_i a b;obtain⟨H,I⟩:=a;obtain⟨J,K⟩:=b;exact aB.bind (Q:=λe a b=>b.2=a.2/\bh S e a.1 b.1) w.ok (aA ⟨rfl,t.2⟩) λG a b N j=>by obtain⟨H,I⟩:=a;obtain⟨J,K⟩:=b;obtain⟨p,q⟩:=j;simp only at p q;subst p;exact aA (o _ _ _ _ q)
def TB{e:Ren}(q:qC P S)(u:Ren.Ok P e)(t:az){x v r h:ak}(l:bh S e x v)(j:bh S e r h)(c:Bool):aB P S (VQ S) (kE t x r c) e (kE t v h c):=by
 unfold kE;refine aB.bind u (bH u t) λA d C i w=> ?_
 obtain⟨rfl,_⟩:=w;have l:=l.mono i;have j:=j.mono i;cases d with
 |map s p=>
  cases l with
  |r8=>exact aB.bind (Q:=λe a b=>xU S e a b) i.ok (aA ⟨rfl,by simp⟩) λm a b g f=>wH q g.ok s p (j.mono g) c f|map z=>
   refine aB.bind i.ok (iR z) λm o D g y=> ?_
   cases y with|map cl k=>exact aB.bind (Q:=λe a b=>xU S e a b) g.ok (aA k) λB a b n f=>wH q n.ok s p (j.mono (g.trans n)) c f|_=>exact rfl
  |_=>exact rfl
 |_=>exact rfl
def PX{k:Ren}(i:Ren.Ok P k)(t:az){r m:Option ak}(h:gq (bh S k) r m):aB P S (VQ S) (Instr.makeMap t r) k (Instr.makeMap t m):=by
 unfold Instr.makeMap;have n:∀{c:Ren},Ren.Ok P c->aB P S (VQ S) (do pure (Value.map (ae (<-newObj (.map #[] 0))))) c (do pure (Value.map (ae (<-newObj (.map #[] 0))))):=λ{c} j=>aB.bind j (AU (.map 0 ⟨rfl,by simp⟩)) λl a b e g=>aA (.map g)
 cases h with
 |none=>exact n i|some q=>
  refine aB.bind i (bH i t) λc d s f p=> ?_
  obtain⟨rfl,_⟩:=p;cases d with|map v u=>exact aB.bind f.ok (wF f.ok (q.mono f)) λl _ _ o _=>n o.ok|_=>exact rfl
end
section
variable{P:aO} {S:gM}
def ME{π:Ren}{f g:ak×ak->Bool}(d:∀a h b i,bh S π a h->bh S π b i->f (a,b)=g (h,i)):∀{x e y c:List ak},dh (bh S π) x e->dh (bh S π) y c->(x.zip y).all f=(e.zip c).all g:=by
 intro x e y c m
 induction m generalizing y c with
 |nil=>intro _;rfl|cons j _ o=>
  intro n;cases n with|nil=>rfl|cons k l=>simp only[List.zip_cons_cons,List.all_cons,d _ _ _ _ j k,o l]
def Gl{π:Ren}(j:Ren.Ok P π):∀(n:Nat){a d b e:ak},bh S π a d->bh S π b e->Instr.sameBits n a b=Instr.sameBits n d e:=by
 intro n
 induction n with
 |zero=>
  intro a d b e f c;cases f with
  |pointer x=>cases c with|pointer y=>show(ae _==ae _)=(ae _==ae _);rw[Option.some_beq_some,Option.some_beq_some];exact sS j x y|_=>rfl
  |eF=>cases c<;>rfl|bool|int|string|oT|nilIface=>cases c<;>rfl|_=>cases c<;>rfl
 |succ n i=>
  intro a d b e f c;cases f with
  |pointer x=>cases c with|pointer y=>show(ae _==ae _)=(ae _==ae _);rw[Option.some_beq_some,Option.some_beq_some];exact sS j x y|_=>rfl
  |iface t h=>cases c with|iface u k=>show(t==u&&_)=(t==u&&_);rw[i h k]|_=>rfl
  |agg s h=>cases c with|agg l m=>show(_==_&&List.all _ _)=(_==_&&List.all _ _);rw[s,l,ME (S:=S) (π:=π) (g:=λ(x,y)=>Instr.sameBits n x y) (λa d b e f c=>i f c) (dh.lx ⟨s,h⟩) (dh.lx ⟨l,m⟩)]|_=>rfl
  |_=>cases c<;>rfl
def AR{d:Ren}(k:Ren.Ok P d){a g b i:ak}(j:bh S d a g)(f:bh S d b i):aB P S (VQ S) (Instr.keyThatStays a b) d (Instr.keyThatStays g i):=by
 unfold Instr.keyThatStays;rw[Gl k _ j f];split;exact aA f;refine aB.bind k (nK _) λl c m e h=> ?_
 subst h;split;exact aA (f.mono e);exact aA (j.mono e)
def aa9{f:Ren}{d c:Array MapEntry}(h:xU S f d c)(i:Nat){k g:ak}(j:bh S f k g):bh S f (((d[i]?).map (·.key)).getD k) (((c[i]?).map (·.key)).getD g):=by
 have:=h.opt i;revert this;generalize d[i]? =a;generalize c[i]? =b;intro e;cases e with|none=>exact j|some h=>exact h.key
def xU.modify{n:Ren}{p k:Array MapEntry}(h:xU S n p k)(i:Nat){f g:MapEntry->MapEntry}(o:∀a b,nS S n a b->nS S n (f a) (g b)):xU S n (p.modify i f) (k.modify i g):=by refine⟨by simp[h.size],λj a b m l=> ?_⟩;rw[br]at m l;split at m;rename_i e;rw[if_pos e]at l;obtain⟨c,q,rfl⟩:=aF.1 m;obtain⟨d,r,rfl⟩:=aF.1 l;exact o _ _ (h.at_ j c d q r);rename_i e;rw[if_neg e]at l;exact h.at_ j a b m l
def dh.eraseIdx{a b:Type}{R:a->b->Prop}{l:List a}{m:List b}(h:dh R l m):∀i,dh R (l.eraseIdx i) (m.eraseIdx i):=by
 induction h with
 |nil=>intro i;exact .nil|cons c d e=>
  intro i;cases i with|zero=>exact d|succ i=>exact .cons c (e i)
def xU.erase{c:Ren}{b a:Array MapEntry}(h:xU S c b a)(i:Nat):xU S c (b.eraseIdxIfInBounds i) (a.eraseIdxIfInBounds i):=by refine fO.Em ?_;rw[Array.toList_eraseIdxIfInBounds,Array.toList_eraseIdxIfInBounds];exact dh.eraseIdx (dh.lx h) i
def Jl{n:Ren}(B:Ren.Ok P n)(t:az){m A k z v C:ak}(hm:bh S n m A)(j:bh S n k z)(w:bh S n v C):aB P S lq (Instr.mapUpdate t m k v) n (Instr.mapUpdate t A z C):=by
 unfold Instr.mapUpdate;refine aB.bind B (bH B t) λI d T p E=> ?_
 obtain⟨rfl,_⟩:=E;cases d with
 |map H U=>
  cases hm.mono p with
  |r8=>exact jP p.ok (.plain _) (.plain _) ⟨by simp,by simp⟩|map l=>
   refine aB.bind p.ok (iR l) λJ o W q G=> ?_
   cases G with
   |map cl c=>
    have e:=p.trans q;refine aB.bind q.ok (sf _ _ _ q.ok (j.mono e)) λK _ _ h _=> ?_
    have e:=e.trans h;refine aB.bind h.ok (xC h.ok H (j.mono e) (QF.mono h (dh.lx c))) λL f V i F=> ?_
    have e:=e.trans i;have c:=xU.mono (h.trans i) c;have l:=(q.trans (h.trans i)).le _ _ l;cases F with
    |none=>exact lG l (.map _ (fO.push c ⟨j.mono e,w.mono e,rfl⟩))|some g=>
     rename_i a b;obtain⟨N,O⟩:=a;obtain⟨Q,R⟩:=b;obtain⟨u,D⟩:=g;simp only at u D;subst u;refine aB.bind i.ok (AR i.ok (aa9 c _ (j.mono e)) (j.mono e)) λM x y r s=> ?_
     exact lG (r.le _ _ l) (.map _ (xU.modify (xU.mono r c) _ λa b g=>⟨s,w.mono (e.trans r),g.born⟩))
   |_=>exact rfl
  |_=>exact rfl
 |_=>exact rfl
def F4{s:Ren}(v:Ren.Ok P s)(g:az){m x k q:ak}(hm:bh S s m x)(u:bh S s k q):aB P S (VQ S) (do
 match m with
 |.map ah=>fB ar 10000 g k|.map (ae r)=>
  let .map es clock<-getObj r|stuck "delete: map expected"
  fB es.isEmpty 10000 g k
  match<-jR g k es.toList with|some (i,_)=>setObj r (.map (es.eraseIdxIfInBounds i) clock)|none=>setObj r (.map es clock)
 |_=>stuck "delete: map expected"
 pure (.tuple #[])) s (do
 match x with
 |.map ah=>fB ar 10000 g q|.map (ae r)=>
  let .map es clock<-getObj r|stuck "delete: map expected"
  fB es.isEmpty 10000 g q
  match<-jR g q es.toList with|some (i,_)=>setObj r (.map (es.eraseIdxIfInBounds i) clock)|none=>setObj r (.map es clock)
 |_=>stuck "delete: map expected"
 pure (.tuple #[])):=by
 have d:∀l,bh S l (.tuple #[]) (.tuple #[]):=λl=>.tuple rfl (by simp)
 cases hm with
 |r8=>exact aB.bind v (sf _ _ _ v u) λB _ _ e _=>aA (d _)|map j=>
  refine aB.bind v (iR j) λC o K n A=> ?_
  cases A with
  |map cl c=>
   simp only[y6 c];refine aB.bind n.ok (sf _ _ _ n.ok (u.mono n)) λD _ _ h _=> ?_
   have e:=n.trans h;refine aB.bind h.ok (xC h.ok g (u.mono e) (QF.mono h (dh.lx c))) λE f J p z=> ?_
   have e:=e.trans p;have c:=xU.mono (h.trans p) c;have j:=e.le _ _ j;cases z with|none=>exact aB.bind p.ok (lG j (.map _ c)) λ_ _ _ e _=>aA (d _)|some t=>rename_i a b;obtain⟨F,G⟩:=a;obtain⟨H,I⟩:=b;obtain⟨w,y⟩:=t;simp only at w y;subst w;exact aB.bind p.ok (lG j (.map _ (xU.erase c _))) λ_ _ _ e _=>aA (d _)
  |_=>exact rfl
 |_=>exact rfl
def DC(a:Array az)(t:az)(x:Array ak):kX a t x=(match a[0]?,x[0]?,x[1]? with
 |some b,ae m,ae k=>do
  let .map kt _<-underlying b|stuck "delete: map type expected"
  match m with
  |.map ah=>fB ar 10000 kt k|.map (ae r)=>
   let .map es clock<-getObj r|stuck "delete: map expected"
   fB es.isEmpty 10000 kt k
   match<-jR kt k es.toList with|some (i,_)=>setObj r (.map (es.eraseIdxIfInBounds i) clock)|none=>setObj r (.map es clock)
  |_=>stuck "delete: map expected"
  pure (.tuple #[])
 |_,_,_=>stuck "delete: two arguments expected"):=by
 unfold kX;cases a[0]?<;>cases x[0]?<;>cases x[1]?<;>rfl
def Tw{i:Ren}(j:Ren.Ok P i)(g:Array az)(t:az){x y:Array ak}(h:cz S i x y):aB P S (VQ S) (kX g t x) i (kX g t y):=by
 rw[DC,DC];have c:=h.opt 0;have e:=h.opt 1;revert c e;generalize x[0]? =a;generalize y[0]? =q;generalize x[1]? =b;generalize y[1]? =r;intro c e;cases g[0]? with
 |none=>cases c<;>cases e<;>exact rfl|some o=>
  cases c with
  |none=>exact rfl|some l=>
   cases e with
   |none=>exact rfl|some m=>
    refine aB.bind j (bH j o) λp d s f k=> ?_
    obtain⟨rfl,_⟩:=k;cases d with|map n u=>exact F4 f.ok n (l.mono f) (m.mono f)|_=>exact rfl
def Wr{g:Ren}(u:Ren.Ok P g)(t:az){x v:ak}(l:bh S g x v):aB P S (VQ S) (Instr.range t x) g (Instr.range t v):=by
 unfold Instr.range;have p:∀{c:Ren}{o i:Obj},Ren.Ok P c->ic S c o i->aB P S (VQ S) (do let m<-pure o;pure (.pointer (ae ⟨<-newObj m,0,ah⟩))) c (do let m<-pure i;pure (.pointer (ae ⟨<-newObj m,0,ah⟩))):=λ{c o i} n k=>aB.bind (Q:=λg a b=>ic S g a b) n (aA k) λq a b e j=>aB.bind e.ok (AU j) λz r E B h=>aA (.pointer ⟨h,rfl,rfl⟩)
 refine aB.bind u (bH u t) λc d A f w=> ?_
 obtain⟨rfl,_⟩:=w;cases d with
 |string=>cases l.mono f<;>first|exact p f.ok (.stringIter _ _)|exact rfl
 |map D C=>
  cases l.mono f with
  |r8=>exact p f.ok (.mapIter _ _ _ .none)|map h=>
   refine aB.bind f.ok (iR h) λq o i s k=> ?_
   cases k with|map cl y=>exact p s.ok (.mapIter _ _ _ (.some (s.le _ _ h)))|_=>exact rfl
  |_=>exact rfl
 |_=>cases l<;>exact rfl
end
section
variable{P:aO} {S:gM}
def dh.filter{e f:Type}{R:e->f->Prop}{p:e->Bool}{q:f->Bool}(d:∀a b,R a b->p a=q b){l:List e}{m:List f}(h:dh R l m):dh R (l.filter p) (m.filter q):=by
 induction h with|nil=>exact .nil|cons c _ g=>rw[List.filter_cons,List.filter_cons,d _ _ c];split;exact .cons c g;exact g
def dh.allEq{e f:Type}{R:e->f->Prop}{p:e->Bool}{q:f->Bool}(d:∀a b,R a b->p a=q b){l:List e}{m:List f}(h:dh R l m):l.all p=m.all q:=by
 induction h with|nil=>rfl|cons c _ g=>rw[List.all_cons,List.all_cons,d _ _ c,g]
def dh.find{e f:Type}{R:e->f->Prop}{p:e->Bool}{q:f->Bool}(d:∀a b,R a b->p a=q b){l:List e}{m:List f}(h:dh R l m):gq R (l.find? p) (m.find? q):=by
 induction h with|nil=>exact .none|cons c _ g=>rw[mG,mG,d _ _ c];split;exact .some c;exact g
def xU.filter{d:Ren}{p q:MapEntry->Bool}(c:∀a b,nS S d a b->p a=q b){l m:Array MapEntry}(h:xU S d l m):xU S d (l.filter p) (m.filter q):=by refine fO.Em ?_;rw[Array.toList_filter,Array.toList_filter];exact dh.filter c (dh.lx h)
def fO.append{j l:Type}{R:j->l->Prop}{x y:Array j}{f g:Array l}(h:fO R x f)(k:fO R y g):fO R (x++y) (f++g):=by refine⟨by simp[h.size,k.size],λi a b d c=> ?_⟩;rw[Array.getElem?_append]at d c;rw[<-h.size]at c;split at d;rename_i e;rw[if_pos e]at c;exact h.at_ i a b d c;rename_i e;rw[if_neg e]at c;exact k.at_ _ a b d c
def fO.map{j k o p:Type}{R:j->k->Prop}{l:o->p->Prop}{f:j->o}{g:k->p}(e:∀a b,R a b->l (f a) (g b)){x:Array j}{y:Array k}(h:fO R x y):fO l (x.map f) (y.map g):=by refine⟨by simp[h.size],λi a b m n=> ?_⟩;rw[gj]at m n;obtain⟨c,q,rfl⟩:=aF.1 m;obtain⟨d,r,rfl⟩:=aF.1 n;exact e _ _ (h.at_ i c d q r)
def ZP{e:Ren}{a d:ak}(h:bh S e a d):bh S e (.tuple #[a]) (.tuple #[d]):=by
 refine .tuple rfl λi x y b c=> ?_
 match i,b,c with|0,b,c=>simp at b c;subst b;subst c;exact h|i+1,b,_=>simp at b
def adu{e:Ren}{a f b g:ak}(h:bh S e a f)(k:bh S e b g):bh S e (.tuple #[a,b]) (.tuple #[f,g]):=by
 refine .tuple rfl λi x y c d=> ?_
 match i,c,d with|0,c,d=>simp at c d;subst c;subst d;exact h|1,c,d=>simp at c d;subst c;subst d;exact k|i+2,c,_=>simp at c
def abA{f:Ren}{a g b j c m:ak}(h:bh S f a g)(k:bh S f b j)(l:bh S f c m):bh S f (.tuple #[a,b,c]) (.tuple #[g,j,m]):=by
 refine .tuple rfl λi x y d e=> ?_
 match i,d,e with|0,d,e=>simp at d e;subst d;subst e;exact h|1,d,e=>simp at d e;subst d;subst e;exact k|2,d,e=>simp at d e;subst d;subst e;exact l|i+3,d,_=>simp at d
def FI(r m b:Nat)(c:Array Nat)(d:Nat):Sem ak:=do
 let .map es clock<-getObj m|stuck "Next: map expected"
 if !c.isEmpty&& !es.isEmpty&&es.all (·.born≥d)then unsupported (.noEntry "instr/Next: every entry that the ranged map held at the last iteration is gone, and it holds new ones")
 let left:=es.filter λe=> !c.contains e.born
 let old:=left.filter (·.born<b)
 let new:=left.filter (·.born≥b)
 let a:=(if old.isEmpty then #[ah]else #[])++(old++new).map ae
 match a[<-choose (.mapNext a.size)]? with
 |some (ae e)=>
  setObj r (.mapIter (ae m) b (c.push e.born) clock)
  pure (.tuple #[.bool ar,e.key,e.val])
 |some ah=>pure (.tuple #[.bool au])|none=>stuck "Next: no such candidate"
def PY{D:Ren}(R:Ren.Ok P D){r L m K:Nat}(Q:D r L)(hm:D m K)(d:Nat)(f:Array Nat)(j:Nat):aB P S (VQ S) (FI r m d f j) D (FI L K d f j):=by
 unfold FI;refine aB.bind R (iR hm) λw o X H J=> ?_
 cases J with
 |map cl s=>
  rename_i A l;have u:A.all (·.born≥j)=l.all (·.born≥j):=by rw[<-Array.all_toList,<-Array.all_toList];exact dh.allEq (λa b h=>by simp only[h.born]) (dh.lx s)
  simp only[y6 s,u];split;exact rfl;have k:xU S w (A.filter λe=> !f.contains e.born) (l.filter λe=> !f.contains e.born):=xU.filter (λa b h=>by simp only[h.born]) s;have hold:=xU.filter (p:=λx=>decide (x.born<d)) (q:=λx=>decide (x.born<d)) (λa b h=>by simp only[h.born]) k;have v:=xU.filter (p:=λx=>decide (x.born≥d)) (q:=λx=>decide (x.born≥d)) (λa b h=>by simp only[h.born]) k;simp only[<-y6 hold];generalize J:(A.filter λe=> !f.contains e.born).filter (λx=>decide (x.born<d))=old at*;generalize O:(l.filter λe=> !f.contains e.born).filter (λx=>decide (x.born<d))=g at*;generalize W:(A.filter λe=> !f.contains e.born).filter (λx=>decide (x.born≥d))=new at*;generalize N:(l.filter λe=> !f.contains e.born).filter (λx=>decide (x.born≥d))=n at*;have C:fO (gq (nS S w)) ((if g.isEmpty then #[ah]else #[])++(old++new).map ae) ((if g.isEmpty then #[ah]else #[])++(g++n).map ae):=by
   refine fO.append ?_ (fO.map (λa b h=>.some h) (fO.append hold v));split;refine⟨rfl,λi a b t B=> ?_⟩
   match i,t,B with|0,t,B=>simp at t B;subst t;subst B;exact .none|i+1,t,_=>simp at t
   exact⟨rfl,by simp⟩
  generalize (if g.isEmpty then #[ah]else #[])++(old++new).map ae=M at C;generalize (if g.isEmpty then #[ah]else #[])++(g++n).map ae=E at C;rw[<-C.size];refine aB.bind H.ok (nK _) λT c V z h=> ?_
  subst h;have:=C.opt c;revert this;generalize M[c]? =x;generalize E[c]? =y;intro G;cases G with
  |none=>exact rfl|some F=>
   cases F with
   |none=>exact aA (ZP (.bool _))|some h=>
    have e:=H.trans z;simp only;rw[h.born];refine aB.bind z.ok (lG (e.le _ _ Q) (.mapIter _ _ _ (.some (e.le _ _ hm)))) λU _ _ I _=> ?_
    exact aA (abA (.bool _) (h.key.mono (z.trans I)) (h.val.mono (z.trans I)))
 |_=>exact rfl
def ZE{i:Ren}(w:Ren.Ok P i)(c:Bool)(t:az){x l:ak}(u:bh S i x l):aB P S (VQ S) (Instr.next x c t) i (Instr.next l c t):=by
 unfold Instr.next;cases u with
 |pointer m=>
  rename_i a b;obtain⟨r,v,E⟩:=a;obtain⟨D,e,y⟩:=b;obtain⟨h,j,k⟩:=m;simp only at h j k;subst j;subst k;cases e with
  |succ n=>exact rfl|zero=>
   refine aB.bind w (iR h) λz o C g q=> ?_
   cases q with
   |stringIter s p=>
    cases c with
    |false=>exact rfl|true=>
     simp only;split;exact aB.bind g.ok (lG (g.le _ _ h) (.stringIter _ _)) λA _ _ B _=>aA (abA (.bool _) (.int _ _) (.int _ _))
     exact aA (ZP (.bool _))
   |mapIter d f mC hm=>
    cases c with
    |true=>cases hm<;>exact rfl|false=>
     cases hm with|none=>exact aA (ZP (.bool _))|some hm=>exact PY g.ok (g.le _ _ h) hm d f mC
   |_=>cases c<;>exact rfl
 |_=>exact rfl
def Wn{l:Ren}(E:Ren.Ok P l){x u:ak}(B:bh S l x u):aB P S (VQ S) (Instr.entry x) l (Instr.entry u):=by
 unfold Instr.entry;cases B with
 |pointer A=>
  rename_i a b;obtain⟨r,D,K⟩:=a;obtain⟨J,d,F⟩:=b;obtain⟨m,s,t⟩:=A;simp only at m s t;subst s;subst t;cases d with
  |succ n=>exact rfl|zero=>
   refine aB.bind E (iR m) λG o C v i=> ?_
   cases i with
   |mapIter k e mC hm=>
    cases hm with
    |none=>exact rfl|some hm=>
     simp only;cases e.back? with
     |none=>exact rfl|some c=>
      refine aB.bind v.ok (iR hm) λH o C I i=> ?_
      cases i with
      |map cl g=>
       rename_i w f;simp only;split;exact rfl;have:=dh.find (p:=λx:MapEntry=>x.born==c) (q:=λx:MapEntry=>x.born==c) (λa b h=>by simp only[h.born]) (dh.lx g);rw[Array.find?_toList,Array.find?_toList]at this;revert this;generalize w.find? (λx=>x.born==c)=y;generalize f.find? (λx=>x.born==c)=z;intro j;cases j with|none=>exact rfl|some h=>exact aA (adu h.key h.val)
      |_=>exact rfl
   |_=>exact rfl
 |_=>exact rfl
def F3{f:Ren}(h:Ren.Ok P f)(s d:az)(m:∃k,P.underlying d=ae (.int k))(n:∃k,P.underlying s=ae (.int k)){x i:ak}(o:bh S f x i):aB P S (VQ S) (convert s d x) f (convert s d i):=by
 unfold convert;obtain⟨v,j⟩:=n;obtain⟨w,l⟩:=m;refine aB.bind h (bH h s) λp a r g c=> ?_
 obtain⟨rfl,c⟩:=c;refine aB.bind g.ok (bH g.ok d) λq b t u e=> ?_
 obtain⟨rfl,e⟩:=e;rw[j]at c;rw[l]at e;obtain rfl:=aX c;obtain rfl:=aX e;cases o with
 |_=>first|exact rfl|exact aA (.int _ _)
end
section
variable{P:aO} {S:gM}
def pS{f:Ren}(k:Ren.Ok P f)(t:az){p l:Option Addr}(hp:gq (dt f) p l){y m:ak}(s:bh S f y m):aB P S (VQ S) (Builtin.unsafeAdd_ #[] t #[.pointer p,y]) f (Builtin.unsafeAdd_ #[] t #[.pointer l,m]):=by
 unfold Builtin.unsafeAdd_;refine aB.bind k (wF k s) λu n w d h=> ?_
 subst h;have g:=gq.addr d hp;clear hp;cases g with
 |none=>by_cases b:n=0;simp only[b,if_true];exact rfl;simp only[b,if_false];by_cases c:n<0;simp only[c,if_true];exact rfl;simp only[c,if_false];exact rfl|some a=>
  by_cases b:n=0;simp only[b,if_true];refine aB.bind d.ok (Jn d.ok a.block) λj x y e i=> ?_
  obtain⟨rfl,rfl⟩:=i;exact aA (.pointer (a.mono e));simp only[b,if_false];by_cases c:n<0;simp only[c,if_true];exact rfl;simp only[c,if_false];refine aB.bind d.ok (ny a.block) λj x y e i=> ?_
  subst i;cases x with
  |none=>exact rfl|some x=>
   refine aB.bind e.ok gD λv r z o q=> ?_
   obtain⟨rfl,rfl⟩:=q;simp only[a.off];split;exact aA (.pointer ⟨((a.mono e).mono o).block,rfl,a.spot⟩);exact rfl
def kn{g:Ren}(z:Ren.Ok P g)(t:az){p A:Option Addr}(hp:gq (dt g) p A){y o:ak}(x:bh S g y o):aB P S (VQ S) (movedNumber t (.pointer p) y) g (movedNumber t (.pointer A) o):=by
 unfold movedNumber;refine aB.bind z (bH z t) λq d Q f F=> ?_
 obtain⟨rfl,_⟩:=F;cases hp with
 |none=>have m:=pS (S:=S) f.ok t .none (x.mono f);cases d<;>first|exact rfl|exact m
 |some D=>
  rename_i a B;have m:aB P S (VQ S) (do
   let(a,lost)<-behindNumber a
   match<-Builtin.unsafeAdd_ #[] t #[.pointer (ae a),y]with
   |.pointer (ae b)=>asNumber b lost|v=>pure v) q (do
   let(a,lost)<-behindNumber B
   match<-Builtin.unsafeAdd_ #[] t #[.pointer (ae a),o]with
   |.pointer (ae b)=>asNumber b lost|v=>pure v):=by
   refine aB.bind f.ok (jO f.ok (D.mono f)) λI a b i j=> ?_
   obtain⟨L,M⟩:=a;obtain⟨N,O⟩:=b;obtain⟨u,w⟩:=j;simp only at u w;subst w;refine aB.bind i.ok (pS i.ok t (.some u) ((x.mono f).mono i)) λJ v U C H=> ?_
   cases H with|pointer E=>refine aB.bind C.ok (AU (.number _ E)) λK r T R G=>aA (.pointer ⟨G,rfl,rfl⟩)|eF=>exact aA .eF|bool b=>exact aA (.bool b)|int k n=>exact aA (.int k n)|string s=>exact aA (.string s)|fl l c=>exact aA (.fl l c)|slice l c h=>exact aA (.slice l c h)|r8=>exact aA .r8|map h=>exact aA (.map h)|oT=>exact aA .oT|func a b c d e=>exact aA (.func a b c d e)|nilFunc=>exact aA .nilFunc|iface t h=>exact aA (.iface t h)|nilIface=>exact aA .nilIface|agg a b=>exact aA (.agg a b)|tuple a b=>exact aA (.tuple a b)
  cases d<;>first|exact rfl|exact m
def tA{c:Ren}(g:Ren.Ok P c)(t:az){p j:Option Addr}(hp:gq (dt c) p j){y m:ak}(i:bh S c y m):aB P S (VQ S) (movedPointer t (.pointer p) y) c (movedPointer t (.pointer j) m):=by
 unfold movedPointer;cases hp with
 |none=>exact pS g t .none i|some d=>
  refine aB.bind (Q:=λc a b=>gq (λp q:Addr×Bool=>dt c p.1 q.1/\q.2=p.2) a b) g ?_ λh x y e f=> ?_
  unfold numberAt;refine aB.bind g (ny d.block) λh x y e f=> ?_
  subst f;cases x with
  |some x=>exact aA .none|none=>
   refine aB.bind e.ok (iR (e.le _ _ d.block)) λr o u s n=> ?_
   cases n with|number l d=>exact aA (.some ⟨d,rfl⟩)|_=>exact aA .none
  cases f with|none=>exact pS e.ok t (.some (d.mono e)) (i.mono e)|some k=>exact rfl
def yy{f:Ren}(q:Ren.Ok P f){a b d e:Addr}(m:dt f a d)(n:dt f b e):aB P S lq (Op.twoPlaces a b) f (Op.twoPlaces d e):=by
 unfold Op.twoPlaces;refine aB.bind q gD λs r l c p=> ?_
 obtain⟨rfl,rfl⟩:=p;have h:=m.mono c;have k:=n.mono c;have o:decide (a.block≥l.globals.size)=decide (d.block≥l.globals.size):=decide_eq_decide.2 (by have:=c.ok.OV _ _ h.block;omega);have i:(a.block !=b.block)=(d.block !=e.block):=by show(!(a.block==b.block))=(!(d.block==e.block));rw[xe c.ok h.block k.block]
 rw[i,o];split;exact rfl;refine aB.bind c.ok (pe c.ok h) λt x y g j=> ?_
 subst j;refine aB.bind g.ok (pe g.ok (k.mono g)) λu x y v j=> ?_
 subst j;exact aA rfl
def PL{c:Ren}(g:Ren.Ok P c)(k:IntKind){a b d f:Addr}(i:dt c a d)(j:dt c b f):aB P S (VQ S) (Op.addrSub k a b) c (Op.addrSub k d f):=aB.bind g (yy g i j) λl p q e h=>by subst h;exact aA (.int _ _)
def PK{c:Ren}(g:Ren.Ok P c)(op:BinOp){a b d f:Addr}(i:dt c a d)(j:dt c b f):aB P S (VQ S) (Op.addrCmp op a b) c (Op.addrCmp op d f):=aB.bind g (yy g i j) λk p q e h=>by subst h;cases op<;>first|exact aA (.bool _)|exact rfl
def Er{c:Ren}(l:Ren.Ok P c)(k:IntKind){a d:Addr}(f:dt c a d)(n:Int):aB P S (VQ S) (Op.addrMod k a n) c (Op.addrMod k d n):=by
 unfold Op.addrMod;refine aB.bind l (ny f.block) λm x y e j=> ?_
 subst j;cases x with
 |none=>exact rfl|some x=>
  refine aB.bind e.ok (fi e.ok _) λo i r b g=> ?_
  obtain⟨rfl,_⟩:=g;simp only;split;exact rfl;exact aB.bind b.ok (pe b.ok (f.mono (e.trans b))) λp x y q h=>by subst h;exact aA (.int _ _)
def NZ{d:Ren}{s g:Sem Bool}(i:Ren.Ok P d)(h:aB P S lq s d g)(f:Bool->Bool):aB P S (VQ S) (do pure (.bool (f (<-s)))) d (do pure (.bool (f (<-g)))):=aB.bind i h λj a b e c=>by subst c;exact aA (.bool _)
def Tv{d:Ren}(l:Ren.Ok P d){a b f g:Addr}(s:dt d a f)(t:dt d b g){o p:Type}{Q:Ren->o->p->Prop}{k:Addr->Addr->Sem o}{j:Addr->Addr->Sem p}(h:∀c x y m n,Ext P d c->dt c x m->dt c y n->aB P S Q (k x y) c (j m n)):aB P S Q (do k (<-behindNumber a).1 (<-behindNumber b).1) d (do j (<-behindNumber f).1 (<-behindNumber g).1):=aB.bind l (jO l s) λ_ _ _ e q=>aB.bind e.ok (jO e.ok (t.mono e)) λ_ _ _ i r=>h _ _ _ _ _ (e.trans i) (q.1.mono i) r.1
def XZ{c:Ren}(f:Ren.Ok P c){a d:Addr}(n:dt c a d){i j:Type}{Q:Ren->i->j->Prop}{k:Addr->Sem i}{e:Addr->Sem j}(h:∀b x g,Ext P c b->dt b x g->aB P S Q (k x) b (e g)):aB P S Q (do k (<-behindNumber a).1) c (do e (<-behindNumber d).1):=aB.bind f (jO f n) λ_ _ _ l m=>h _ _ _ l m.1
def Wk{m:Ren}(i:Ren.Ok P m)(op:BinOp)(t:az){x l y u:ak}(B:bh S m x l)(r:bh S m y u):aB P S (VQ S) (binOp op t x y) m (binOp op t l u):=by
 have s:aB P S lq (Op.equal t x y) m (Op.equal t l u):=Ny t i B r;have c:=NZ i s id;have f:=NZ i s (!·);cases B with
 |int k a=>
  cases r with
  |int D b=>
   cases op<;>first
    |(simp only[binOp];exact Ws i _ _ _ _ _)
    |(by_cases h:k=D
      subst h;simp only[binOp,ne_eq,not_true_eq_false,if_false];first|exact AP _ _ _ _|exact Ty i _ _ _ _|exact Ex _ _ _ _|exact Tx _ _ _
      simp only[binOp,ne_eq,h,not_false_eq_true,if_true];exact rfl)
  |pointer q=>cases op<;>first|exact rfl|exact c|exact f|exact kn i t (.some q) (.int _ _)|exact XZ i q λo x l e h=>Er e.ok _ h _
  |eF=>cases op<;>first|exact rfl|exact c|exact f|exact kn i t .none (.int _ _)
  |_=>cases op<;>first|exact rfl|exact c|exact f
 |string a=>
  cases r with
  |string b=>cases op<;>(simp only[binOp];exact vj _ _ _)|pointer q=>cases op<;>first|exact rfl|exact c|exact f
  |eF=>cases op<;>first|exact rfl|exact c|exact f
  |_=>cases op<;>first|exact rfl|exact c|exact f
 |pointer p=>
  have g:∀k n,aB P S (VQ S) (do if(<-underlying t) matches .unsafePointer then movedPointer t (.pointer (ae _)) (.int k n)else movedNumber t (.pointer (ae _)) (.int k n)) m (do if(<-underlying t) matches .unsafePointer then movedPointer t (.pointer (ae _)) (.int k n)else movedNumber t (.pointer (ae _)) (.int k n)):=λk n=>by
   refine aB.bind i (bH i t) λA d C j z=> ?_
   obtain⟨rfl,_⟩:=z;cases d<;>first|exact kn j.ok t (.some (p.mono j)) (.int _ _)|(simp only[if_true];exact tA j.ok t (.some (p.mono j)) (.int _ _))
  cases r with
  |int k b=>cases op<;>first|exact rfl|exact c|exact f|exact g _ _|exact kn i t (.some p) (.int _ _)|exact XZ i p λo x l e h=>Er e.ok _ h _
  |pointer q=>cases op<;>first|exact rfl|exact c|exact f|exact Tv i p q λo x y l u e v w=>PL e.ok _ v w|exact Tv i p q λo x y l u e v w=>PK e.ok _ v w
  |eF=>cases op<;>first|exact rfl|exact c|exact f
  |_=>cases op<;>first|exact rfl|exact c|exact f
 |eF=>
  have g:∀k n,aB P S (VQ S) (do if(<-underlying t) matches .unsafePointer then movedPointer t (.pointer ah) (.int k n)else movedNumber t (.pointer ah) (.int k n)) m (do if(<-underlying t) matches .unsafePointer then movedPointer t (.pointer ah) (.int k n)else movedNumber t (.pointer ah) (.int k n)):=λk n=>by
   refine aB.bind i (bH i t) λA d C j z=> ?_
   obtain⟨rfl,_⟩:=z;cases d<;>first|exact kn j.ok t .none (.int _ _)|(simp only[if_true];exact tA j.ok t .none (.int _ _))
  cases r with
  |int k b=>cases op<;>first|exact rfl|exact c|exact f|exact g _ _|exact kn i t .none (.int _ _)
  |_=>cases op<;>first|exact rfl|exact c|exact f
 |_=>cases op<;>first|exact c|exact f|(cases r<;>exact rfl)
end
inductive Kd
 |any
 |sl (e:az)
 |pt (e:az)
def Kd.UB:Kd->Kd->Bool|.any,.any=>ar|.sl a,.sl b=>a==b|.pt a,.pt b=>a==b|_,_=>au
def Kd.vT:∀{a b:Kd},a.UB b=ar->a=b|.any,.any,_=>rfl|.sl a,.sl b,h=>by rw[show a=b by simpa[Kd.UB]using h]|.pt a,.pt b,h=>by rw[show a=b by simpa[Kd.UB]using h]
structure fg where
 fn:bG->Bool
 int:az->Bool
 bad:List Tmp:=[]
 kc:Tmp->Kd:=λ_=>.any
 bd:bG->List Tmp:=λ_=>[]
 kd:bG->Tmp->Kd:=λ_ _=>.any
 old:Nat:=0
 mem:Addr->Option Int:=λ_=>ah
 FC:∀a x,mem a=ae x->a.block<old:=by intro a x h;simp at h
 elem:az->Option az:=λ_=>ah
 flat:az->Option Nat:=λ_=>ah
 ext:bG->Bool:=λ_=>au
def fg.cl(c:fg):fg:={c with bad:=[],kc:=λ_=>.any}
def fg.at(c:fg)(f:bG):fg:={c with bad:=c.bd f,kc:=c.kd f}
def zx(c:fg)(e:az)(a:Addr):Prop:=a.spot=ah/\∃n,c.flat e=ae n/\∀j,j<n->∃x,c.mem ⟨a.block,a.off+j,ah⟩=ae x
def jG(c:fg):Kd->ak->Prop
 |.any,_=>True|.sl e,v=>∃a n k,v=.slice (ae a) n k/\∀m,c.flat e=ae m->∀i,i<n->zx c e (a.add (i*m))
 |.pt e,v=>∃a,v=.pointer (ae a)/\zx c e a
def gd:Nat->ak->Bool|_,.bool _|_,.int ..|_,.string _|_,.pointer ah|_,.slice ah _ _|_,.map ah|_,.chan ah|_,.nilFunc|_,.nilIface=>ar|n+1,.agg c|n+1,.tuple c=>c.all (gd n)|n+1,.iface _ v=>gd n v|_,_=>au
def ed(c:fg):ca->Bool|.tmp t=> !c.bad.contains t|.const v=>gd 4 v|.global _=>au|.func f=>c.fn f
def En:Builtin->Bool|.append|.cap|.copy|.delete|.len|.max|.min=>ar|_=>au
def sC(c:fg)(f:bG)(j:Nat)(x:ca):Bool:=
 ed c x||match x with|.tmp t=>c.bad.contains t&&(c.bd f).contains j&&((c.kd f j).UB .any||(c.kd f j).UB (c.kc t))|_=>au
def kx(c:fg)(f:bG):Nat->List ca->Bool|_,[]=>ar|j,x::l=>sC c f j x&&kx c f (j+1) l
def nW(c:fg)(k:Call):Bool:=
 match k.callee with|.builtin b=>En b&&k.args.all (ed c)|.invoke _ _=>au|.value (.func f)=>(c.fn f&&kx c f 0 k.args.toList)||(c.ext f&&k.args.all (ed c))|.value f=>ed c f&&k.args.all (ed c)
def oz(c:fg):Op->Bool|.move x|.assign x|.box _ x|.load _ x|.nilCheck x|.unOp _ _ x|.fieldAddr _ x _|.field _ x _|.range _ x|.next x _|.entry x|.extract x _=>ed c x|.pick x a b=>ed c x&&ed c a&&ed c b|.alloc _=>ar|.build _ g|.buildSlice _ _ g=>g.all λq=>ed c q.2|.store _ a v|.binOp _ _ a v _|.makeSlice _ a v|.indexAddr _ a v|.index _ a v|.lookup _ a v _=>ed c a&&ed c v|.convert s d x=>c.int s&&c.int d&&ed c x|.makeFunc f first e=>(match f with|.func f=>c.fn f|_=>au)&&first.all (ed c)&&e.all (ed c)|.makeMap _ r=>r.all (ed c)|.slice _ x l h m=>ed c x&&l.all (ed c)&&h.all (ed c)&&m.all (ed c)|.mapUpdate _ m k v=>ed c m&&ed c k&&ed c v|.call k=>nW c k|.makeInterface _ x=>ed c x|.typeAssert x _ _ b=> !b&&ed c x|_=>au
def zP(c:fg)(o:Oper)(k:Kd):Bool:=match o.dst with|some d=>c.bad.contains d&&((c.kc d).UB .any||(c.kc d).UB k)|none=>au
def yP(c:fg)(o:Oper):Bool:=match o.op with|.move (.tmp t)=>c.bad.contains t&&zP c o (c.kc t)|.load e (.tmp t)=>c.bad.contains t&&(c.kc t).UB (.pt e)|.indexAddr s (.tmp t) i=>c.bad.contains t&&ed c i&&(match c.elem s with|some e=>(c.kc t).UB (.sl e)&&zP c o (.pt e)|none=>au)|.call k=>(match k.callee with|.builtin .len=>ar|_=>au)&&(match k.args.toList,k.argTypes.toList with|[.tmp t],[s]=>c.bad.contains t&&(match c.elem s with|some e=>(c.kc t).UB (.sl e)|none=>au)|_,_=>au)|_=>au
def jL(c:fg)(o:Oper):Bool:=oz c o.op||yP c o
def dj(c:fg):Code->Bool|.skip|.exit _|.ret=>ar|.region _ d _=>d.all (jL c)|.seq a b=>dj c a&&dj c b|.cond x a b=>ed c x&&dj c a&&dj c b|.block _ b|.loop b|.scope b=>dj c b|.rangeFunc f _ a b=>c.bad.isEmpty&&ed c f&&dj c a&&dj c b|.label _|.goto _|.refuse _=>au
def fg.sig(c:fg):gM:={fn:=λf=>c.fn f=ar,code:=λx=>dj c.cl x=ar,OV:=λ_=>False,mem:=c.mem,ext:=λf=>c.ext f=ar}
def oc(b:List Tmp):ResultVar->Bool|.tmp t=> !b.contains t|.cell a _=> !b.contains a
structure fg.Fits(c:fg) (P:aO):Prop where
 fn:∀f,c.fn f=ar->∃F b,P.funcs[f]? =ae F/\F.body=ae b/\dj (c.at f) b=ar/\F.name≠ "runtime.NumGoroutine" /\F.results.toList.all (oc (c.bd f))=ar
 int:∀t,c.int t=ar->∃k,P.underlying t=ae (.int k)
 zero:∀t i v,P.info? t=ae i->i.zero=ae v->gd 6 v=ar
 elem:∀t e,c.elem t=ae e->P.underlying t=ae (.slice e)/\∃n,c.flat e=ae n
 flat:∀t n,c.flat t=ae n->(∃i,P.info? t=ae i/\i.size=n)/\∃fs,P.underlying t=ae (.struct fs)
 ext:∀f,c.ext f=ar->∃F,P.funcs[f]? =ae F/\F.name≠ "runtime.NumGoroutine" /\F.body=ah/\Extern.findNext F=ah/\Extern.find F=ae Extern.MapsClone.clone
section
variable{P:aO} {c:fg}
def tX{S:gM}:∀(n:Nat)(v:ak),gd n v=ar->sQ S v:=by
 intro n
 induction n with
 |zero=>
  intro v h d;cases v with
  |bool b=>exact .bool b|int k n=>exact .int k n|string s=>exact .string s|pointer p=>cases p<;>first|exact .eF|cases h
  |slice p l c=>cases p<;>first|exact .fl l c|cases h
  |map p=>cases p<;>first|exact .r8|cases h
  |chan p=>cases p<;>first|exact .oT|cases h
  |nilFunc=>exact .nilFunc|nilIface=>exact .nilIface|_=>cases h
 |succ n g=>
  intro v h d;have arr:∀c:Array ak,c.all (gd n)=ar->∀(i:Nat) a b,c[i]? =ae a->c[i]? =ae b->bh S d a b:=by intro c j i a b e f;rw[e]at f;obtain rfl:=aX f;obtain⟨m,rfl⟩:=aE.1 e;exact g _ (eK.1 j i m) d
  cases v with
  |bool b=>exact .bool b|int k n=>exact .int k n|string s=>exact .string s|pointer p=>cases p<;>first|exact .eF|cases h
  |slice p l c=>cases p<;>first|exact .fl l c|cases h
  |map p=>cases p<;>first|exact .r8|cases h
  |chan p=>cases p<;>first|exact .oT|cases h
  |nilFunc=>exact .nilFunc|nilIface=>exact .nilIface|agg x=>exact .agg rfl (arr x h)|tuple x=>exact .tuple rfl (arr x h)|iface t v=>exact .iface t (g v h d)|_=>cases h
def fg.Fits.cl(a:c.Fits P):c.cl.Fits P:=⟨a.fn,a.int,a.zero,a.elem,a.flat,a.ext⟩
def fg.Fits.at(a:c.Fits P)(f:bG):(c.at f).Fits P:=⟨a.fn,a.int,a.zero,a.elem,a.flat,a.ext⟩
def fg.Fits.jX(a:c.Fits P):qC P c.sig:=λt i v h k=>tX 6 v (a.zero t i v h k)
structure nA(c:fg) (f:bG) (π:Ren) (a a':Array ak):Prop where
 size:a.size=a'.size
 at_:∀(j:Nat) u v,a[j]? =ae u->a'[j]? =ae v->bh c.sig π u v\/(j∈c.bd f/\u=v/\jG c (c.kd f j) u)
def nA.of{f:bG}{d:Ren}{a b:Array ak}(h:cz c.sig d a b):nA c f d a b:=⟨h.size,λj u v e g=>.inl (h.at_ j u v e g)⟩
def nA.mono{f:bG}{g b:Ren}(e:Ext P g b){a d:Array ak}(h:nA c f g a d):nA c f b a d:=⟨h.size,λj u v i k=>(h.at_ j u v i k).imp (·.mono e) id⟩
inductive zy(c:fg) (π:Ren):Next->Next->Prop
 |value {v v'}:bh c.sig π v v'->zy c π (.value v) (.value v')
 |skip:zy c π .skip .skip
 |enter {f a a'}:c.fn f=ar->nA c f π a a'->zy c π (.enter f a) (.enter f a')
 |round {l l' f t t' a b}:π l l'->cz c.sig π t t'->c.sig.code a->c.sig.code b->zy c π (.round l f t a b) (.round l' f t' a b)
abbrev NQ(c:fg):Ren->Next->Next->Prop:=λd a b=>zy c d a b
def l9(c:fg)(b:Ren)(d a:ca->ak):Prop:=∀o,ed c o=ar->bh c.sig b (d o) (a o)
def l9.arr{k:Ren}{l d:ca->ak}(h:l9 c k l d){f:Array ca}(n:f.all (ed c)=ar):cz c.sig k (f.map l) (f.map d):=by refine⟨by simp,λi a b g e=> ?_⟩;rw[gj]at g e;obtain⟨o,j,rfl⟩:=aF.1 g;rw[j]at e;obtain rfl:=aX e;obtain⟨m,rfl⟩:=aE.1 j;exact h _ (eK.1 n i m)
def l9.opt{b:Ren}{d a:ca->ak}(h:l9 c b d a){x:Option ca}(e:x.all (ed c)=ar):gq (bh c.sig b) (x.map d) (x.map a):=by
 cases x with|none=>exact .none|some o=>exact .some (h o e)
def l9.parts{e:Ren}{f d:ca->ak}(h:l9 c e f d){b:Array (Nat×ca)}(g:(b.all λq=>ed c q.2)=ar):dh (xX c.sig e) (b.map λ(i,x)=>(i,f x)).toList (b.map λ(i,x)=>(i,d x)).toList:=by
 rw[Array.toList_map,Array.toList_map];have a:b.toList.all (λq=>ed c q.2)=ar:=by rw[Array.all_toList];exact g
 generalize b.toList=l at a
 induction l with|nil=>exact .nil|cons q l j=>rw[List.all_cons,aG]at a;exact .cons ⟨rfl,h _ a.1⟩ (j a.2)
def gV{a:Ren}(e:Ren.Ok P a){s b:Sem ak}(h:aB P c.sig (VQ c.sig) s a b):aB P c.sig (NQ c) (do pure (.value (<-s))) a (do pure (.value (<-b))):=aB.bind e h λ_ _ _ _ d=>aA (.value d)
def LS{a:Ren}(d:Ren.Ok P a){s b:Sem Unit}(h:aB P c.sig lq s a b):aB P c.sig (NQ c) (do s;pure .skip) a (do b;pure .skip):=aB.bind d h λ_ _ _ _ _=>aA .skip
def AK{d:Ren}(m:c.Fits P)(n:Ren.Ok P d){f:bG}(g:c.fn f=ar){a e:Array ak}(l:nA c f d a e):aB P c.sig (NQ c) (callFunc f a) d (callFunc f e):=by
 unfold callFunc;refine aB.bind n gD λo p r h hp=> ?_
 obtain⟨rfl,rfl⟩:=hp;obtain⟨F,b,i,j,q,k,_⟩:=m.fn f g;simp only[i,j,Option.isNone_some,cK,if_false,beq_eq_false_iff_ne.2 k];exact aA (.enter g (l.mono h))
def Wm{S:gM}{d:Ren}(n:Ren.Ok P d){a b:Array ak}(g:cz S d a b):aB P S (VQ S) (Extern.MapsClone.clone a) d (Extern.MapsClone.clone b):=by
 obtain⟨c,m⟩:=g;obtain⟨l⟩:=a;obtain⟨f⟩:=b;have c:l.length=f.length:=c
 match l,f,c with
 |[],_,_=>exact rfl|[x],[p],_=>
  have h:=m 0 x p rfl rfl;cases h with
  |iface t hm=>
   cases hm with
   |map j=>
    refine aB.bind n (iR j) λq o w e i=> ?_
    cases i with|map k hm=>exact aB.bind e.ok (AU (.map k hm)) λr u v s h=>aA (.iface _ (.map h))|_=>exact rfl
   |_=>exact rfl
  |_=>exact rfl
 |_::_::_,_,_=>exact rfl
def PO{d:Ren}(o:c.Fits P)(q:Ren.Ok P d){f:bG}(h:c.ext f=ar){a e:Array ak}(n:cz c.sig d a e):aB P c.sig (NQ c) (callFunc f a) d (callFunc f e):=by
 unfold callFunc;refine aB.bind q gD λr p t g hp=> ?_
 obtain⟨rfl,rfl⟩:=hp;obtain⟨F,i,j,k,l,m⟩:=o.ext f h;simp only[i,k,l,m,Option.isNone_none,if_true,beq_eq_false_iff_ne.2 j,cK,if_false];refine aB.bind (Q:=lq) g.ok ⟨.inr ⟨f,rfl,h⟩,_,rfl,(),rfl,rfl⟩ λs _ _ b _=> ?_
 exact gV b.ok (Wm b.ok (n.mono (g.trans b)))
def yO{a:Ren}(b:Ren.Ok P a)(t:az){x e:ak}(h:bh c.sig a x e):aB P c.sig (VQ c.sig) (Instr.makeInterface t x) a (Instr.makeInterface t e):=by
 unfold Instr.makeInterface;refine aB.bind b (bH b t) λi d j f g=> ?_
 obtain⟨rfl,_⟩:=g;cases d<;>first|exact rfl|exact aA (.iface t (h.mono f))
def Ga{o:Ren}(j:Ren.Ok P o)(s t:az){x A:ak}(h:bh c.sig o x A):aB P c.sig (VQ c.sig) (Instr.typeAssert x s t au) o (Instr.typeAssert A s t au):=by
 unfold Instr.typeAssert;refine aB.bind j (bH j t) λG d B g l=> ?_
 obtain⟨rfl,_⟩:=l;have z:=h.mono g;have e:∀{f:Ren}(u v:Option az)(m:String),Ren.Ok P f->aB P c.sig (VQ c.sig) (runtimePanic (.typeAssertion u v t m):Sem ak) f (runtimePanic (.typeAssertion u v t m):Sem ak):=λu v m j=>by
  refine aB.bind j gD λH p J k hp=> ?_
  obtain⟨rfl,rfl⟩:=hp;refine aB.bind k.ok (Q:=λ_ a b=>a=b) (aB.bind k.ok (bH k.ok _) λw d B C l=> ?_) λw a b C D=> ?_
  obtain⟨rfl,_⟩:=l;cases d<;>first|exact rfl|exact aA rfl
  exact .inr λr=>⟨_,rfl,rfl⟩
 cases d with
 |interface F=>
  cases z with
  |nilIface=>simp only[cK,if_false];exact e _ _ _ g.ok|iface q n=>
   simp only[cK,if_false];refine aB.bind g.ok (fi g.ok q) λf i I y E=> ?_
   obtain⟨rfl,_⟩:=E;cases Instr.missingMethod F i.methods with|none=>exact aA (.iface q (n.mono y))|some m=>exact e _ _ _ y.ok
  |_=>exact rfl
 |_=>
  cases z with|nilIface=>simp only[cK,if_false];exact e _ _ _ g.ok|iface q n=>simp only[cK,if_false];split;exact aA n;exact e _ _ _ g.ok|_=>exact rfl
def ry{S:gM}{c:Ren}(i:Ren.Ok P c){l d:Nat}(h:c l d):aB P S (λc a b=>xW S c a b) (Instr.getLoop l) c (Instr.getLoop d):=by
 unfold Instr.getLoop;refine aB.bind i (iR h) λj o k e g=> ?_
 cases g with|loop f=>exact aA f|_=>exact rfl
def LC{S:gM}{g:Ren}:∀(c:List Tmp){x y:List ak},dh (bh S g) x y->∀{t d:Array ak},cz S g t d->cz S g ((c.zip x).foldl (λb(p,a)=>b.setIfInBounds p a) t) ((c.zip y).foldl (λb(p,a)=>b.setIfInBounds p a) d):=by
 intro c
 induction c with
 |nil=>intro x y _ t d h;exact h|cons p c j=>
  intro x y f t d h;cases f with|nil=>exact h|cons e i=>exact j i (fO.set h e)
def Ww{d:Ren}(k:Ren.Ok P d){l j:Nat}(h:d l j){a g:Array ak}(i:cz c.sig d a g):aB P c.sig (NQ c) (Instr.yield l a) d (Instr.yield j g):=by
 unfold Instr.yield;refine aB.bind k (ry k h) λm r n e b=> ?_
 rw[b.params,<-i.size];split;exact rfl;have f:=cz.mono e i;have:=LC r.params.toList (dh.lx f) b.tmps;refine aA ?_;rw[b.fn,b.assign,b.body];refine .round (e.le _ _ h) ?_ b.Zt b.okB;rw[<-Array.foldl_toList,<-Array.foldl_toList,Array.toList_zip,Array.toList_zip];exact this
end
section
variable{P:aO} {c:fg}
def Eu{e:Ren}(i:c.Fits P)(a:Ren.Ok P e)(b:Builtin)(g:En b=ar)(d:Array az)(t:az)(f:Array Bool){x y:Array ak}(h:cz c.sig e x y):aB P c.sig (NQ c) (builtin b d t f x) e (builtin b d t f y):=by
 cases b with|append=>exact gV a (Tt i.jX a d t h)|cap=>exact gV a (abm a d t h)|copy=>exact gV a (ZA a d t h)|delete=>exact gV a (Tw a d t h)|len=>exact gV a (abn a d t h)|max=>exact gV a (abo a d t h)|min=>exact gV a (abp a d t h)|_=>cases g
def yu{b:Ren}(m:c.Fits P)(g:Ren.Ok P b){f h:ak}(n:bh c.sig b f h){a a':Array ak}(i:cz c.sig b a a'):aB P c.sig (NQ c) (do let d<-gS f a;invoke d.target d.args) b (do let d<-gS h a';invoke d.target d.args):=by
 cases n with
 |func e r k s l=>
  have j:cz c.sig b _ _:=⟨r,k⟩;have q:cz c.sig b _ _:=⟨s,l⟩;cases e with|func p=>exact AK m g p (.of (cz.append (cz.append j i) q))|yield o=>exact Ww g o (cz.append j i)
 |nilFunc=>exact pf g|_=>exact rfl
structure EvB(c:fg) (π:Ren) (ρ ρ':ca->ak):Prop where
 fn:∀f,ρ (.func f)=.func (.func f) #[] #[]/\ρ' (.func f)=.func (.func f) #[] #[]
 bad:∀t∈c.bad,bh c.sig π (ρ (.tmp t)) (ρ' (.tmp t))\/(ρ (.tmp t)=ρ' (.tmp t)/\jG c (c.kc t) (ρ (.tmp t)))
def EvB.arg{i:Ren}{e a:ca->ak}(h:l9 c i e a)(n:EvB c i e a){f:bG}{j:Nat}{x:ca}(b:sC c f j x=ar):bh c.sig i (e x) (a x)\/(j∈c.bd f/\e x=a x/\jG c (c.kd f j) (e x)):=by
 unfold sC at b;rcases gJ _ _▸b with b|b;exact .inl (h x b);cases x with
 |tmp t=>simp only[aG,gJ]at b;obtain⟨⟨k,l⟩,d⟩:=b;rcases n.bad t (by simpa using k)with g|⟨g,m⟩;exact .inl g;refine .inr ⟨by simpa using l,g,?_⟩;rcases d with d|d;rw[Kd.vT d];trivial;rw[Kd.vT d];exact m
 |_=>cases b
def EvB.args{n:Ren}{j b:ca->ak}(m:l9 c n j b)(s:EvB c n j b){f:bG}:∀(l:List ca)(a:Nat),kx c f a l=ar->∀(i:Nat) o,l[i]? =ae o->bh c.sig n (j o) (b o)\/(a+i∈c.bd f/\j o=b o/\jG c (c.kd f (a+i)) (j o)):=by
 intro l
 induction l with
 |nil=>intro a _ i o g;simp at g|cons x l u=>
  intro a h i o g;simp only[kx,aG]at h;cases i with
  |zero=>
   simp only[List.getElem?_cons_zero,dm]at g;subst g;have d:=h.1;unfold sC at d;rcases gJ _ _▸d with d|d;exact .inl (m x d);cases x with
   |tmp t=>simp only[aG,gJ]at d;obtain⟨⟨p,q⟩,e⟩:=d;rcases s.bad t (by simpa using p)with k|⟨k,r⟩;exact .inl k;refine .inr ⟨by simpa using q,k,?_⟩;rcases e with e|e;rw[show a+0=a from rfl,Kd.vT e];trivial;rw[show a+0=a from rfl,Kd.vT e];exact r
   |_=>cases d
  |succ i=>have:=u (a+1) h.2 i o (by simpa using g);rwa[show a+1+i=a+(i+1)by omega]at this
def EvB.Xo{e:Ren}{g a:ca->ak}(d:l9 c e g a)(l:EvB c e g a){f:bG}{x:Array ca}(h:kx c f 0 x.toList=ar):nA c f e (x.map g) (x.map a):=by refine⟨by simp,λj u v k b=> ?_⟩;rw[gj]at k b;obtain⟨o,i,rfl⟩:=aF.1 k;rw[i]at b;obtain rfl:=aX b;have:=EvB.args d l x.toList 0 h j o (by simpa using i);rwa[Nat.zero_add]at this
def Zz{j:Ren}(m:c.Fits P)(o:Ren.Ok P j){l g:ca->ak}(h:l9 c j l g)(p:EvB c j l g)(k:Call)(a:nW c k=ar)(t:az):aB P c.sig (NQ c) (do let d<-resolve l k t;invoke d.target d.args) j (do let d<-resolve g k t;invoke d.target d.args):=by
 unfold nW at a;unfold resolve;cases i:k.callee with
 |builtin b=>rw[i]at a;simp only[aG]at a;exact Eu m o b a.1 _ _ _ (h.arr a.2)|invoke r n=>rw[i]at a;cases a|value f=>
  rw[i]at a;have gen:∀f,(ed c f&&k.args.all (ed c))=ar->aB P c.sig (NQ c) (do let d<-gS (l f) (k.args.map l);invoke d.target d.args) j (do let d<-gS (g f) (k.args.map g);invoke d.target d.args):=λf a=>by rw[aG]at a;exact yu m o (h f a.1) (h.arr a.2)
  cases f with
  |func f=>
   simp only[gJ,aG]at a;have main:aB P c.sig (NQ c) (callFunc f (k.args.map l)) j (callFunc f (k.args.map g)):=by rcases a with a|a;exact AK m o a.1 (EvB.Xo h p a.2);exact PO m o a.1 (h.arr a.2)
   obtain⟨q,s⟩:=p.fn f;simp only[q,s];have e:∀x:Array ak,(do let d<-gS (.func (.func f) #[] #[]) x;invoke d.target d.args)=callFunc f ((#[]++x)++#[]):=λx=>rfl
   rw[e,e];simpa using main
  |tmp x=>exact gen _ a|const x=>exact gen _ a|global x=>exact gen _ a
def yv{S:gM}:∀(d:Nat)(t:az){v:Ren}{x D y E:ak},Ren.Ok P v->bh S v x D->bh S v y E->aB P S lq (Op.eqGuardIn d t x y) v (Op.eqGuardIn d t D E):=by
 intro d
 induction d with
 |zero=>intros;exact rfl|succ d I=>
  intro t v x D y E J i j;refine aB.bind J (bH J t) λk N O r V=> ?_
  obtain⟨rfl,_⟩:=V;have i:=i.mono r;have j:=j.mono r;cases N with
  |interface Z=>cases i<;>first|exact aA rfl|(cases j<;>exact aA rfl)
  |struct U=>
   cases i with
   |agg p z=>
    cases j with
    |agg u A=>
     have i:cz S k _ _:=⟨p,z⟩;have j:cz S k _ _:=⟨u,A⟩;refine aB.bind (Q:=lq) r.ok (AN r.ok (λq g f s=> ?_) U _) λq s W g h=> ?_
     split;refine aB.bind g.ok (nX g.ok _ (cz.mono g i) _) λF a K l B=> ?_
     refine aB.bind l.ok (nX l.ok _ (cz.mono (g.trans l) j) _) λG b L o C=> ?_
     refine aB.bind o.ok (I _ o.ok (B.mono o) C) λH c M R h=> ?_
     subst h;cases c<;>exact aA rfl;exact aA rfl;subst h;obtain⟨p,u⟩:=s;cases p<;>exact aA rfl
    |_=>exact aA rfl
   |_=>exact aA rfl
  |array n T=>
   cases i with
   |agg p z=>
    cases j with
    |agg u A=>
     have i:cz S k _ _:=⟨p,z⟩;have j:cz S k _ _:=⟨u,A⟩;refine aB.bind r.ok (fI r.ok T) λX m Y w h=> ?_
     subst h;refine aB.bind (Q:=lq) w.ok (AO w.ok (λq g f s=> ?_) _ _) λq s W g h=> ?_
     have e:=w.trans g;refine aB.bind g.ok (nX g.ok _ (cz.mono e i) _) λF a K l B=> ?_
     refine aB.bind l.ok (nX l.ok _ (cz.mono (e.trans l) j) _) λG b L o C=> ?_
     refine aB.bind o.ok (I _ o.ok (B.mono o) C) λH c M R h=> ?_
     subst h;cases c<;>exact aA rfl;subst h;obtain⟨p,u⟩:=s;cases p<;>exact aA rfl
    |_=>exact aA rfl
   |_=>exact aA rfl
  |_=>exact aA rfl
def PR{S:gM}{f:Ren}(l:Ren.Ok P f)(op:BinOp)(t:az)(x y:ca){a i b j:ak}(w:bh S f a i)(r:bh S f b j):aB P S lq (eqGuard op t x y a b) f (eqGuard op t x y i j):=by
 have z:aB P S lq (do if<-Op.eqGuardIn Op.maxDepth t .nilIface .nilIface then unsupported (.noEntry "binop/eql: two nil values of an interface type with methods, neither of them the literal nil")) f
  (do if<-Op.eqGuardIn Op.maxDepth t .nilIface .nilIface then unsupported (.noEntry "binop/eql: two nil values of an interface type with methods, neither of them the literal nil")):=by
  refine aB.bind l (yv _ t l .nilIface .nilIface) λo c u e h=> ?_
  subst h;cases c with|true=>exact rfl|false=>exact aA rfl
 have g:(op=.eql\/op=.neq)->aB P S lq (eqGuard op t x y a b) f (eqGuard op t x y i j):=by
  intro d;cases w with
  |nilIface=>
   cases r with
   |nilIface=>rcases d with rfl|rfl<;>cases x<;>cases y<;>first|exact aA rfl|exact z
   |_=>rcases d with rfl|rfl<;>exact aA rfl
  |agg s h=>
   cases r with
   |agg B v=>
    rename_i D n C m;have main:aB P S lq (do
     if !(<-program).eqGuardType (<-program).depth t then return
     if<-Op.eqGuardIn Op.maxDepth t (.agg D) (.agg C)then unsupported (.noEntry "binop/eql: two nil values of an interface type with methods, in a part of a struct or an array")) f (do
     if !(<-program).eqGuardType (<-program).depth t then return
     if<-Op.eqGuardIn Op.maxDepth t (.agg n) (.agg m)then unsupported (.noEntry "binop/eql: two nil values of an interface type with methods, in a part of a struct or an array")):=by
     refine aB.bind l gD λo p A q hp=> ?_
     obtain⟨rfl,rfl⟩:=hp;refine aB.bind q.ok gD λE p A k hp=> ?_
     obtain⟨rfl,rfl⟩:=hp;split;exact aA rfl;have e:=q.trans k;refine aB.bind k.ok (yv _ t k.ok ((bh.agg s h).mono e) ((bh.agg B v).mono e)) λF c u G h=> ?_
     subst h;cases c with|true=>exact rfl|false=>exact aA rfl
    rcases d with rfl|rfl<;>exact main
   |_=>rcases d with rfl|rfl<;>exact aA rfl
  |_=>rcases d with rfl|rfl<;>exact aA rfl
 cases op<;>first|exact g (.inl rfl)|exact g (.inr rfl)|exact aA rfl
def LQ{g:Ren}(f:Ren.Ok P g){x i:ak}(h:bh c.sig g x i):aB P c.sig (NQ c) (execOp (λ_=>x) {dst:=ah,op:=.nilCheck (.tmp 0),type:=0,pos:= "",after:=#[],guard:=ah}) g (execOp (λ_=>i) {dst:=ah,op:=.nilCheck (.tmp 0),type:=0,pos:= "",after:=#[],guard:=ah}):=by
 cases h with
 |eF=>exact pf f|nilIface=>exact pf f|nilFunc=>exact pf f|func j a b d e=>
  cases j with|func s=>exact aA (.value (.func (.func s) a b d e))|yield s=>exact aA (.value (.func (.yield s) a b d e))
 |bool b=>exact aA (.value (.bool b))|int k n=>exact aA (.value (.int k n))|string s=>exact aA (.value (.string s))|pointer h=>exact aA (.value (.pointer h))|fl l c=>exact aA (.value (.fl l c))|slice l c h=>exact aA (.value (.slice l c h))|r8=>exact aA (.value .r8)|map h=>exact aA (.value (.map h))|oT=>exact aA (.value .oT)|iface t h=>exact aA (.value (.iface t h))|agg a b=>exact aA (.value (.agg a b))|tuple a b=>exact aA (.value (.tuple a b))
def AL{B:Ren}(q:c.Fits P)(p:Ren.Ok P B){F z:ca->ak}(g:l9 c B F z)(H:EvB c B F z)(o:Oper)(j:oz c o.op=ar):aB P c.sig (NQ c) (execOp F o) B (execOp z o):=by
 obtain⟨G,op,w,pos,after,D⟩:=o;simp only at j;cases op with
 |move x=>exact aA (.value (g x j))|assign x=>exact aA (.value (g x j))|pick x a b=>
  simp only[oz,aG]at j;exact aB.bind p (AJ (g x j.1.1)) λE u v e h=>by
   subst h;cases u with|true=>exact aA (.value ((g a j.1.2).mono e))|false=>exact aA (.value ((g b j.2).mono e))
 |alloc C=>exact gV p (Wi q.jX p C)|box C x=>exact gV p (abl p C (g x j))|build t I=>exact gV p (Wl q.jX p t (g.parts j))|buildSlice t n I=>exact gV p (FZ q.jX p t n (g.parts j))|load t a=>exact gV p (Ji p t (g a j))|store t a x=>simp only[oz,aG]at j;exact LS p (P0 p t (g a j.1) (g x j.2))|nilCheck x=>exact LQ p (g x j)|binOp op t x y u=>simp only[oz,aG]at j;exact gV p (aB.bind p (PR p op t x y (g x j.1) (g y j.2)) λE _ _ e _=>Wk e.ok op t ((g x j.1).mono e) ((g y j.2).mono e))|unOp op t x=>exact gV p (Wv op (g x j))|convert s d x=>simp only[oz,aG]at j;exact gV p (F3 p s d (q.int d j.1.2) (q.int s j.1.1) (g x j.2))|makeFunc f first A=>
  simp only[oz,aG]at j;cases f with|func f=>exact gV p (LN (.func j.1.1) (g.arr j.1.2) (g.arr j.2))|_=>exact absurd j.1.1 (by simp)
 |makeMap t r=>exact gV p (PX p t (g.opt j))|makeSlice t l k=>simp only[oz,aG]at j;exact gV p (Jj q.jX p t (g l j.1) (g k j.2))|slice t x K J L=>simp only[oz,aG]at j;exact gV p (PZ p t (g x j.1.1.1) (g.opt j.1.1.2) (g.opt j.1.2) (g.opt j.2))|fieldAddr s x f=>exact gV p (PV p s (g x j) f)|field s x f=>exact gV p (Wo p s (g x j) f)|indexAddr t x i=>simp only[oz,aG]at j;exact gV p (Ew p t (g x j.1) (g i j.2))|index t x i=>simp only[oz,aG]at j;exact gV p (Wp p t (g x j.1) (g i j.2))|lookup t x i b=>simp only[oz,aG]at j;exact gV p (TB q.jX p t (g x j.1) (g i j.2) b)|mapUpdate t m k v=>simp only[oz,aG]at j;exact LS p (Jl p t (g m j.1.1) (g k j.1.2) (g v j.2))|range t x=>exact gV p (Wr p t (g x j))|next x b=>exact gV p (ZE p b w (g x j))|entry x=>exact gV p (Wn p (g x j))|extract x i=>exact gV p (PU (g x j) i)|call k=>exact Zz q p g H k j w|makeInterface t x=>exact gV p (yO p t (g x j))|typeAssert x s t b=>simp only[oz,aG,fY]at j;obtain⟨rfl,j⟩:=j;exact gV p (Ga p s t (g x j))|_=>cases j
def vB(a:Addr)(h:a.spot=ah)(n:Nat):a.add n=⟨a.block,a.off+n,ah⟩:=by obtain⟨b,o,s⟩:=a;simp only at h;subst h;unfold Addr.add;split;rename_i h;simp_all;rfl
def yN{S:gM}{d:Ren}(l:Ren.Ok P d){a:Addr}(g:a.spot=ah):∀(n i:Nat)(acc b:Array ak),(∀j,i<=j->j<i+n->∃x,S.mem ⟨a.block,a.off+j,ah⟩=ae x)->cz S d acc b->aB P S (Yi S) (loadCellsFrom a i n acc) d (loadCellsFrom a i n b):=by
 intro n
 induction n generalizing d with
 |zero=>intro i acc b _ c;exact aA c|succ n k=>
  intro i acc b hm c;obtain⟨x,h⟩:=hm i (av _) (by omega);have e:=vB a g i;unfold loadCellsFrom;rw[e];refine aB.bind l (LM h) λm u v e f=> ?_
  obtain⟨rfl,rfl⟩:=f;exact k e.ok (i+1) _ _ (λj o p=>hm j (by omega) (by omega)) ((cz.mono e c).push (.int _ _))
def C9{q:Ren}(s:c.Fits P)(o:Ren.Ok P q){e:az}{a:Addr}(h:zx c e a):aB P c.sig (VQ c.sig) (loadVar e a) q (loadVar e a):=by
 obtain⟨z,n,w,hm⟩:=h;obtain⟨⟨i,t,g⟩,G,A⟩:=s.flat e n w;unfold loadVar isAgg;refine aB.bind (Q:=λ_ u v=>u=ar/\v=ar) o (aB.bind o (bH o e) λB d r E b=> ?_) λC u v l f=> ?_
 obtain⟨rfl,b⟩:=b;rw[A]at b;obtain rfl:=aX b;exact aA ⟨rfl,rfl⟩;obtain⟨rfl,rfl⟩:=f;simp only[if_true];refine aB.bind (Q:=λ_ u v=>u=n/\v=n) l.ok (aB.bind l.ok (fi l.ok e) λp d r m b=> ?_) λp u v m f=> ?_
 obtain⟨rfl,b⟩:=b;rw[t]at b;obtain rfl:=aX b;exact aA ⟨g,g⟩;obtain⟨rfl,rfl⟩:=f;exact aB.bind m.ok (yN m.ok z _ 0 _ _ (λj _ H=>hm j (by omega)) ⟨rfl,by simp⟩) λD x y F k=>aA (.agg k.size k.at_)
def F8{d:Ren}(g:c.Fits P)(i:Ren.Ok P d){e:az}{a:Addr}(h:zx c e a):aB P c.sig (VQ c.sig) (dN e (.pointer (ae a))) d (dN e (.pointer (ae a))):=aB.bind (Q:=λ_ u v=>u=a/\v=a) i (aA ⟨rfl,rfl⟩) λj u v f b=>by obtain⟨rfl,rfl⟩:=b;exact C9 g f.ok h
def PW{S:gM}{f:Ren}(c:Ren.Ok P f){s e t:az}(g:P.underlying s=ae (.slice e))(a:Addr)(n k:Nat):aB P S (VQ S) (Builtin.len_ #[s] t #[.slice (ae a) n k]) f (Builtin.len_ #[s] t #[.slice (ae a) n k]):=by
 unfold Builtin.len_;refine aB.bind c (bH c s) λh d i j b=> ?_
 obtain⟨rfl,b⟩:=b;rw[g]at b;obtain rfl:=aX b;exact aA (.int _ _)
def Jh{o:Ren}(A:c.Fits P)(J:Ren.Ok P o){s e:az}(G:c.elem s=ae e){a:Addr}{n k:Nat}(h:∀m,c.flat e=ae m->∀i,i<n->zx c e (a.add (i*m))){i B:ak}(F:bh c.sig o i B):aB P c.sig (λ_ u v=>u=v/\jG c (.pt e) u) (Instr.indexAt s (.slice (ae a) n k) i) o (Instr.indexAt s (.slice (ae a) n k) B):=by
 obtain⟨H,m,hm⟩:=A.elem s e G;obtain⟨⟨I,j,g⟩,_⟩:=A.flat e m hm;unfold Instr.indexAt;refine aB.bind J (ru F) λK x y w E=> ?_
 subst E;obtain⟨C,q⟩:=x;simp only;refine aB.bind w.ok (bH w.ok s) λp d t z b=> ?_
 obtain⟨rfl,b⟩:=b;rw[H]at b;obtain rfl:=aX b;show aB P c.sig _ (ub s C q (ae a,n,e)) p (ub s C q (ae a,n,e));unfold ub;refine aB.bind z.ok (bH z.ok s) λL d t f b=> ?_
 obtain⟨rfl,_⟩:=b;simp only;split;rename_i M;refine aB.bind (Q:=λ_ u v=>u=m/\v=m) f.ok (aB.bind f.ok (fi f.ok e) λr d t D b=> ?_) λr u v D l=> ?_
 obtain⟨rfl,b⟩:=b;rw[j]at b;obtain rfl:=aX b;exact aA ⟨g,g⟩;obtain⟨rfl,rfl⟩:=l;exact aA ⟨rfl,_,rfl,h _ hm q.toNat (by omega)⟩;split<;>(split<;>first|exact rfl|exact(aB.mono (Q:=λ_ _ _=>False) f.ok (km f.ok _ _ _ _) λ_ _ _ _ h=>h.elim))
def Ye(c:fg)(o:Oper):Ren->Next->Next->Prop:=λb n a=>zy c b n a\/∃v d,n=.value v/\a=.value v/\o.dst=ae d/\d∈c.bad/\jG c (c.kc d) v
def RH{o:Oper}{k:Kd}(h:zP c o k=ar):∃d,o.dst=ae d/\d∈c.bad/\∀v,jG c k v->jG c (c.kc d) v:=by
 unfold zP at h;cases b:o.dst with
 |none=>rw[b]at h;cases h|some d=>rw[b]at h;simp only[aG,gJ]at h;refine⟨d,rfl,by simpa using h.1,λv e=> ?_⟩;rcases h.2 with a|a;rw[Kd.vT a];trivial;rw[Kd.vT a];exact e
def AS{o:Oper}{a:Ren}(d:Ren.Ok P a){s b:Sem Next}(h:aB P c.sig (NQ c) s a b):aB P c.sig (Ye c o) s a b:=aB.mono d h λ_ _ _ _ h=>.inl h
def abq{y:Ren}(E:c.Fits P)(f:Ren.Ok P y){l g:ca->ak}(B:l9 c y l g)(C:EvB c y l g)(o:Oper)(j:yP c o=ar):aB P c.sig (Ye c o) (execOp l o) y (execOp g o):=by
 obtain⟨dst,op,type,pos,after,guard⟩:=o;cases op with
 |move x=>
  cases x with
  |tmp t=>simp only[yP,aG]at j;obtain⟨d,q,A,G⟩:=RH j.2;rcases C.bad t (by simpa using j.1)with h|⟨h,p⟩;exact aA (.inl (.value h));refine aA (.inr ⟨l (.tmp t),d,rfl,?_,q,A,G _ p⟩);rw[h]
  |_=>cases j
 |load e x=>
  cases x with
  |tmp t=>simp only[yP,aG]at j;rcases C.bad t (by simpa using j.1)with h|⟨h,p⟩;exact AS f (gV f (Ji f e h));rw[Kd.vT j.2]at p;obtain⟨a,q,A⟩:=p;refine AS f (gV f ?_);show aB P c.sig _ (dN e (l (.tmp t))) y (dN e (g (.tmp t)));rw[<-h,q];exact F8 E f A
  |_=>cases j
 |indexAddr s x i=>
  cases x with
  |tmp t=>
   simp only[yP,aG]at j;obtain⟨⟨H,L⟩,m⟩:=j;cases w:c.elem s with
   |none=>rw[w]at m;cases m|some e=>
    rw[w]at m;simp only[aG]at m;obtain⟨d,q,A,G⟩:=RH m.2;rcases C.bad t (by simpa using H)with h|⟨h,p⟩;exact AS f (gV f (Ew f s h (B i L)));rw[Kd.vT m.1]at p;obtain⟨a,n,k,F,M⟩:=p;refine aB.bind (Q:=λ_ u v=>u=v/\jG c (.pt e) u) f ?_ λO u v R I=> ?_
    show aB P c.sig _ (Instr.indexAt s (l (.tmp t)) (l i)) y (Instr.indexAt s (g (.tmp t)) (g i));rw[<-h,F];exact Jh E f w M (B i L);obtain⟨rfl,N⟩:=I;exact aA (.inr ⟨_,d,rfl,rfl,q,A,G _ N⟩)
  |_=>cases j
 |call k=>
  obtain⟨callee,args,r⟩:=k;simp only[yP,aG]at j;obtain⟨K,q⟩:=j;cases callee with
  |builtin b=>
   cases b with
   |len=>
    obtain⟨args⟩:=args;obtain⟨r⟩:=r
    match args,r,q with
    |[.tmp t],[s],q=>
     simp only[aG]at q;obtain⟨H,m⟩:=q;cases w:c.elem s with
     |none=>rw[w]at m;cases m|some e=>
      rw[w]at m;refine AS f ?_;have main:∀J,aB P c.sig (NQ c) (builtin .len #[s] type J #[l (.tmp t)]) y (builtin .len #[s] type J #[g (.tmp t)]):=λJ=> ?_
      have e:∀l:ca->ak,execOp l {dst:=dst,op:=Op.call {callee:=Callee.builtin Builtin.len,args:={toList:=[Operand.tmp t]},argTypes:={toList:=[s]}},type:=type,pos:=pos,after:=after,guard:=guard}=builtin .len #[s] type #[au] #[l (.tmp t)]:=λl=>by simp[execOp,resolve,invoke]
      rw[e,e];exact main _;rcases C.bad t (by simpa using H)with h|⟨h,p⟩;exact Eu E f .len rfl _ _ _ ⟨rfl,λi a b z D=>by
       match i,z,D with
       |0,z,D=>simp at z D;subst z;subst D;exact h|i+1,z,_=>simp at z⟩
      rw[Kd.vT m]at p;obtain⟨a,n,k,F,_⟩:=p;rw[<-h,F];exact gV f (PW f (E.elem s e w).1 a n k)
   |_=>cases K
  |_=>cases K
 |_=>cases j
def TC{d:Ren}(i:c.Fits P)(e:Ren.Ok P d){f a:ca->ak}(b:l9 c d f a)(g:EvB c d f a)(o:Oper)(j:jL c o=ar):aB P c.sig (Ye c o) (execOp f o) d (execOp a o):=by unfold jL at j;rcases gJ _ _▸j with h|h;exact AS e (AL i e b g o h);exact abq i e b g o h
end
def mJ(v:ak):Bool:=v.cells.all (gd 4)
def zW:∀(n:Nat)(v:ak),gd n v=ar->gd (n+1) v=ar:=by
 intro n
 induction n with
 |zero=>intro v h;cases v<;>first|exact h|rfl|cases h|(rename_i p;cases p<;>first|exact h|rfl|cases h)|(rename_i p _ _;cases p<;>first|exact h|rfl|cases h)
 |succ n b=>
  intro v h;cases v with
  |agg c=>exact eK.2 λi a=>b _ (eK.1 (show c.all (gd n)=ar from h) i a)|tuple c=>exact eK.2 λi a=>b _ (eK.1 (show c.all (gd n)=ar from h) i a)|iface t v=>exact b v h|pointer p=>cases p<;>first|exact h|rfl|cases h
  |slice p l c=>cases p<;>first|exact h|rfl|cases h
  |map p=>cases p<;>first|exact h|rfl|cases h
  |chan p=>cases p<;>first|exact h|rfl|cases h
  |_=>first|exact h|rfl|cases h
def Vu{v:ak}(h:mJ v=ar):gd 6 v=ar:=by
 unfold mJ at h;have one:∀x,gd 4 x=ar->gd 5 x=ar:=λx b=>zW 4 x b
 cases v with|agg c=>show c.all (gd 5)=ar;have h:c.all (gd 4)=ar:=h;exact eK.2 λi a=>one _ (eK.1 h i a)|_=>refine zW 5 _ (one _ ?_);exact eK.1 h 0 (by simp[fc])
def DL{c:Array ak}(h:∀x∈c,gd 4 x=ar):mJ (.agg c)=ar:=by show c.all (gd 4)=ar;exact eK.2 λi a=>h _ (Array.getElem_mem a)
def DN{v:ak}(h:mJ v=ar):∀x∈v.cells,gd 4 x=ar:=by intro x b;obtain⟨i,a,rfl⟩:=Array.mem_iff_getElem.1 b;exact eK.1 h i a
def OT{i d:Type}(P:d->Prop)(f:i->d->Option (ForInStep d))(j:∀a b r,P b->f a b=ae r->P r.value):∀(l:List i)(b c:d),P b->forIn l b f=ae c->P c:=by
 intro l
 induction l with
 |nil=>intro b c e h;cases h;exact e|cons a l k=>
  intro b c e h;rw[List.forIn_cons]at h;cases g:f a b with
  |none=>rw[g]at h;cases h|some r=>
   rw[g]at h;have:=j a b r e g;cases r with|done x=>cases h;exact this|yield x=>exact k x c this h
def JR{c:az->Option TypeInfo}(B:∀t i v,c t=ae i->i.zero=ae v->mJ v=ar){A:Array Field}{i:TypeInfo}{v:ak}(h:Made.reckonStruct c A=ae i)(b:i.zero=ae v):mJ v=ar:=by
 unfold Made.reckonStruct at h;simp only[Option.bind_eq_bind,cT]at h;obtain⟨r,s,h⟩:=h;rw[<-Array.forIn_toList]at s;have d:∀(k:Option (Array ak))(i:TypeInfo)(f:Field)(n:Nat),(∀z,k=ae z->∀x∈z,gd 4 x=ar)->c f.type=ae i->∀z,(if n>Made.mostCells then ah else k.bind λu=>i.zero.bind λv=>pure (u++v.cells))=ae z->∀x∈z,gd 4 x=ar:=by intro k i f n l e z b x m;split at b;cases b;obtain⟨u,C,b⟩:=cT.1 b;obtain⟨v,D,b⟩:=cT.1 b;cases b;rcases nz.1 m with h|h;exact l u C x h;exact DN (B _ _ _ e D) x h
 have p:=OT (λk=>∀z,k.snd.snd.snd.snd.snd.snd.snd.fst=ae z->∀x∈z,gd 4 x=ar) _ ?_ _ _ _ ?_ s;split at h<;>
 ·cases h;obtain⟨z,o,rfl⟩:=aF.1 b;exact DL (p z o)
 intro f k F l a;obtain⟨j,q,a⟩:=cT.1 a;have E:∀{w:Type}{g:Unit->Option w}{y:w},(ah:Option Unit).bind g=ae y->False:=λh=>by cases h
 split at a;cases a;split at a;cases a;split at a;obtain⟨_,_,a⟩:=cT.1 a;split at a<;>(cases a;exact d _ _ _ _ l q);obtain⟨_,_,a⟩:=cT.1 a;split at a<;>(cases a;exact d _ _ _ _ l q);intro z b x m;obtain rfl:z=#[]:=(aX b).symm;simp at m
def Jo{b:az->Option TypeInfo}(m:∀t i v,b t=ae i->i.zero=ae v->mJ v=ar){d:TypeDesc}{i:TypeInfo}{v:ak}(h:Made.reckon b d=ae i)(a:i.zero=ae v):mJ v=ar:=by
 unfold Made.reckon at h;cases d with
 |slice e=>simp only[Option.bind_eq_bind,cT]at h;obtain⟨_,_,_,_,h⟩:=h;cases h;cases a;simp[mJ,fc,gd]|map k e=>simp only[Option.bind_eq_bind,cT]at h;obtain⟨_,_,_,_,_,_,_,_,h⟩:=h;cases h;cases a;simp[mJ,fc,gd]|chan d e=>simp only[Option.bind_eq_bind,cT]at h;obtain⟨_,_,_,_,h⟩:=h;cases h;cases a;simp[mJ,fc,gd]|func q r v=>simp only[Option.bind_eq_bind,cT]at h;obtain⟨_,_,h⟩:=h;cases h;cases a;simp[mJ,fc,gd]|array n e=>
  simp only[Option.bind_eq_bind,cT]at h;obtain⟨j,o,_,_,h⟩:=h;cases h;simp only at a;split at a;cases a;split at a;cases a;simp[mJ,fc];obtain⟨z,g,rfl⟩:=aF.1 a;have:=DN (m e j z o g);refine DL λx f=> ?_
  obtain⟨c,l,f⟩:=Array.mem_flatten.1 f;rw[Array.mem_replicate]at l;rw[l.2]at f;exact this x f
 |pointer e=>simp only[Option.bind_eq_bind,cT]at h;obtain⟨j,o,h⟩:=h;split at h;cases h;split at h;cases h;simp only[cT]at h;obtain⟨_,_,h⟩:=h;cases h;cases a;simp[mJ,fc,gd];simp only[cT]at h;obtain⟨_,_,h⟩:=h;cases h;cases a;simp[mJ,fc,gd]|struct p=>exact JR m h a|_=>cases h
def QE{P:aO}(h:∀(t:az)(i:TypeInfo)(v:ak),P.types[t]? =ae i->i.zero=ae v->mJ v=ar)(t:az)(i:TypeInfo)(v:ak)(b:P.info? t=ae i)(c:i.zero=ae v):gd 6 v=ar:=by
 refine Vu ?_;unfold Tables.info? at b;split at b;exact h t i v b c;have e:∀(a:Nat)(t:az)(i:TypeInfo)(v:ak),Made.infoAt P.toTables a t=ae i->i.zero=ae v->mJ v=ar:=by
  intro a
  induction a with|zero=>intro t i v h _;cases h|succ n g=>intro t i v b c;unfold Made.infoAt at b;split at b;exact h t i v b c;obtain⟨d,_,f⟩:=cT.1 b;exact Jo g f c
 exact e _ t i v b c
abbrev jd(b:aY)(a:List aY):aw:={frame:=b,callers:=a,status:=.running,dying:=ah}
inductive oL(c:fg) (π:Ren):Item->Item->Prop
 |code {x:Code}:dj c x=ar->oL c π (.code x) (.code x)
 |inBlock (i:Nat):oL c π (.inBlock i) (.inBlock i)
 |inLoop {b:Code}:dj c b=ar->oL c π (.inLoop b) (.inLoop b)
 |inScope {b:Code}:dj c b=ar->oL c π (.inScope b) (.inScope b)
 |inRegion {ops:Array Oper} (l:List Nat):ops.all (jL c)=ar->oL c π (.inRegion ops l) (.inRegion ops l)
 |inRangeFunc {l l':Nat}:c.bad=[]->π l l'->oL c π (.inRangeFunc l) (.inRangeFunc l')
 |endRangeFunc {l l':Nat}:c.bad=[]->π l l'->oL c π (.endRangeFunc l) (.endRangeFunc l')
 |beginRound:oL c π .beginRound .beginRound
inductive lR(π:Ren):Deferred->Deferred->Prop
 |mk {r r':Nat}:π r r'->lR π {target:=.collected r,args:=#[]} {target:=.collected r',args:=#[]}
inductive G6(c:fg) (kL kR:List Item) (π:Ren):List Item->List Item->Prop
 |nil:G6 c kL kR π kL kR
 |cons {a b:Item} {l m:List Item}:oL c π a b->G6 c kL kR π l m->G6 c kL kR π (a::l) (b::m)
def nJ:List Item->Bool|[]|.code _::_|.inBlock _::_|.inLoop _::_|.inScope _::_=>ar|_=>au
structure KOk(kL kR:List Item):Prop where
 W7:nJ kL=ar
 ZO:nJ kR=ar
 ex:∀i,exitTo i kL=ah
 kk:kL=[]->kR=[]
def KOk.nil:KOk [] []:=⟨rfl,rfl,λ_=>rfl,λ_=>rfl⟩
structure qc(c:fg) (π:Ren) (x y:Array ak):Prop where
 size:x.size=y.size
 at_:∀(i:Nat) u v,x[i]? =ae u->y[i]? =ae v->bh c.sig π u v\/(i∈c.bad/\u=v/\jG c (c.kc i) u)
def qc.of{c:fg}{a:Ren}{x y:Array ak}(h:cz c.sig a x y):qc c a x y:=⟨h.size,λi u v b d=>.inl (h.at_ i u v b d)⟩
def qc.vs{c:fg}{a:Ren}{x y:Array ak}(h:qc c a x y)(b:c.bad=[]):cz c.sig a x y:=⟨h.size,λi u v d e=>(h.at_ i u v d e).elim id λk=>by rw[b]at k;exact absurd k.1 (by simp)⟩
def qc.mono{P:aO}{c:fg}{b a:Ren}(e:Ext P b a){x y:Array ak}(h:qc c b x y):qc c a x y:=⟨h.size,λi u v d f=>(h.at_ i u v d f).imp (·.mono e) id⟩
def qc.put{c:fg}{j:Ren}{x y:Array ak}(h:qc c j x y){d:Nat}{v g:ak}(k:bh c.sig j v g\/(d∈c.bad/\v=g/\jG c (c.kc d) v)):qc c j (x.setIfInBounds d v) (y.setIfInBounds d g):=by
 refine⟨by simp[h.size],λi u w b f=> ?_⟩;by_cases e:d=i;subst e;have a:d<x.size:=by have:=(aE.1 b).1;simpa using this
 rw[aK a]at b;rw[aK (by rw[<-h.size];exact a)]at f;cases b;cases f;exact k;rw[aJ e]at b f;exact h.at_ i u w b f
def qc.set{c:fg}{a:Ren}{x y:Array ak}(h:qc c a x y){d:Nat}{v b:ak}(e:bh c.sig a v b):qc c a (x.setIfInBounds d v) (y.setIfInBounds d b):=h.put (.inl e)
abbrev sZ(a:aY):Option Nat×bG:=(a.roundOf,a.fn)
structure qa(c:fg) (kL kR:List Item) (π:Ren) (a b:aY):Prop where
 fn:b.fn=a.fn
 tmps:qc c π a.tmps b.tmps
 todo:G6 c kL kR π a.todo b.todo
 defers:dh (lR π) a.defers b.defers
 mode:b.mode=a.mode
 ok:a.mode=.run\/a.mode=.returning
 kind:a.kind=.normal
 IG:b.kind=.normal
 round:gq π a.roundOf b.roundOf
 ks:KOk kL kR
 rk:a.roundOf≠ah->kL=[]
section
variable{P:aO} {c:fg} {Z Y:List Item}
def oL.mono{g d:Ren}(e:Ext P g d):∀{a b:Item},oL c g a b->oL c d a b|_,_,.code h=>.code h|_,_,.inBlock i=>.inBlock i|_,_,.inLoop h=>.inLoop h|_,_,.inScope h=>.inScope h|_,_,.inRegion l h=>.inRegion l h|_,_,.inRangeFunc f h=>.inRangeFunc f (e.le _ _ h)|_,_,.endRangeFunc f h=>.endRangeFunc f (e.le _ _ h)|_,_,.beginRound=>.beginRound
def lR.mono{d c:Ren}(e:Ext P d c):∀{a b:Deferred},lR d a b->lR c a b|_,_,.mk h=>.mk (e.le _ _ h)
def lR.list{d c:Ren}(e:Ext P d c){a b:List Deferred}(h:dh (lR d) a b):dh (lR c) a b:=dh.mono (λ_ _ x=>x.mono e) h
def G6.mono{f d:Ren}(e:Ext P f d){a b:List Item}(h:G6 c Z Y f a b):G6 c Z Y d a b:=by
 induction h with|nil=>exact .nil|cons h _ g=>exact .cons (h.mono e) g
def gq.ren{d c:Ren}(e:Ext P d c){a b:Option Nat}(h:gq d a b):gq c a b:=gq.mono (λ_ _ x=>e.le _ _ x) h
def qa.mono{f d:Ren}(e:Ext P f d){a b:aY}(h:qa c Z Y f a b):qa c Z Y d a b:=⟨h.fn,h.tmps.mono e,h.todo.mono e,lR.list e h.defers,h.mode,h.ok,h.kind,h.IG,gq.ren e h.round,h.ks,h.rk⟩
def cz.getD{S:gM}{d:Ren}{x y:Array ak}(h:cz S d x y)(i:Nat):bh S d (x.getD i undef) (y.getD i undef):=by
 rw[aV,aV];have:=h.opt i;revert this;generalize x[i]? =a;generalize y[i]? =b;intro c;cases c with|none=>exact .tuple rfl (by simp)|some h=>exact h
def qc.aaM{c:fg}{e:Ren}{x y:Array ak}(h:qc c e x y)(i:Nat):bh c.sig e (x.getD i undef) (y.getD i undef)\/(x.getD i undef=y.getD i undef/\jG c (c.kc i) (x.getD i undef)):=by rw[aV,aV];rcases dU i x.size with b|d;have a:i<y.size:=h.size▸b;rw[aH b,aH a];exact(h.at_ i _ _ (aH b) (aH a)).imp id (·.2);rw[hZ d,hZ (h.size▸d)];exact .inl (.tuple rfl (by simp))
def qc.getD{c:fg}{e:Ren}{x y:Array ak}(h:qc c e x y){i:Nat}(f:i∉c.bad):bh c.sig e (x.getD i undef) (y.getD i undef):=by
 rw[aV,aV];rcases dU i x.size with b|d;have a:i<y.size:=h.size▸b;rw[aH b,aH a];exact(h.at_ i _ _ (aH b) (aH a)).elim id λk=>absurd k.1 f
 rw[hZ d,hZ (h.size▸d)];exact .tuple rfl (by simp)
def qa.Xx{e:Ren}{a b:aY}(h:qa c Z Y e a b):l9 c e a.eval b.eval:=by
 intro o d;cases o with
 |tmp t=>
  have d:c.bad.contains t=au:=by simpa[ed]using d
  exact h.tmps.getD (by simpa using d)
 |const v=>exact tX 4 v d e|global g=>cases d|func f=>exact .func (.func d) rfl (by simp) rfl (by simp)
def qa.evB{d:Ren}{a b:aY}(h:qa c Z Y d a b):EvB c d a.eval b.eval:=⟨λ_=>⟨rfl,rfl⟩,λt _=>h.tmps.aaM t⟩
def vX(c:aY)(v:ak)(h:nJ c.todo=ar):c.finish v=c:=by
 obtain⟨g,f,a,b,e,d,round⟩:=c;cases a with
 |nil=>rfl|cons x k=>cases x<;>first|rfl|cases h
def qa.finish{B:Ren}{a b:aY}(h:qa c Z Y B a b){v v':ak}(L:bh c.sig B v v'):qa c Z Y B (a.finish v) (b.finish v')/\sZ (a.finish v)=sZ a:=by
 obtain⟨N,H,I,s,F,E,round⟩:=a;obtain⟨J,z,A,r,y,w,t⟩:=b;obtain⟨g,f,C,j,k,m,n,o,p,d,e⟩:=h;simp only at g f C j k m n o p e;cases C with
 |nil=>rw[vX _ _ (by exact d.W7),vX _ _ (by exact d.ZO)];exact⟨⟨g,f,.nil,j,k,m,n,o,p,d,e⟩,rfl⟩|cons K q=>
  cases K with
  |code x=>exact⟨⟨g,f,.cons (.code x) q,j,k,m,n,o,p,d,e⟩,rfl⟩|inBlock x=>exact⟨⟨g,f,.cons (.inBlock x) q,j,k,m,n,o,p,d,e⟩,rfl⟩|inLoop x=>exact⟨⟨g,f,.cons (.inLoop x) q,j,k,m,n,o,p,d,e⟩,rfl⟩|inScope x=>exact⟨⟨g,f,.cons (.inScope x) q,j,k,m,n,o,p,d,e⟩,rfl⟩|inRangeFunc u x=>exact⟨⟨g,f,.cons (.endRangeFunc u x) q,j,k,m,n,o,p,d,e⟩,rfl⟩|endRangeFunc u x=>exact⟨⟨g,f,.cons (.endRangeFunc u x) q,j,k,m,n,o,p,d,e⟩,rfl⟩|beginRound=>exact⟨⟨g,f,q,j,k,m,n,o,p,d,e⟩,rfl⟩|inRegion l D=>
   rename_i M;cases l with|nil=>exact⟨⟨g,f,.cons (.inRegion _ D) q,j,k,m,n,o,p,d,e⟩,rfl⟩|cons i G=>unfold Frame.finish;simp only;refine⟨⟨g,?_,.cons (.inRegion _ D) q,j,k,m,n,o,p,d,e⟩,trivial⟩;simp only;split;exact f.set L;exact f
def qa.Vt{M:Ren}{a b:aY}(h:qa c Z Y M a b){o:Oper}{f:Array Oper}{i:Nat}{e:List Nat}{k:List Item}(G:a.todo=.inRegion f (i::e)::k)(S:f[i]? =ae o){v:ak}{d:Tmp}(P:o.dst=ae d)(O:d∈c.bad)(T:jG c (c.kc d) v):qa c Z Y M (a.finish v) (b.finish v)/\sZ (a.finish v)=sZ a:=by
 obtain⟨U,K,L,n,J,I,round⟩:=a;obtain⟨N,u,w,g,t,s,p⟩:=b;obtain⟨y,z,q,A,B,C,D,E,F,j,m⟩:=h;simp only at y z q A B C D E F m G;subst G;generalize H:(Item.inRegion f (i::e)::k)=x at q;cases q with
 |nil=>exact absurd j.W7 (by rw[<-H];simp[nJ])|cons Q R=>
  cases H;cases Q with|inRegion l r=>unfold Frame.finish;simp only[S,kH,P];refine⟨⟨y,z.put (.inr ⟨O,rfl,T⟩),.cons (.inRegion _ r) R,A,B,C,D,E,F,j,m⟩,trivial⟩
def qa.enter{g:Ren}(m:c.Fits P){f:bG}(n:c.fn f=ar){x y:Array ak}(h:nA c f g x y):qa (c.at f) [] [] g (eG P f x .normal) (eG P f y .normal):=by obtain⟨F,b,j,k,l,o,_⟩:=m.fn f n;refine⟨rfl,?_,?_,.nil,rfl,.inl rfl,rfl,rfl,.none,.nil,λh=>absurd rfl h⟩;show qc (c.at f) g (x++dF _ undef) (y++dF _ undef);rw[<-h.size];refine⟨by simp[h.size],λi u v d a=> ?_⟩;rw[Array.getElem?_append]at d a;rw[<-h.size]at a;split at d;rename_i e;rw[if_pos e]at a;exact h.at_ i u v d a;rename_i e;rw[if_neg e]at a;rw[Array.getElem?_replicate]at d a;split at d;rename_i e;rw[if_pos e]at a;cases d;cases a;exact .inl (.tuple rfl (by simp));cases d;show G6 (c.at f) [] [] g [.code ((P.funcs[f]?.bind (·.body)).getD _)] [.code ((P.funcs[f]?.bind (·.body)).getD _)];rw[j];simp only[kH,k,Option.getD_some];exact .cons (.code l) .nil
def iT(g:bG)(c:Array Event):∀e∈seen P g c,e∈c:=by
 unfold seen;simp only;rw[<-Array.foldl_toList];have d:∀(l:List Event)(q:Bool)(kept:Array Event),∀e∈(l.foldl (λ(x:Bool×Array Event) e=>
  match e.loc with
  |.mark (.extern f)=>((P.funcs[f]?).any (·.norace),x.2)|_=>(x.1,if x.1&& !e.sync then x.2 else x.2.push e)) (q,kept)).2,e∈kept\/e∈l:=by
  intro l
  induction l with
  |nil=>intro q kept e b;exact .inl b|cons a l i=>
   intro q kept e b;rw[List.foldl_cons]at b;rcases i _ _ e b with h|h;have:e∈kept\/e=a:=by revert h;simp only;split;intro h;exact .inl h;split;intro h;exact .inl h;intro h;rcases Array.mem_push.1 h with h|h;exact .inl h;exact .inr h
   rcases this with h|h;exact .inl h;exact .inr (by simp[h]);exact .inr (by simp[h])
 intro e b;rcases d c.toList ((P.funcs[g]?).any (·.norace)) #[] e b with h|h;simp at h;simpa using h
end
def Up(c d:fg)(a:bG):Prop:=d=c.cl\/(d=c.at a/\c.fn a=ar)
def Up.sig{c d:fg}{a:bG}(h:Up c d a):d.sig=c.sig:=by rcases h with rfl|⟨rfl,_⟩<;>rfl
def Up.fits{P:aO}{c d:fg}{a:bG}(h:Up c d a)(b:c.Fits P):d.Fits P:=by rcases h with rfl|⟨rfl,_⟩;exact b.cl;exact b.at a
def Up.up{c d e:fg}{b a:bG}(h:Up c d b)(k:Up d e a):Up c e a:=by rcases h with rfl|⟨rfl,_⟩<;>exact k
inductive G7(c:fg) (kL kR:List Item) (π:Ren) (cl cr:List aY) (ro:Option Nat×bG):aw->aw->Prop
 |stay {a b:aY}:qa c kL kR π a b->sZ a=ro->G7 c kL kR π cl cr ro (jd a cl) (jd b cr)
 |push {d:fg} {f g a b:aY}:Up c d f.fn->qa d [] [] π f g->qa c kL kR π a b->sZ a=ro->G7 c kL kR π cl cr ro (jd f (a::cl)) (jd g (b::cr))
 |pop {x y:aY} {l m:List aY} {v v':ak}:ro.1≠ah->cl=x::l->cr=y::m->bh c.sig π v v'->G7 c kL kR π cl cr ro (jd (x.finish v) l) (jd (y.finish v') m)
def uQ(P:aO)(c:fg)(h:Ren)(cl:List aY)(s:GStep):Prop:=∃a b w g d e f,s=.go (jd a cl) w g/\a.mode=.panicking b/\bS P c.sig d w e/\dh (lR d) a.defers f/\Ext P h d
def sP(s:GStep):Prop:=∃o w a,s=.ended o w a
def lY(P:aO)(c:fg)(kL kR:List Item)(g:Ren)(L R:ai)(cl k:List aY)(m:Option Nat×bG)(f n:GStep):Prop:=sP f\/uQ P c g cl f\/∃i b l,f=.go i b l/\L.drawn<=b.drawn/\b.tape=L.tape/\(MG L R b.drawn->∃a j d h,Ext P g a/\n=.go j d h/\G7 c kL kR a cl k m i j/\bS P c.sig a b d/\uz g a L R b d/\d.drawn+L.drawn=R.drawn+b.drawn/\∀e∈h,wX c.sig a e)
section
variable{P:aO} {c:fg} {Z Y:List Item}
def lY.here{d:Ren}{L R:ai}{cl e:List aY}{g:Option Nat×bG}{a b:aY}(f:bS P c.sig d L R)(h:qa c Z Y d a b)(i:sZ a=g):lY P c Z Y d L R cl e g (.go (jd a cl) L) (.go (jd b e) R):=.inr (.inr ⟨_,_,_,rfl,av _,rfl,λ_=>⟨d,_,_,_,Ext.refl f.ok,rfl,.stay h i,f,uz.refl _ _ _,rfl,by simp⟩⟩)
def j7(b:Array Event)(g:aw)(w:ai)(a:Array Event):GStep.after b (.go g w a)=.go g w (b++a):=rfl
def Fc{d:Ren}{a b:aY}(h:qa c Z Y d a b)(vs:List PanicEntry):(a.raise vs).mode=.panicking vs/\(a.raise vs).defers=a.defers:=by unfold Frame.raise;rcases h.ok with e|e<;>rw[e]<;>exact⟨rfl,rfl⟩
def rQ(k:List Item)(h:nJ k=ar):(match k with|.call _ ar _ _::_=>CallKind.wrapped|_=>.normal)=.normal:=by
 cases k with
 |nil=>rfl|cons x k=>cases x<;>first|rfl|cases h
def xc{O:Ren}(hc:c.Fits P){L R:ai}(T:bS P c.sig O L R){a b:aY}(h:qa c Z Y O a b)(cl B:List aY){s U:Sem Next}{Q:Ren->Next->Next->Prop}(hs:aB P c.sig Q s O U)(V:∀d n n',Ext P O d->Q d n n'->zy c d n n'\/∃v,n=.value v/\n'=.value v/\(qa c Z Y d a b->qa c Z Y d (a.finish v) (b.finish v)/\sZ (a.finish v)=sZ a)):lY P c Z Y O L R cl B (sZ a) (eS P ar a cl ah s L) (eS P ar b B ah U R):=by
 have W:=hs.run T #[] #[];have kdL:(match a.todo with|.call _ ar _ _::_=>CallKind.wrapped|_=>.normal)=.normal:=by
  have E:=h.todo;have D:=h.ks;revert E;generalize a.todo=k;generalize b.todo=k';intro E;cases E with
  |nil=>first|exact rQ _ D.W7|exact rQ _ D.ZO
  |cons hi _=>cases hi<;>rfl
 have kdR:(match b.todo with|.call _ ar _ _::_=>CallKind.wrapped|_=>.normal)=.normal:=by
  have E:=h.todo;have D:=h.ks;revert E;generalize a.todo=k;generalize b.todo=k';intro E;cases E with
  |nil=>first|exact rQ _ D.W7|exact rQ _ D.ZO
  |cons hi _=>cases hi<;>rfl
 revert W;cases o:s.runT P L #[]with
 |mk r es=>
  cases r with
  |halt x S=>
   rintro⟨hl,d,p,e,N⟩;cases x with
   |panic v=>
    have hd:=Fc h [{v,recovered:=false}];have M:∃I,eS P ar a cl ah s L=.go (jd (a.raise [{v,recovered:=false}]) cl) S I:=⟨_,by unfold eS;simp only[if_true,o,j7];rfl⟩
    obtain⟨I,M⟩:=M;exact .inr (.inl ⟨_,_,S,I,d,p,b.defers,M,hd.1,N,by rw[hd.2];exact lR.list e h.defers,e⟩)
   |stuck w=>refine .inl ?_;unfold eS;simp only[if_true,o];exact⟨_,_,_,rfl⟩|unsupported u=>
    cases u with|initOrder g=>cases hl|_=>refine .inl ?_;unfold eS;simp only[if_true,o];exact⟨_,_,_,rfl⟩
   |_=>cases hl
  |ok x S=>
   rintro⟨h1,h2,h3⟩;have nx:∀gL:aw,(∃J,eS P ar a cl ah s L=.go gL S J)->(∀d H p,Ext P O d->Q d x H->(∃m,U.runT P R #[]=(.ok H p,m))->∃gR,G7 c Z Y d cl B (sZ a) gL gR/\∀m,U.runT P R #[]=(.ok H p,m)->∃G,eS P ar b B ah U R=.go gR p G/\∀e∈G,e∈m)->
    lY P c Z Y O L R cl B (sZ a) (eS P ar a cl ah s L) (eS P ar b B ah U R):=by
    rintro gL ⟨J,hL⟩ hk;refine .inr (.inr ⟨gL,S,J,hL,h1,h2,λag=> ?_⟩);obtain⟨d,H,p,m,e,A,j,N,hd,YV,Cw⟩:=h3 ag;simp only[iK]at A;obtain⟨gR,E,hR⟩:=hk d H p e j ⟨m,A⟩;obtain⟨G,hR',X⟩:=hR m A;exact⟨d,gR,p,G,e,hR',E,N,hd,YV,λx hx=>Cw x (X x hx)⟩
   have C:∀(m:Array Event)(fn:bG)(k:Bool),∀e∈seen P fn (if k then #[]else m)++#[],e∈m:=by
    intro m fn k e he;rw[Array.append_empty]at he;have:=iT fn _ e he;cases k with|true=>simp at this|false=>exact this
   cases x with
   |value v=>
    refine nx (jd (a.finish v) cl) ⟨_,by unfold eS;simp only[if_true,o,j7];rfl⟩ λd H p e j K=> ?_
    rcases V d _ _ e j with j|⟨v2,F,rfl,z⟩;rotate_left;cases F;have z:=z (h.mono e);exact⟨jd (b.finish v) B,.stay z.1 z.2,λm A=>⟨_,by unfold eS;simp only[if_true,A,j7];rfl,C _ _ _⟩⟩;cases j with|value hv=>rename_i v';have z:=(h.mono e).finish hv;exact⟨jd (b.finish v') B,.stay z.1 z.2,λm A=>⟨_,by unfold eS;simp only[if_true,A,j7];rfl,C _ _ _⟩⟩
   |skip=>
    refine nx (jd (a.finish undef) cl) ⟨_,by unfold eS;simp only[if_true,o,j7];rfl⟩ λd H p e j K=> ?_
    replace j:=(V d _ _ e j).resolve_right (by rintro⟨_,F,_⟩;cases F)
    cases j with|skip=>have z:=(h.mono e).finish (v:=undef) (v':=undef) (.tuple rfl (by simp));exact⟨jd (b.finish undef) B,.stay z.1 z.2,λm A=>⟨_,by unfold eS;simp only[if_true,A,j7];rfl,C _ _ _⟩⟩
   |enter f x=>
    refine nx (jd (eG P f x .normal) (a::cl)) ⟨_,by unfold eS;simp only[if_true,o,j7];exact congrArg (λk=>GStep.go (jd (eG P f x k) (a::cl)) S (seen P a.fn (if a.kind== .early then #[]else es)++#[])) kdL⟩ λd H p e j K=> ?_
    replace j:=(V d _ _ e j).resolve_right (by rintro⟨_,F,_⟩;cases F)
    cases j with|enter z hx=>rename_i y;exact⟨jd (eG P f y .normal) (b::B),.push (.inr ⟨rfl,z⟩) (qa.enter hc z hx) (h.mono e) rfl,λm A=>⟨_,by unfold eS;simp only[if_true,A,j7];exact congrArg (λk=>GStep.go (jd (eG P f y k) (b::B)) p (seen P b.fn (if b.kind== .early then #[]else m)++#[])) kdR,C _ _ _⟩⟩
   |round l f t x y=>
    refine nx (jd (Frame.round l f t x y .normal) (a::cl)) ⟨_,by unfold eS;simp only[if_true,o,j7];rfl⟩ λd H p e j K=> ?_
    replace j:=(V d _ _ e j).resolve_right (by rintro⟨_,F,_⟩;cases F)
    cases j with|round hl E hx hy=>rename_i l' t';exact⟨jd (Frame.round l' f t' x y .normal) (b::B),.push (.inl rfl) ⟨rfl,.of E,.cons (.code hx) (.cons .beginRound (.cons (.code hy) .nil)),.nil,rfl,.inl rfl,rfl,rfl,.some hl,.nil,λ_=>rfl⟩ (h.mono e) rfl,λm A=>⟨_,by unfold eS;simp only[if_true,A,j7];rfl,C _ _ _⟩⟩
   |_=>exfalso;have:=hs.run (R:={R with tape:=L.tape,drawn:=L.drawn}) ⟨T.ok,T.obj,T.kr,T.mR,T.old⟩ #[] #[];rw[o]at this;obtain⟨π2,_,_,_,e,_,j,_⟩:=this.2.2 (λi q _=>rfl);rcases V π2 _ _ e j with j|⟨_,F,_⟩;cases j;cases F
end
section
variable{P:aO} {c:fg} {Z Y:List Item}
def phase{a:Type}(P:aO)(b:bG)(s:Sem a)(k:a->ai->GStep)(h:Halt->ai->GStep)(w:ai):GStep:=
 match s.runT P w #[]with|(r,es)=>GStep.after (seen P b es) (match r with|.ok x w=>k x w|.halt x w=>h x w)
def Kt(R L:ai)(d:Nat):MG L {R with tape:=L.tape,drawn:=L.drawn} d:=λ_ _ _=>rfl
def sP.after{s:GStep}(h:sP s)(a:Array Event):sP (GStep.after a s):=by obtain⟨o,w,b,rfl⟩:=h;exact⟨o,w,_,rfl⟩
def uQ.after{f b:Ren}{cl:List aY}{s:GStep}(h:uQ P c b cl s)(k:Array Event)(e:Ext P f b):uQ P c f cl (GStep.after k s):=by obtain⟨a,i,w,l,d,g,j,rfl,m,n,o,p⟩:=h;exact⟨a,i,w,_,d,g,j,rfl,m,n,o,e.trans p⟩
def rm{S T:Type}{Q:Ren->S->T->Prop}{m:Ren}{s:Sem S}{s':Sem T}(hs:aB P c.sig Q s m s'){L R:ai}(l:bS P c.sig m L R){fn B:bG}{cl cr:List aY}{ro:Option Nat×bG}{k:S->ai->GStep}{k':T->ai->GStep}{h h':Halt->ai->GStep}(hk:∀b x y d f,Ext P m b->Q b x y->bS P c.sig b d f->lY P c Z Y b d f cl cr ro (k x d) (k' y f))(n:∀x d b f,x.lost=ar->Ext P m b->bS P c.sig b d f->sP (h x d)\/uQ P c m cl (h x d)):lY P c Z Y m L R cl cr ro (phase P fn s k h L) (phase P B s' k' h' R):=by
 have u:=hs.run l #[] #[];have o:=hs.run (R:={R with tape:=L.tape,drawn:=L.drawn}) ⟨l.ok,l.obj,l.kr,l.mR,l.old⟩ #[] #[];unfold phase;revert u o;cases hrL:s.runT P L #[]with
 |mk r es=>
  cases r with
  |halt x d=>rintro⟨hl,b,f,e,g⟩ _;rcases n x d b f hl e g with n|n;exact .inl (n.after _);exact .inr (.inl (n.after _ (Ext.refl l.ok)))
  |ok x d=>
   rintro⟨C,z,D⟩ ⟨_,_,E⟩;obtain⟨U,y1,R1,ev1,e1,_,K,N,_,_,_⟩:=E (Kt R L _);by_cases hE:sP (k x d);exact .inl (hE.after _);by_cases hP:uQ P c m cl (k x d);exact .inr (.inl (hP.after _ (Ext.refl l.ok)));have third:∀b y f,Ext P m b->Q b x y->bS P c.sig b d f->_:=λb y f e J g=>((hk b x y d f e J g).resolve_left hE).resolve_left λh=>hP (by have:=h.after #[] e;obtain⟨a,ch,w,A,V,R2,ds,n,C,z,D,E⟩:=h;exact⟨a,ch,w,A,V,R2,ds,n,C,z,D,e.trans E⟩)
   obtain⟨gL,L2,es2,t,F,M,_⟩:=third U y1 R1 e1 K N;refine .inr (.inr ⟨gL,L2,_,by simp only[t,j7];rfl,be C F,M.trans z,λX=> ?_⟩);obtain⟨b,y,f,ev,e,hr,J,g,hd,YV,H⟩:=D (λi q hi=>X i q (by omega));simp only[iK]at hr;obtain⟨gL',L2',adK,j,_,_,hA⟩:=third b y f e J g;rw[t]at j;cases j;obtain⟨W,gR,R3,ev3,e3,I,ht,O,G,ad3,p⟩:=hA (λi q hi=>by have:=X (d.drawn-L.drawn+i) q (by omega);rw[show R.drawn+(d.drawn-L.drawn+i)=f.drawn+i by omega,show L.drawn+(d.drawn-L.drawn+i)=d.drawn+i by omega]at this;rw[hd.tape,z];exact this)
   refine⟨W,gR,R3,_,e.trans e3,by simp only[hr,I,j7];rfl,ht,O,hd.trans G,by omega,λx v=> ?_⟩;rcases nz.1 v with v|v;exact(H x (iT _ _ _ v)).mono e3;exact p x v
end
section
variable{P:aO} {c:fg} {Z Y:List Item}
def Jf{f:Ren}(s:Ren.Ok P f)(fn:bG){t u:Array ak}(E:cz c.sig f t u)(o:Array Tmp){a b:Code}(A:dj c.cl a=ar)(B:dj c.cl b=ar){v l:Option Nat}(k:gq f v l):aB P c.sig (λf x y=>f x.1 y.1/\dh (lR f) x.2 y.2) (Instr.enterLoop fn t o a b v) f (Instr.enterLoop fn u o a b l):=by
 unfold Instr.enterLoop;have z:∀(g:Ren)(d p:Nat)(m q:List Deferred),Ext P f g->g d p->dh (lR g) m q->aB P c.sig (λf x y=>f x.1 y.1/\dh (lR f) x.2 y.2)
  (do pure (<-newObj (.loop {state:=.ready,pending:=ah,fn,tmps:=t,params:=o,assign:=a,body:=b,defers:=d}),m)) g
  (do pure (<-newObj (.loop {state:=.ready,pending:=ah,fn,tmps:=u,params:=o,assign:=a,body:=b,defers:=p}),q)):=λg d p m q e C hm=>
  aB.bind e.ok (AU (.loop ⟨rfl,rfl,(λ_ h=>by cases h),rfl,cz.mono e E,rfl,rfl,A,rfl,B,C⟩)) λj r w n k=>aA ⟨k,lR.list n hm⟩
 cases k with
 |none=>
  refine aB.bind s (AU (.deferred ar)) λg r w e k=> ?_
  exact aB.bind (Q:=λf x y=>f x.1 y.1/\dh (lR f) x.2 y.2) e.ok (aA ⟨k,.cons (.mk k) .nil⟩) λj x y n i=>z j _ _ _ _ (e.trans n) i.1 i.2
 |some D=>
  refine aB.bind s (ry s D) λg r w e k=> ?_
  exact aB.bind (Q:=λf x y=>f x.1 y.1/\dh (lR f) x.2 y.2) e.ok (aA ⟨k.defers,.nil⟩) λj x y n i=>z j _ _ _ _ (e.trans n) i.1 i.2
def xW.set{S:gM}{c:Ren}{a b:Loop}(h:xW S c a b)(s:LoopState)(j:Option Code)(d:∀x,j=ae x->S.code x):xW S c {a with state:=s,pending:=j} {b with state:=s,pending:=j}:=⟨rfl,rfl,d,h.fn,h.tmps,h.params,h.assign,h.Zt,h.body,h.okB,h.defers⟩
def xW.EO{S:gM}{c:Ren}{a b:Loop}(h:xW S c a b)(s:LoopState):xW S c {a with state:=s} {b with state:=s}:=⟨rfl,h.pending,h.okP,h.fn,h.tmps,h.params,h.assign,h.Zt,h.body,h.okB,h.defers⟩
def FY{S:gM}{a:Ren}(d:Ren.Ok P a){l c:Nat}(h:a l c):aB P S lq (Instr.beginRound l) a (Instr.beginRound c):=by
 unfold Instr.beginRound;refine aB.bind d (ry d h) λg r j e b=> ?_
 refine aB.bind e.ok (lG (e.le _ _ h) (.loop (b.EO .busy))) λi _ _ f _=> ?_
 rw[b.state];cases r.state<;>first|exact aA rfl|exact jk f.ok _
def LL{S:gM}{a:Ren}(c:Ren.Ok P a){l b:Nat}(h:a l b)(j:Option Code)(d:∀x,j=ae x->S.code x):aB P S (VQ S) (Instr.endRound l j) a (Instr.endRound b j):=by
 unfold Instr.endRound;refine aB.bind c (ry c h) λg r m e f=> ?_
 exact aB.bind e.ok (lG (e.le _ _ h) (.loop (f.set _ j d))) λi _ _ k _=>aA (.bool _)
def PQ{S:gM}{c:Ren}(f:Ren.Ok P c){l b:Nat}(h:c l b):aB P S (λ_ x y=>y=x/\∀k,x=ae k->S.code k) (Instr.endLoop l) c (Instr.endLoop b):=by
 unfold Instr.endLoop;refine aB.bind f (ry f h) λd r g e a=> ?_
 rw[a.state];have i:aB P S (λ_ x y=>y=x/\∀k,x=ae k->S.code k) (do setObj l (.loop {r with state:=.exhausted});pure r.pending) d (do setObj b (.loop {g with state:=.exhausted});pure g.pending):=aB.bind e.ok (lG (e.le _ _ h) (.loop (a.EO .exhausted))) λj _ _ m _=>aA ⟨a.pending,a.okP⟩
 cases r.state<;>first|exact i|exact aB.bind (Q:=λ_ _ _=>False) e.ok (jk e.ok _) λ_ _ _ _ h=>h.elim
def tB{S:gM}{a:Ren}(f:Ren.Ok P a){r c:Nat}(h:a r c):aB P S (λ_ x y=>x=[]/\y=[]) (Instr.takeDeferred r) a (Instr.takeDeferred c):=by
 unfold Instr.takeDeferred;refine aB.bind f (iR h) λg o k e d=> ?_
 cases d with
 |deferred b=>
  cases b with|false=>exact rfl|true=>exact aB.bind e.ok (lG (e.le _ _ h) (.deferred au)) λi _ _ j _=>aA ⟨rfl,rfl⟩
 |_=>exact rfl
def xv(h:c.bad=[])(F:Func):F.results.toList.all (oc c.bad)=ar:=lM.2 λr _=>by rw[h];cases r<;>rfl
def Wq{S:gM}{n:Type}{f j:n->Sem ak}{i:Ren}(q:Ren.Ok P i)(x:Array n)(v:∀a∈x.toList,∀g,Ext P i g->aB P S (VQ S) (f a) g (j a)):aB P S (Yi S) (x.mapM f) i (x.mapM j):=by
 rw[Array.mapM_eq_mapM_toList,Array.mapM_eq_mapM_toList];have m:∀(l:List n)(d:Ren),(∀a∈l,∀g,Ext P i g->aB P S (VQ S) (f a) g (j a))->Ext P i d->aB P S (λi a b=>dh (bh S i) a b) (l.mapM f) d (l.mapM j):=by
  intro l
  induction l with|nil=>intro d _ e;rw[List.mapM_nil,List.mapM_nil];exact aA .nil|cons a l w=>intro d p e;rw[List.mapM_cons,List.mapM_cons];exact aB.bind e.ok (p a (by simp) d e) λo b r k h=>aB.bind k.ok (w o (λa t=>p a (by simp[t])) (e.trans k)) λy c z s u=>aA (.cons (h.mono s) u)
 exact aB.bind q (m _ i v (Ext.refl q)) λd b r k h=>aA (fO.Nq h)
def si{j:Ren}(l:Ren.Ok P j)(F:Func)(o:F.results.toList.all (oc c.bad)=ar){t m:Array ak}(h:qc c j t m):aB P c.sig (VQ c.sig) (results F t) j (results F m):=by
 unfold results;refine aB.bind l (Wq l _ (λa p q e=> ?_)) λr vs d u b=> ?_
 have k:=lM.1 o a p;cases a with|tmp t=>exact aA ((h.mono e).getD (by simpa[oc]using k))|cell a t=>exact aB.bind e.ok (Je e.ok ((h.mono e).getD (by simpa[oc]using k))) λs x y n i=>Ey n.ok t i
 by_cases f:vs.size=1;have g:d.size=1:=b.size▸f;rw[dif_pos f,dif_pos g];exact aA (b.at_ 0 _ _ (aH _) (aH _));have g:¬d.size=1:=b.size▸f;rw[dif_neg f,dif_neg g];exact aA (.tuple b.size b.at_)
def KO{g:Ren}(d:KOk Z Y)(i:Nat):∀{k a:List Item},G6 c Z Y g k a->(exitTo i k=ah/\(Z=[]->exitTo i a=ah))\/∃r f,exitTo i k=ae r/\exitTo i a=ae f/\G6 c Z Y g r f:=by
 intro k a h
 induction h with
 |nil=>exact .inl ⟨d.ex i,λe=>by rw[d.kk e];rfl⟩|cons l m b=>
  cases l with|inBlock j=>unfold exitTo;split;exact .inr ⟨_,_,rfl,rfl,m⟩;exact b|_=>exact b
def J4{l:Ren}(e:Array Oper){t g:Array ak}(h:qc c l t g)(j:Nat):yielded e g j=yielded e t j:=by
 unfold yielded;cases((e[j]?).bind (·.dst))with
 |none=>rfl|some d=>simp only[kH];rcases dU d t.size with b|f;have a:d<g.size:=h.size▸b;rw[aH b,aH a];rcases h.at_ d _ _ (aH b) (aH a)with i|⟨_,k,_⟩;revert i;generalize t[d]=u;generalize g[d]=v;intro i;cases i<;>rfl;rw[k];rw[hZ f,hZ (h.size▸f)]
end
section
variable{P:aO} {c:fg} {Z Y:List Item}
def wJ(h:c.bad=[])(o:Oper):yP c o=au:=by
 unfold yP;have a:∀t,c.bad.contains t=au:=λt=>by rw[h];rfl
 split<;>simp only[a,Bool.false_and];split;simp only[Bool.true_and];split<;>rfl;simp
def Ly(h:c.bad=[])(f:bG):∀(l:List ca)(j:Nat),kx c f j l=kx c.cl f j l:=by
 intro l
 induction l with
 |nil=>intro j;rfl|cons x l a=>
  intro j;unfold kx;rw[a];congr 1;cases x with|tmp t=>simp[sC,ed,fg.cl,h]|_=>rfl
def Lz(h:c.bad=[])(o:Oper):jL c o=jL c.cl o:=by
 have a:ed c=ed c.cl:=funext λx=>by cases x<;>simp[ed,fg.cl,h]
 have b:=λf=>Ly h f
 have d:nW c=nW c.cl:=funext λk=>by unfold nW;rw[a];simp only[b];rfl
 unfold jL;rw[wJ h,wJ (c:=c.cl) rfl];congr 1;unfold oz;rw[a,d];rfl
def Ax(h:c.bad=[]):∀x:Code,dj c x=dj c.cl x:=by
 have k:ed c=ed c.cl:=funext λx=>by cases x<;>simp[ed,fg.cl,h]
 have l:jL c=jL c.cl:=funext λo=>Lz h o
 intro x
 induction x with|region n m d=>simp only[dj,l]|seq a b e g=>simp only[dj,e,g]|cond o a b e g=>simp only[dj,e,g,k]|block i b j=>simp only[dj,j]|loop b j=>simp only[dj,j]|scope b j=>simp only[dj,j]|rangeFunc f p a b e g=>simp only[dj,e,g,k,h];rfl|_=>rfl
def th(P:aO)(m:Bool)(a:aY)(cl:List aY)(j:Option Code)(w:ai):GStep:=
 match a.roundOf with
 |none=>if j matches ah|some .ret then .go (jd {a with mode:=.returning} cl) w else .ended (.stuck "exit, goto: no such block or label" (a.pos P)) w
 |some l=>phase P a.fn (Instr.endRound l j) (λv w=>doReturn P m a cl ah v w) (λ_ w=>.ended (.stuck "range over a function: no such loop" (a.pos P)) w) w
def rU{d:Ren}{L R:ai}(g:bS P c.sig d L R){a b:aY}(h:qa c Z Y d a b){x y:aY}{l r:List aY}{v e:ak}(o:bh c.sig d v e)(m i:Bool){j:Option Nat×bG}(f:j.1≠ah):lY P c Z Y d L R (x::l) (y::r) j (doReturn P m a (x::l) ah v L) (doReturn P i b (y::r) ah e R):=by
 have k:doReturn P m a (x::l) ah v L=.go (jd (x.finish v) l) L:=by unfold doReturn;simp only[h.kind]
 have n:doReturn P i b (y::r) ah e R=.go (jd (y.finish e) r) R:=by unfold doReturn;simp only[h.IG]
 rw[k,n];exact .inr (.inr ⟨_,_,_,rfl,av _,rfl,λ_=>⟨d,_,_,_,Ext.refl g.ok,rfl,.pop f rfl rfl o,g,uz.refl _ _ _,rfl,by simp⟩⟩)
def xp{o:Ren}{L R:ai}(s:bS P c.sig o L R){a b:aY}(h:qa c Z Y o a b){cl k:List aY}(q:a.roundOf≠ah->∃x l y m,cl=x::l/\k=y::m)(m z:Bool)(j:Option Code)(A:∀x,j=ae x->dj c.cl x=ar):lY P c Z Y o L R cl k (sZ a) (th P m a cl j L) (th P z b k j R):=by
 obtain⟨fn,tmps,todo,defers,mode,kind,round⟩:=a;obtain⟨p,g,i,d,u,f,n⟩:=b;have w:=h.round;simp only at w;cases w with
 |none=>
  have main:lY P c Z Y o L R cl k (ah,fn) (.go (jd {fn,tmps,todo,defers,mode:=.returning,kind,roundOf:=ah} cl) L) (.go (jd {fn:=p,tmps:=g,todo:=i,defers:=d,mode:=.returning,kind:=f,roundOf:=ah} k) R):=lY.here s ⟨h.fn,h.tmps,h.todo,h.defers,rfl,.inr rfl,h.kind,h.IG,.none,h.ks,λh=>absurd rfl h⟩ rfl
  cases j with
  |none=>exact main|some x=>cases x<;>first|exact main|exact .inl ⟨_,_,_,rfl⟩
 |some B=>obtain⟨x,l,y,r,rfl,rfl⟩:=q (by simp);exact rm (LL s.ok B j A) s (λD v G E F e C t=>rU t (h.mono e) C m z (by simp)) (λ_ _ _ _ _ _ _=>.inl ⟨_,_,_,rfl⟩)
def H9(m:Bool)(b:aY)(cl:List aY)(w:ai)(h:b.todo=[]):ib P m ar b cl ah w=th P m b cl ah w:=by
 obtain⟨i,e,f,a,d,c,round⟩:=b;simp only at h;subst h;cases round with
 |none=>rfl|some l=>
  unfold ib th phase;simp only;cases(Instr.endRound l ah).runT P w #[]with|mk r g=>cases r<;>rfl
def Ib(m:Bool)(b:aY)(cl:List aY)(w:ai)(k:List Item)(h:b.todo=.code .ret::k):ib P m ar b cl ah w=th P m b cl (ae .ret) w:=by
 obtain⟨i,e,f,a,d,c,round⟩:=b;simp only at h;subst h;cases round with
 |none=>rfl|some l=>
  unfold ib th phase;simp only;cases(Instr.endRound l (ae .ret)).runT P w #[]with|mk r g=>cases r<;>rfl
def DF(m:Bool)(a:aY)(cl:List aY)(w:ai)(i:Nat)(k:List Item)(h:a.todo=.code (.exit i)::k):ib P m ar a cl ah w=(exitTo i k).elim (th P m a cl (ae (.exit i)) w) λk=>.go (jd {a with todo:=k} cl) w:=by
 obtain⟨g,e,todo,b,d,c,round⟩:=a;simp only at h;subst h;cases round with
 |none=>rfl|some l=>
  unfold ib th phase;simp only;cases exitTo i k with
  |some k=>rfl|none=>
   simp only[Option.elim_none];cases(Instr.endRound l (ae (.exit i))).runT P w #[]with|mk r f=>cases r<;>rfl
def H7(m:Bool)(a:aY)(cl:List aY)(w:ai)(l:Nat)(k:List Item)(h:a.todo=.endRangeFunc l::k):ib P m ar a cl ah w=phase P a.fn (Instr.endLoop l) (λb w=>.go (jd {a with todo:=(b.map Item.code).toList++k} cl) w) (λx w=>match x with
 |.panic v=>.go (jd (a.raise [{v,recovered:=false}]) cl) w|_=>.ended (.stuck "range over a function: no such loop" (a.pos P)) w) w:=by
 obtain⟨i,f,todo,c,e,d,round⟩:=a;simp only at h;subst h;unfold ib phase;simp only;cases(Instr.endLoop l).runT P w #[]with
 |mk r g=>
  cases r with|ok _ _=>rfl|halt x _=>cases x<;>rfl
def MY(m:Bool)(a:aY)(cl:List aY)(w:ai)(f:ca)(e:Array Tmp)(x y:Code)(k:List Item)(h:a.todo=.code (.rangeFunc f e x y)::k):ib P m ar a cl ah w=phase P a.fn (Instr.enterLoop a.fn a.tmps e x y a.roundOf) (λb w=>eS P ar {a with todo:=.inRangeFunc b.1::k,defers:=b.2++a.defers} cl ah (do let d<-resolve (Frame.eval {a with todo:=.inRangeFunc b.1::k,defers:=b.2++a.defers}) {callee:=.value f,args:=#[.const (.func (.yield b.1) #[] #[])],argTypes:=#[]} 0;invoke d.target d.args) w) (λ_ w=>.ended (.stuck "range over a function: no such loop" (a.pos P)) w) w:=by
 obtain⟨j,c,todo,defers,i,g,round⟩:=a;simp only at h;subst h;unfold ib phase;simp only;cases(Instr.enterLoop j c e x y round).runT P w #[]with
 |mk r l=>
  cases r with|ok _ _=>rfl|halt x _=>rfl
def AY(a:aY)(f:ca)(v:ak):resolve a.eval {callee:=.value f,args:=#[.const v],argTypes:=#[]} 0=gS (a.eval f) #[v]:=by simp[resolve,Frame.eval]
def Ia(hc:c.Fits P){π:Ren}{L R:ai}(B:bS P c.sig π L R){a b:aY}(h:qa c Z Y π a b){cl C:List aY}(T:a.roundOf≠ah->∃x l y m,cl=x::l/\C=y::m)(hm:a.mode=.run)(Iz:a.todo=Z->Z=[])(m M:Bool):lY P c Z Y π L R cl C (sZ a) (ib P m ar a cl ah L) (ib P M ar b C ah R):=by
 have hEv:=h.Xx;have hEB:=h.evB;obtain⟨fn,tmps,todo,defers,mode,kind,round⟩:=a;obtain⟨fn',q,adG,g,adE,IG,p⟩:=b;have h':=h;obtain⟨h1,N,h3,h4,h5,h6,h7,h8,U,F,G⟩:=h';simp only at h1 N h3 h4 h5 h6 h7 h8 U hm Iz G;subst hm;subst h5;subst h7;subst h8;have h1:=h1.symm;subst h1;have I:∀{k E:List Item},G6 c Z Y π k E->lY P c Z Y π L R cl C (round,fn)
  (.go (jd {fn,tmps,todo:=k,defers,mode:=.run,kind:=.normal,roundOf:=round} cl) L)
  (.go (jd {fn,tmps:=q,todo:=E,defers:=g,mode:=.run,kind:=.normal,roundOf:=p} C) R):=λD=>
  lY.here B ⟨rfl,N,D,h4,rfl,.inl rfl,rfl,rfl,U,F,G⟩ rfl
 cases h3 with
 |nil=>have hkL:=Iz rfl;have hkR:=F.kk hkL;rw[H9 m _ cl L hkL,H9 M _ C R hkR];exact xp B h T m M ah (λ_ h=>by cases h)|cons hi D=>
  rename_i k E;cases hi with
  |inBlock i=>exact I D|inScope h=>exact I D|inLoop V=>exact I (.cons (.code V) (.cons (.inLoop V) D))|inRangeFunc _ X=>exact .inl ⟨_,_,_,rfl⟩|beginRound=>
   refine xc hc B h cl C (Q:=NQ c) ?_ λ_ _ _ _ h=>.inl h
   show aB P c.sig (NQ c) (do round.elim (stuck "beginRound: no round") Instr.beginRound;pure .skip) π (do p.elim (stuck "beginRound: no round") Instr.beginRound;pure .skip);cases U with|none=>exact rfl|some X=>exact LS B.ok (FY B.ok X)
  |endRangeFunc V X=>
   rename_i l l';rw[H7 m _ cl L l k rfl,H7 M _ C R l' E rfl];refine rm (PQ B.ok X) B (λJ x y L' R' e hxy H=> ?_) (λx L' J R' _ e H=> ?_);obtain⟨rfl,A⟩:=hxy;refine lY.here H ⟨rfl,N.mono e,?_,lR.list e h4,rfl,.inl rfl,rfl,rfl,gq.ren e U,F,G⟩ rfl;cases y with|none=>exact D.mono e|some j=>exact .cons (.code (by have:=A j rfl;rwa[show c.sig.code j=(dj c.cl j=ar)from rfl,<-Ax V]at this)) (D.mono e)
   cases x with|panic v=>exact .inr ⟨_,_,L',_,J,R',g,rfl,rfl,H,lR.list e h4,e⟩|_=>exact .inl ⟨_,_,_,rfl⟩
  |inRegion l ho=>
   rename_i s;cases l with
   |nil=>exact I D|cons i t=>
    have adk:yielded s q=yielded s tmps:=funext λj=>J4 s N j
    have W:=h.finish (v:=undef) (v':=undef) (.tuple rfl (by simp));have e1:ib P m ar {fn,tmps,todo:=.inRegion s (i::t)::k,defers,mode:=.run,kind:=.normal,roundOf:=round} cl ah L=
     if((s[i]?).map (Region.wanted · (yielded s tmps))).getD au then stepG.oper P ar {fn,tmps,todo:=.inRegion s (i::t)::k,defers,mode:=.run,kind:=.normal,roundOf:=round} cl ah L
     else .go (jd (Frame.finish {fn,tmps,todo:=.inRegion s (i::t)::k,defers,mode:=.run,kind:=.normal,roundOf:=round} undef) cl) L:=rfl
    have e2:ib P M ar {fn,tmps:=q,todo:=.inRegion s (i::t)::E,defers:=g,mode:=.run,kind:=.normal,roundOf:=p} C ah R=
     if((s[i]?).map (Region.wanted · (yielded s q))).getD au then stepG.oper P ar {fn,tmps:=q,todo:=.inRegion s (i::t)::E,defers:=g,mode:=.run,kind:=.normal,roundOf:=p} C ah R
     else .go (jd (Frame.finish {fn,tmps:=q,todo:=.inRegion s (i::t)::E,defers:=g,mode:=.run,kind:=.normal,roundOf:=p} undef) C) R:=rfl
    rw[e1,e2,adk];split;unfold stepG.oper;have o1:Frame.oper? {fn,tmps,todo:=.inRegion s (i::t)::k,defers,mode:=.run,kind:=.normal,roundOf:=round}=s[i]?:=rfl;have o2:Frame.oper? {fn,tmps:=q,todo:=.inRegion s (i::t)::E,defers:=g,mode:=.run,kind:=.normal,roundOf:=p}=s[i]?:=rfl;rw[o1,o2];cases hoi:s[i]? with
    |none=>exact .inl ⟨_,_,_,rfl⟩|some o=>
     obtain⟨l6,acY⟩:=aE.1 hoi;have S:jL c o=ar:=by have:=eK.1 ho i l6;rwa[acY]at this
     have main:=xc hc B h cl C (TC hc B.ok hEv hEB o S) λJ n n' e hq=>hq.imp id λ⟨v,d,e1,e2,e3,e4,e5⟩=>⟨v,e1,e2,λh=>h.Vt rfl hoi e3 e4 e5⟩
     simp only;cases hop:o.op with|defer k=>unfold jL oz yP at S;rw[hop]at S;cases S|_=>cases U<;>exact main
    exact lY.here B W.1 W.2
  |code A=>
   rename_i x;cases x with
   |skip=>exact I D|label l=>cases A|goto l=>cases A|refuse w=>cases A|ret=>rw[Ib m _ cl L k rfl,Ib M _ C R E rfl];exact xp B h T m M (ae .ret) (λ_ h=>by cases h;rfl)|seq x y=>simp only[dj,aG]at A;exact I (.cons (.code A.1) (.cons (.code A.2) D))|cond o x y=>
    simp only[dj,aG]at A;have hv:=hEv o A.1.1;have e1:ib P m ar {fn,tmps,todo:=.code (.cond o x y)::k,defers,mode:=.run,kind:=.normal,roundOf:=round} cl ah L=
     match Frame.eval {fn,tmps,todo:=.code (.cond o x y)::k,defers,mode:=.run,kind:=.normal,roundOf:=round} o with|.bool b=>.go (jd {fn,tmps,todo:=.code (if b then x else y)::k,defers,mode:=.run,kind:=.normal,roundOf:=round} cl) L|_=>.ended (.stuck "cond: bool expected" (Frame.pos P {fn,tmps,todo:=.code (.cond o x y)::k,defers,mode:=.run,kind:=.normal,roundOf:=round})) L:=rfl
    have e2:ib P M ar {fn,tmps:=q,todo:=.code (.cond o x y)::E,defers:=g,mode:=.run,kind:=.normal,roundOf:=p} C ah R=
     match Frame.eval {fn,tmps:=q,todo:=.code (.cond o x y)::E,defers:=g,mode:=.run,kind:=.normal,roundOf:=p} o with|.bool b=>.go (jd {fn,tmps:=q,todo:=.code (if b then x else y)::E,defers:=g,mode:=.run,kind:=.normal,roundOf:=p} C) R|_=>.ended (.stuck "cond: bool expected" (Frame.pos P {fn,tmps:=q,todo:=.code (.cond o x y)::E,defers:=g,mode:=.run,kind:=.normal,roundOf:=p})) R:=rfl
    rw[e1,e2];revert hv;generalize Frame.eval {fn,tmps,todo:=.code (.cond o x y)::k,defers,mode:=.run,kind:=.normal,roundOf:=round} o=v;generalize Frame.eval {fn,tmps:=q,todo:=.code (.cond o x y)::E,defers:=g,mode:=.run,kind:=.normal,roundOf:=p} o=v';intro hv;cases hv with
    |bool b=>cases b<;>first|exact I (.cons (.code A.2) D)|exact I (.cons (.code A.1.2) D)
    |_=>exact .inl ⟨_,_,_,rfl⟩
   |block i x=>exact I (.cons (.code A) (.cons (.inBlock i) D))|loop x=>exact I (.cons (.code A) (.cons (.inLoop A) D))|scope x=>exact I (.cons (.code A) (.cons (.inScope A) D))|exit i=>rw[DF m _ cl L i k rfl,DF M _ C R i E rfl];rcases KO F i D with⟨he,O6⟩|⟨r,r',he,O6,hk2⟩;by_cases hr:round=ah;subst hr;refine .inl ?_;rw[he];exact⟨_,_,_,rfl⟩;rw[he,O6 (G hr)];exact xp B h T m M (ae (.exit i)) (λ_ h=>by cases h;rfl);rw[he,O6];exact I hk2
   |region id s draw=>
    cases draw with|false=>exact I (.cons (.inRegion _ A) D)|true=>refine .inr (.inr ⟨jd {fn,tmps,todo:=.inRegion s (Region.schedule (P.follows .mixedOrders) s (L.tape L.drawn (.order fn id)))::k,defers,mode:=.run,kind:=.normal,roundOf:=round} cl,{L with drawn:=L.drawn+1},_,rfl,by simp,rfl,λag=> ?_⟩);have ag0:=ag 0 (.order fn id) (by simp);simp only[kq]at ag0;refine⟨π,jd {fn,tmps:=q,todo:=.inRegion s (Region.schedule (P.follows .mixedOrders) s (R.tape R.drawn (.order fn id)))::E,defers:=g,mode:=.run,kind:=.normal,roundOf:=p} C,{R with drawn:=R.drawn+1},_,Ext.refl B.ok,rfl,?_,⟨B.ok,B.obj,B.kr,B.mR,B.old⟩,⟨rfl,rfl,rfl,rfl,rfl,av _,av _,du _ _▸rfl,λ_ _ _=>rfl,λ_ _ _=>rfl,λ_ _ h=>.inl h,λl h1 N=>by simp only at N;omega,λ_ _ h=>h⟩,by simp;omega,by simp⟩;rw[ag0];exact .stay ⟨rfl,N,.cons (.inRegion _ A) D,h4,rfl,.inl rfl,rfl,rfl,U,F,G⟩ rfl
   |rangeFunc f ps x y=>
    simp only[dj,aG]at A;have V:c.bad=[]:=by simpa using A.1.1.1
    have h2v:=N.vs V;have hcx:∀z,dj c z=ar->dj c.cl z=ar:=λz hz=>by rw[<-Ax V];exact hz
    rw[MY m _ cl L f ps x y k rfl,MY M _ C R f ps x y E rfl];refine rm (Jf B.ok fn h2v ps (hcx _ A.1.2) (hcx _ A.2) U) B (λJ lm K L' R' e O H=> ?_) (λ_ _ _ _ _ _ _=>.inl ⟨_,_,_,rfl⟩);have hf:qa c Z Y J {fn,tmps,todo:=.inRangeFunc lm.1::k,defers:=lm.2++defers,mode:=.run,kind:=.normal,roundOf:=round} {fn,tmps:=q,todo:=.inRangeFunc K.1::E,defers:=K.2++g,mode:=.run,kind:=.normal,roundOf:=p}:=by
     refine⟨rfl,N.mono e,.cons (.inRangeFunc V O.1) (D.mono e),?_,rfl,.inl rfl,rfl,rfl,gq.ren e U,F,G⟩;have hd:=lR.list e h4;have X:=O.2;clear O T;show dh (lR J) (lm.2++defers) (K.2++g);generalize lm.2=u at X;generalize K.2=u' at X
     induction X with|nil=>exact hd|cons x _ ih=>exact .cons x ih
    refine xc hc H hf cl C (Q:=NQ c) ?_ λ_ _ _ _ h=>.inl h
    rw[AY,AY];exact yu hc H.ok (hf.Xx f A.1.1.2) (a:=#[.func (.yield lm.1) #[] #[]]) (a':=#[.func (.yield K.1) #[] #[]]) ⟨rfl,λi u v hu hv=>by
     match i,hu,hv with
     |0,hu,hv=>simp at hu hv;subst hu;subst hv;exact .func (.yield O.1) rfl (by simp) rfl (by simp)|i+1,hu,_=>simp at hu⟩
end
section
variable{P:aO} {c:fg} {kL kR:List Item}
def tL(m:Bool)(b:aY)(cl:List aY)(w:ai)(r:Nat)(x:Array ak)(c:List Deferred)(h:b.defers={target:=.collected r,args:=x}::c):unwind P m b cl ah w=phase P b.fn (Instr.takeDeferred r) (λa w=>.go (jd {b with defers:=a++c} cl) w) (λ_ w=>.ended (.stuck "the deferred calls of a range-over-func loop have been taken" (b.pos P)) w) w:=by
 obtain⟨j,f,g,defers,e,d,round⟩:=b;simp only at h;subst h;unfold unwind phase;simp only;cases(Instr.takeDeferred r).runT P w #[]with|mk r i=>cases r<;>rfl
def kW(m:Bool)(a:aY)(cl:List aY)(w:ai)(h:a.defers=[])(hm:a.mode=.returning):unwind P m a cl ah w=match P.funcs[a.fn]? with
 |none=>doReturn P m a cl ah (a.tmps.getD 0 undef) w|some F=>phase P a.fn (results F a.tmps) (λv w=>doReturn P m a cl ah v w)
  (λx w=>match x with
    |.stuck s=>.ended (.stuck s (a.pos P)) w|_=>.ended (.stuck "return: the result variables cannot be read" (a.pos P)) w) w:=by
 obtain⟨g,b,f,c,e,d,round⟩:=a;simp only at h hm;subst h;subst hm;unfold unwind;simp only;cases P.funcs[g]? with
 |none=>rfl|some F=>
  unfold phase;simp only;cases(results F b).runT P w #[]with
  |mk r i=>
   cases r with|ok _ _=>rfl|halt x _=>cases x<;>rfl
def Hs{o:Ren}{L R:ai}(q:bS P c.sig o L R){a b:aY}(h:qa c kL kR o a b)(cl g:List aY)(m r:Bool)(v:a.defers≠ []):lY P c kL kR o L R cl g (sZ a) (unwind P m a cl ah L) (unwind P r b g ah R):=by
 have j:=h.defers;revert j;cases p:a.defers with
 |nil=>exact absurd p v|cons d s=>
  cases u:b.defers with
  |nil=>intro h;cases h|cons C i=>
   intro j;cases j with
   |cons t w=>
    cases t with|mk k=>rw[tL m a cl L _ _ s p,tL r b g R _ _ i u];refine rm (tB q.ok k) q (λz x y A B e n l=> ?_) (λ_ _ _ _ _ _ _=>.inl ⟨_,_,_,rfl⟩);obtain⟨rfl,rfl⟩:=n;have f:=h.mono e;exact lY.here l ⟨f.fn,f.tmps,f.todo,lR.list e w,f.mode,f.ok,f.kind,f.IG,f.round,f.ks,f.rk⟩ rfl
def WB{a:aY}(g:c.bad=[]\/∃F,P.funcs[a.fn]? =ae F/\F.results.toList.all (oc c.bad)=ar){p:Ren}{L R:ai}(n:bS P c.sig p L R){b:aY}(h:qa c kL kR p a b){x y:aY}{l r:List aY}(m j:Bool)(hm:a.mode=.returning)(t:a.defers=[]):lY P c kL kR p L R (x::l) (y::r) (ae 0,a.fn) (unwind P m a (x::l) ah L) (unwind P j b (y::r) ah R):=by
 have k:b.defers=[]:=by have i:=h.defers;rw[t]at i;revert i;generalize b.defers=C;intro i;cases i;rfl
 rw[kW m a _ L t hm,kW j b _ R k (h.mode.trans hm),h.fn];cases s:P.funcs[a.fn]? with
 |none=>rcases g with f|⟨F,d,_⟩;exact rU n h (cz.getD (h.tmps.vs f) 0) m j (by simp);rw[s]at d;cases d
 |some F=>
  have z:F.results.toList.all (oc c.bad)=ar:=by rcases g with f|⟨B,d,h⟩;exact xv f F;rw[s]at d;cases d;exact h
  refine rm (si n.ok F z h.tmps) n (λq v D u w e A o=>rU o (h.mono e) A m j (by simp)) (λx u q w _ _ _=>.inl ?_);cases x<;>exact⟨_,_,_,rfl⟩
inductive rK(c:fg) (kL kR:List Item) (bot bot':List aY) (π:Ren):List aY->List aY->Prop
 |one {a b:aY}:qa c kL kR π a b->a.roundOf=ah->rK c kL kR bot bot' π (a::bot) (b::bot')
 |cons {d:fg} {a b:aY} {l m:List aY}:Up c d a.fn->qa d [] [] π a b->rK c kL kR bot bot' π l m->rK c kL kR bot bot' π (a::l) (b::m)
def rK.mono{b a:List aY}{f d:Ren}(e:Ext P f d){l m:List aY}(h:rK c kL kR b a f l m):rK c kL kR b a d l m:=by
 induction h with|one h g=>exact .one (h.mono e) g|cons i h _ j=>exact .cons i (h.mono e) j
def rK.ne{e d:List aY}{i:Ren}{l m:List aY}(h:rK c kL kR e d i l m):∃a f b g,l=a::f/\m=b::g:=by cases h<;>exact⟨_,_,_,_,rfl,rfl⟩
def rK.lt{a b:List aY}{d:Ren}{l m:List aY}(h:rK c kL kR a b d l m):a.length<l.length:=by
 induction h with|one=>simp|cons _ _ _ e=>simp;omega
structure GR(c:fg) (kL kR:List Item) (bot bot':List aY) (π:Ren) (g g':aw):Prop where
 l:g=jd g.frame g.callers
 r:g'=jd g'.frame g'.callers
 stk:rK c kL kR bot bot' π (g.frame::g.callers) (g'.frame::g'.callers)
def U2(a:List aY)(g:aw):Prop:=g.callers=a/\g.frame.mode=.returning/\g.frame.defers=[]
def sM(k:List Item)(a:List aY)(g:aw):Prop:=U2 a g\/(g.callers=a/\g.frame.mode=.run/\g.frame.todo=k/\k≠ [])
def rE(m:Bool)(a:aY)(cl:List aY)(w:ai)(h:a.mode=.run):stepG P m (jd a cl) w=ib P m ar a cl ah w:=by obtain⟨g,e,f,b,d,c,round⟩:=a;simp only at h;subst h;rfl
def fS(m:Bool)(a:aY)(cl:List aY)(w:ai)(h:a.mode≠.run):stepG P m (jd a cl) w=unwind P m a cl ah w:=by
 obtain⟨g,e,f,c,b,d,round⟩:=a;cases b with|run=>exact absurd rfl h|_=>rfl
def Q6(P:aO)(c:fg)(kL kR:List Item)(g d:List aY)(k:Ren)(L R:ai)(m n:GStep):Prop:=
 ∃i b l,m=.go i b l/\L.drawn<=b.drawn/\b.tape=L.tape/\(MG L R b.drawn->
  ∃a j f h,Ext P k a/\n=.go j f h/\GR c kL kR g d a i j/\bS P c.sig a b f/\uz k a L R b f/\f.drawn+L.drawn=R.drawn+b.drawn/\∀e∈h,wX c.sig a e)
def Oi(P:aO)(c:fg)(kL kR:List Item)(d e:List aY)(g:aw)(w:ai):Prop:=∃a cl b h R i,g=jd a cl/\a.mode=.panicking b/\bS P c.sig h w R/\dh (lR h) a.defers i/\(cl=d\/∃f,rK c kL kR d e h cl f)
def Br(hc:c.Fits P){k j:List aY}{C:Ren}{L R:ai}(hw:bS P c.sig C L R){g g':aw}(h:GR c kL kR k j C g g')(hl:¬sM kL k g)(m D:Bool):sP (stepG P m g L)\/(∃X w2 U,stepG P m g L=.go X w2 U/\Oi P c kL kR k j X w2)\/Q6 P c kL kR k j C L R (stepG P m g L) (stepG P D g' R):=by
 obtain⟨rl,rr,hs⟩:=h;revert hs hl;rw[rl,rr];generalize g.frame=a;generalize g.callers=cl;generalize g'.frame=b;generalize g'.callers=W;intro hl hs;have n:∀{d:fg}{qL qR:List Item}{a b:aY},qa d qL qR C a b->a.mode≠.run->a.mode=.returning:=λh t=>h.ok.resolve_left t
 have s:∀{d:fg}{qL qR:List Item}{a b:aY}{cl W:List aY}{ro:Option Nat×bG}{sL sR:GStep},d.sig=c.sig->lY P d qL qR C L R cl W ro sL sR->(cl=k\/∃K,rK c kL kR k j C cl K)->
  (∀i u v,Ext P C i->G7 d qL qR i cl W ro u v->GR c kL kR k j i u v)->
  sP sL\/(∃X w2 U,sL=.go X w2 U/\Oi P c kL kR k j X w2)\/Q6 P c kL kR k j C L R sL sR:=by
  intro d _ _ _ _ cl W ro sL sR Z Q Sr M;unfold lY uQ at Q;rw[Z]at Q;rcases Q with h|⟨a,ch,w,U,i,R',ds,rfl,E,G,h3,h4⟩|⟨u,L',U,rfl,E,G,h3⟩;exact .inl h;exact .inr (.inl ⟨_,_,_,rfl,a,cl,ch,i,R',ds,rfl,E,G,h3,Sr.imp id λ⟨K,h⟩=>⟨K,h.mono h4⟩⟩);refine .inr (.inr ⟨u,L',U,rfl,E,G,λag=> ?_⟩);obtain⟨i,v,R',ev,e,t,S,Zd,V,YV,Cw⟩:=h3 ag;exact⟨i,v,R',ev,e,t,M i u v e S,Zd,V,YV,Cw⟩
 cases hs with
 |one o t=>
  have M:∀i u v,Ext P C i->G7 c kL kR i k j (sZ a) u v->GR c kL kR k j i u v:=by
   intro i u v e S;cases S with|stay h p=>exact⟨rfl,rfl,.one h ((congrArg Prod.fst p).trans t)⟩|push A N h p=>exact⟨rfl,rfl,.cons A N (.one h ((congrArg Prod.fst p).trans t))⟩|pop B=>exact absurd t B
  by_cases hm:a.mode=.run;rw[rE m a _ L hm,rE D b _ R (o.mode.trans hm)];exact s (a:=a) (b:=b) rfl (Ia hc hw o (λh=>absurd t h) hm (λe=>Classical.byContradiction λB=>hl (.inr ⟨rfl,hm,e,B⟩)) m D) (.inl rfl) M;have O:=n o hm;rw[fS m a _ L hm,fS D b _ R (by rw[o.mode];exact hm)];exact s (a:=a) (b:=b) rfl (Hs hw o k j m D λV=>hl (.inl ⟨rfl,O,V⟩)) (.inl rfl) M
 |cons A o f=>
  rename_i d;have T:bS P d.sig C L R:=by rw[A.sig];exact hw
  have H:∀z:aY,z.fn=a.fn->Up c d z.fn:=λz h=>by rw[h];exact A
  have M:∀i u v,Ext P C i->G7 d [] [] i cl W (sZ a) u v->GR c kL kR k j i u v:=by
   intro i u v e S;have f:=f.mono e;cases S with
   |stay h p=>exact⟨rfl,rfl,.cons (H _ (congrArg Prod.snd p)) h f⟩|push q N h p=>exact⟨rfl,rfl,.cons (A.up q) N (.cons (H _ (congrArg Prod.snd p)) h f)⟩|pop B E G I=>
    subst E;subst G;rw[A.sig]at I;refine⟨rfl,rfl,?_⟩;cases f with|one J t=>have:=J.finish I;exact .one this.1 ((congrArg Prod.fst this.2).trans t)|cons q J t=>exact .cons (by rw[show(Frame.finish _ _).fn=_ from congrArg Prod.snd (J.finish (by rw[q.sig];exact I)).2];exact q) (J.finish (by rw[q.sig];exact I)).1 t
  obtain⟨x,l,y,r,rfl,rfl⟩:=f.ne;by_cases hm:a.mode=.run;rw[rE m a _ L hm,rE D b _ R (o.mode.trans hm)];exact s (d:=d) (a:=a) (b:=b) A.sig (Ia (c:=d) (A.fits hc) T o (λ_=>⟨_,_,_,_,rfl,rfl⟩) hm (λ_=>rfl) m D) (.inr ⟨_,f⟩) M;have O:=n o hm;rw[fS m a _ L hm,fS D b _ R (by rw[o.mode];exact hm)];by_cases V:a.defers=[];have Y:d.bad=[]\/∃F,P.funcs[a.fn]? =ae F/\F.results.toList.all (oc d.bad)=ar:=by rcases A with rfl|⟨rfl,N⟩;exact .inl rfl;obtain⟨F,_,E,_,_,_,G⟩:=hc.fn a.fn N;exact .inr ⟨F,E,G⟩
  refine s (d:=d) (a:=a) (b:=b) A.sig (WB (c:=d) Y T o m D O V) (.inr ⟨_,f⟩) ?_;intro i u v e S;have f:=f.mono e;cases S with
  |stay h p=>exact⟨rfl,rfl,.cons (H _ (congrArg Prod.snd p)) h f⟩|push q N h p=>exact⟨rfl,rfl,.cons (A.up q) N (.cons (H _ (congrArg Prod.snd p)) h f)⟩|pop B E G I=>
   cases E;cases G;rw[A.sig]at I;refine⟨rfl,rfl,?_⟩;cases f with|one J t=>have:=J.finish I;exact .one this.1 ((congrArg Prod.fst this.2).trans t)|cons q J t=>exact .cons (by rw[show(Frame.finish _ _).fn=_ from congrArg Prod.snd (J.finish (by rw[q.sig];exact I)).2];exact q) (J.finish (by rw[q.sig];exact I)).1 t
  exact s (d:=d) (a:=a) (b:=b) A.sig (Hs (c:=d) T o _ _ m D V) (.inr ⟨_,f⟩) M
end
def Sub(c:Ren):Prop:=∀a b,c a b->a=b
def dt.eq{e:Ren}(s:Sub e){a b:Addr}(h:dt e a b):a=b:=by obtain⟨x,y,z⟩:=a;obtain⟨g,i,j⟩:=b;obtain⟨f,c,d⟩:=h;have:=s _ _ f;simp only at c d this;subst this;subst c;subst d;rfl
def sU{f:Type}{x y:Array f}(e:x.size=y.size)(h:∀(i:Nat) a b,x[i]? =ae a->y[i]? =ae b->a=b):x=y:=by apply Array.ext e;intro i c d;exact h i _ _ (aH c) (aH d)
def GN.eq{S:gM}{c:Ren}(s:Sub c):∀{a b:Fn},GN S c a b->a=b|_,_,.func _=>rfl|_,_,.yield h=>by rw[s _ _ h]
def bh.eq{S:gM}{d:Ren}(s:Sub d){v b:ak}(h:bh S d v b):v=b:=by
 induction h with|pointer h=>rw[h.eq s]|slice l c h=>rw[h.eq s]|map h=>rw[s _ _ h]|func e a _ k _ f g=>rw[e.eq s,sU a f,sU k g]|iface t _ j=>rw[j]|agg a _ i=>rw[sU a i]|tuple a _ i=>rw[sU a i]|_=>rfl
def cz.eq{S:gM}{c:Ren}(s:Sub c){x y:Array ak}(h:cz S c x y):x=y:=sU h.size λi a b d e=>(h.at_ i a b d e).eq s
def nS.eq{S:gM}{f:Ren}(s:Sub f){a b:MapEntry}(h:nS S f a b):a=b:=by obtain⟨k,v,n⟩:=a;obtain⟨g,j,i⟩:=b;obtain⟨c,d,e⟩:=h;simp only at c d e;rw[c.eq s,d.eq s,e]
def ic.eq{S:gM}{r:Ren}(s:Sub r){o q:Obj}(h:ic S r o q):o=q:=by
 cases h with
 |loop h=>rename_i a b;obtain⟨w,x,y,z,A,B,C,D⟩:=a;obtain⟨E,F,G,H,I,J,K,L⟩:=b;obtain⟨d,e,_,f,g,j,m,_,n,_,p⟩:=h;simp only at d e f g j m n p;rw[d,e,f,cz.eq s g,j,m,n,s _ _ p]|number l h=>rw[h.eq s]|deferred=>rfl|cells t M h=>rw[cz.eq s h]|map k h=>rw[sU h.size λi a b u v=>(h.at_ i a b u v).eq s]|stringIter=>rfl|mapIter a b c h=>
  cases h with|none=>rfl|some h=>rw[s _ _ h]
def dh.eq{c:Type}{R:c->c->Prop}(d:∀a b,R a b->a=b){l m:List c}(h:dh R l m):l=m:=by
 induction h with|nil=>rfl|cons h _ e=>rw[d _ _ h,e]
def gq.eq{c:Type}{R:c->c->Prop}(d:∀a b,R a b->a=b){l m:Option c}(h:gq R l m):l=m:=by
 cases h with|none=>rfl|some h=>rw[d _ _ h]
def oL.eq{c:fg}{d:Ren}(s:Sub d):∀(a b:Item),oL c d a b->a=b|_,_,.code _=>rfl|_,_,.inBlock _=>rfl|_,_,.inLoop _=>rfl|_,_,.inScope _=>rfl|_,_,.inRegion _ _=>rfl|_,_,.inRangeFunc _ h=>by rw[s _ _ h]|_,_,.endRangeFunc _ h=>by rw[s _ _ h]|_,_,.beginRound=>rfl
def lR.eq{c:Ren}(s:Sub c):∀(a b:Deferred),lR c a b->a=b|_,_,.mk h=>by rw[s _ _ h]
def qc.eq{c:fg}{d:Ren}(s:Sub d){x y:Array ak}(h:qc c d x y):x=y:=sU h.size λi a b e f=>(h.at_ i a b e f).elim (·.eq s) (·.2.1)
def G6.eq{c:fg}{k:List Item}{d:Ren}(s:Sub d){a b:List Item}(h:G6 c k k d a b):a=b:=by
 induction h with|nil=>rfl|cons h _ e=>rw[oL.eq s _ _ h,e]
def qa.eq{c:fg}{k:List Item}{z:Ren}(s:Sub z){a b:aY}(h:qa c k k z a b):a=b:=by obtain⟨C,x,y,e,w,v,round⟩:=a;obtain⟨A,j,l,d,i,g,f⟩:=b;obtain⟨m,n,o,p,q,B,r,t,u,_,_⟩:=h;simp only at m n o p q B r t u;rw[m,qc.eq s n,G6.eq s o,dh.eq (lR.eq s) p,q,r,t,gq.eq s u]
def rK.eq{c:fg}{k:List Item}{a:List aY}{b:Ren}(s:Sub b){l m:List aY}(h:rK c k k a a b l m):l=m:=by
 induction h with|one h _=>rw[h.eq s]|cons _ h _ d=>rw[h.eq s,d]
def GR.eq{c:fg}{k:List Item}{a:List aY}{d:Ren}(s:Sub d){g b:aw}(h:GR c k k a a d g b):g=b:=by obtain⟨e,f,i⟩:=h;rw[e,f];have:=i.eq s;simp only[List.cons.injEq]at this;rw[this.1,this.2]
def cL(w:ai)(t:Nat->Question->Nat)(d:Nat):ai:={w with tape:=t,drawn:=d}
section
variable{P:aO} {c:fg}
def Sub.UA{d c:Ren}(s:Sub d){L R e f:ai}(g:uz d c L R e f)(i:L.heap.size=R.heap.size):Sub c:=λa b h=>by rcases g.new a b h with x|x;exact s a b x;omega
def xJ{S:gM}{k c:Ren}(s:Sub k){L R L' e:ai}(h:R.heap=L.heap)(t:bS P S c L' e)(a:uz k c L R L' e):e.heap=L'.heap:=by
 have q:L.heap.size=R.heap.size:=by rw[h]
 have j:=s.UA a q;have u:=a.sizes;apply Array.ext_getElem?;intro i;rcases dU i L'.heap.size with f|f;by_cases b:∃r,c i r;obtain⟨r,b⟩:=b;obtain⟨o,v,m,n,p⟩:=t.obj _ _ b;obtain rfl:=j _ _ b;rw[m,n,p.eq j];rcases dU i L.heap.size with d|d;rw[a.rest i (by omega) λl d=>b ⟨i,by have:=s _ _ d;subst this;exact a.le _ _ d⟩,a.Jr i d λr g=>b ⟨r,a.le _ _ g⟩,h];exact absurd (a.all i d f) b;rw[hZ f,hZ (by omega)]
def EJ(U:c.Fits P){k:List Item}{b:List aY}{B:Ren}(s:Sub B){w:ai}(y:bS P c.sig B w w){g:aw}(h:GR c k k b b B g g)(X:¬sM k b g)(t:Nat->Question->Nat)(d:Nat):(sP (stepG P ar g (cL w t d)))\/(∃D O v,stepG P ar g (cL w t d)=.go D O v/\Oi P c k k b b D O)\/∃u m v n,stepG P ar g (cL w t d)=.go u m v/\d<=m.drawn/\m.tape=t/\Sub n/\bS P c.sig n m m/\GR c k k b b n u u/\∀p o,(∀i q,d+i<m.drawn->p (o+i) q=t (d+i) q)->∃C,stepG P ar g (cL w p o)=.go u (cL m p (o+(m.drawn-d))) C:=by
 have z:∀t d p o,bS P c.sig B (cL w t d) (cL w p o):=λt d p o=>⟨y.ok,y.obj,y.kr,y.mR,y.old⟩
 rcases Br U (z t d t d) h X ar ar with j|j|⟨u,m,v,l,G,K,hA⟩;exact .inl j;exact .inr (.inl j);obtain⟨n,gR,S,T,e,A,W,M,hd,YV,_⟩:=hA (λ_ _ _=>rfl);rw[l]at A;cases A;refine .inr (.inr ⟨u,m,v,n,l,G,K,s.UA hd rfl,M,W,λp o Z=> ?_⟩);rcases Br U (z t d p o) h X ar ar with⟨_,_,_,j⟩|⟨_,_,_,j,E⟩|⟨D,O,es2,r,_,_,F⟩;rw[l]at j;cases j;rw[l]at j;cases j;obtain⟨a,cl,ch,Q,R2,ds,rfl,hm,_⟩:=E;obtain⟨_,_,J⟩:=W;cases J with
 |one H _=>rcases H.ok with x|x<;>rw[hm]at x<;>cases x
 |cons _ H _=>rcases H.ok with x|x<;>rw[hm]at x<;>cases x
 rw[l]at r;cases r;obtain⟨Q,gR,S,T,e,A,I,N,f,V,_⟩:=F Z;have s2:=s.UA f rfl;obtain rfl:=I.eq s2;refine⟨T,?_⟩;rw[A];congr 1;have hh:=xJ s (L:=cL w t d) (R:=cL w p o) rfl N f;have j:=f.tape;have E:=f.os;have h3:=f.output;have h4:=f.osL;have h5:=f.uj;obtain⟨hp,tp,dr,os,out⟩:=S;obtain⟨Y8,tp',dr',os',Y⟩:=m;simp only[cL]at*;subst hh;subst j;subst E;subst h3;rw[h4,h5];congr 1;omega
end
end Rel
abbrev kz:Go.Conc.Lib.WgLink where
 add:=153
 done:=156
 wait:=106
 relMerge:=203
 disable:=157
 enable:=159
 inBubble:=165
 associate:=204
 fatal:=205
 uOr:=206
 uAdd:=207
 raceRead:=208
 uLoad:=158
 uStore:=209
 disassociate:=163
 semrelease:=210
 acquire:=160
 isAssociated:=161
 uCas:=162
 raceWrite:=164
 semacquire:=166
 orU64:=235
 addU64:=236
 loadU64:=211
 storeU64:=237
 casU64:=212
 tWgP:=232
 tUP:=235
 tAssoc:=270
 tWg:=189
 tAU:=186
 tU64:=184
 tUint:=230
 tU32:=187
 tPU32:=239
 tPAU:=276
 tPU64:=278
 tNoCopy:=181
 tANoCopy:=182
 tAlign64:=183
def Ul:Go.Conc.Lib.WgLib Tryz.prog kz where
 f_add:=func153
 f_done:=func156
 f_wait:=func106
 f_relMerge:=func203
 f_disable:=func157
 f_enable:=func159
 f_inBubble:=func165
 f_associate:=func204
 f_fatal:=func205
 f_uOr:=func206
 f_uAdd:=func207
 f_raceRead:=func208
 f_uLoad:=func158
 f_uStore:=func209
 f_disassociate:=func163
 f_semrelease:=func210
 f_acquire:=func160
 f_isAssociated:=func161
 f_uCas:=func162
 f_raceWrite:=func164
 f_semacquire:=func166
 f_orU64:=func235
 f_addU64:=func236
 f_loadU64:=func211
 f_storeU64:=func237
 f_casU64:=func212
 underlying_tWgP:=underlying232
 runUnderlying_tWgP:=Tryz.runUnderlying232
 sizeOf_tWgP:=Tryz.sizeOf232
 isAgg_tWgP:=Tryz.isAgg232
 zeroValue_tWgP:=Tryz.zeroValue232
 underlying_tUP:=underlying235
 runUnderlying_tUP:=Tryz.runUnderlying235
 sizeOf_tUP:=Tryz.sizeOf235
 isAgg_tUP:=Tryz.isAgg235
 zeroValue_tUP:=Tryz.zeroValue235
 underlying_tI32:=underlying270
 runUnderlying_tI32:=Tryz.runUnderlying270
 sizeOf_tI32:=Tryz.sizeOf270
 isAgg_tI32:=Tryz.isAgg270
 zeroValue_tI32:=Tryz.zeroValue270
 underlying_tWg:=underlying189
 runUnderlying_tWg:=Tryz.runUnderlying189
 sizeOf_tWg:=Tryz.sizeOf189
 isAgg_tWg:=Tryz.isAgg189
 zeroValue_tWg:=Tryz.zeroValue189
 underlying_tAU:=underlying186
 runUnderlying_tAU:=Tryz.runUnderlying186
 sizeOf_tAU:=Tryz.sizeOf186
 isAgg_tAU:=Tryz.isAgg186
 zeroValue_tAU:=Tryz.zeroValue186
 underlying_tU64:=underlying184
 runUnderlying_tU64:=Tryz.runUnderlying184
 sizeOf_tU64:=Tryz.sizeOf184
 isAgg_tU64:=Tryz.isAgg184
 zeroValue_tU64:=Tryz.zeroValue184
 underlying_tSh:=underlying230
 runUnderlying_tSh:=Tryz.runUnderlying230
 sizeOf_tSh:=Tryz.sizeOf230
 isAgg_tSh:=Tryz.isAgg230
 zeroValue_tSh:=Tryz.zeroValue230
 underlying_tU32:=underlying187
 runUnderlying_tU32:=Tryz.runUnderlying187
 sizeOf_tU32:=Tryz.sizeOf187
 isAgg_tU32:=Tryz.isAgg187
 zeroValue_tU32:=Tryz.zeroValue187
 underlying_tPU32:=underlying239
 runUnderlying_tPU32:=Tryz.runUnderlying239
 sizeOf_tPU32:=Tryz.sizeOf239
 isAgg_tPU32:=Tryz.isAgg239
 zeroValue_tPU32:=Tryz.zeroValue239
 underlying_tPAU:=underlying276
 runUnderlying_tPAU:=Tryz.runUnderlying276
 sizeOf_tPAU:=Tryz.sizeOf276
 isAgg_tPAU:=Tryz.isAgg276
 zeroValue_tPAU:=Tryz.zeroValue276
 underlying_tPU64:=underlying278
 runUnderlying_tPU64:=Tryz.runUnderlying278
 sizeOf_tPU64:=Tryz.sizeOf278
 isAgg_tPU64:=Tryz.isAgg278
 zeroValue_tPU64:=Tryz.zeroValue278
 underlying_t0:=underlying0
 runUnderlying_t0:=Tryz.runUnderlying0
 sizeOf_t0:=Tryz.sizeOf0
 isAgg_t0:=Tryz.isAgg0
 zeroValue_t0:=Tryz.zeroValue0
 underlying_t3:=underlying3
 runUnderlying_t3:=Tryz.runUnderlying3
 sizeOf_t3:=Tryz.sizeOf3
 isAgg_t3:=Tryz.isAgg3
 zeroValue_t3:=Tryz.zeroValue3
 underlying_t4:=underlying4
 runUnderlying_t4:=Tryz.runUnderlying4
 sizeOf_t4:=Tryz.sizeOf4
 isAgg_t4:=Tryz.isAgg4
 zeroValue_t4:=Tryz.zeroValue4
 underlying_t9:=underlying9
 runUnderlying_t9:=Tryz.runUnderlying9
 sizeOf_t9:=Tryz.sizeOf9
 isAgg_t9:=Tryz.isAgg9
 zeroValue_t9:=Tryz.zeroValue9
 underlying_t20:=underlying20
 runUnderlying_t20:=Tryz.runUnderlying20
 sizeOf_t20:=Tryz.sizeOf20
 isAgg_t20:=Tryz.isAgg20
 zeroValue_t20:=Tryz.zeroValue20
 underlying_t21:=underlying21
 runUnderlying_t21:=Tryz.runUnderlying21
 sizeOf_t21:=Tryz.sizeOf21
 isAgg_t21:=Tryz.isAgg21
 zeroValue_t21:=Tryz.zeroValue21
 room_tWg:=by kernel_rfl
 room_tU32:=by kernel_rfl
namespace Rel
def eX:aY:={fn:=0,tmps:=#[],todo:=[.code (.refuse "")],defers:=[{target:=.nil,args:=#[]}],mode:=.run,kind:=.normal}
def sent:Item:=.code (.refuse "")
inductive LT(P:aO) (k:List Item) (H:aw->ai->Prop):aw->ai->Prop
 |stop {g:aw} {w:ai}:H g w->LT P k H g w
 |step {g:aw} {w:ai} (gs:(Nat->Question->Nat)->Nat->aw) (ws:(Nat->Question->Nat)->Nat->ai) (es:(Nat->Question->Nat)->Nat->Array Event):¬sM k [eX] g->(∀t d,stepG P ar g (cL w t d)=.go (gs t d) (ws t d) (es t d)/\((gs t d).frame.mode=.run\/(gs t d).frame.mode=.returning))->(∀t d,LT P k H (gs t d) (ws t d))->LT P k H g w
def ln(g:aw)(w:ai):Machine:=lone g.frame g.callers w
section
variable{P:aO} {c:fg} {Z Y:List Item}
def zq{g g':aw}{w a:ai}{b:Array Event}(c:g=jd g.frame g.callers)(d:g'=jd g'.frame g'.callers)(h:stepG P ar g w=.go g' a b):step P (ln g w)=.next (ln g' a):=by rw[c]at h;rw[d]at h;exact step_lone_go (by rw[h];rfl)
def step_end{g:aw}{w:ai}(b:g=jd g.frame g.callers)(h:sP (stepG P ar g w)):∃o a,step P (ln g w)=.ended o a:=by obtain⟨o,a,c,h⟩:=h;rw[b]at h;exact⟨o,a,step_lone_ended (by rw[h];rfl)⟩
def MJ(P:aO)(Q:Machine->Prop)(m:Machine):Prop:=∀n a,runN P n m=.next a->¬Q a
def yo{Q:Machine->Prop}{m:Machine}{o:Outcome}{w:ai}(b:¬Q m)(h:step P m=.ended o w):MJ P Q m:=by
 intro n c a;cases n with|zero=>cases a;exact b|succ n=>simp only[runN,h]at a;cases a
def su(m:Machine):Prop:=∃a w,m=lone a [eX] w/\(a.mode=.run\/a.mode=.returning)
def zC{g:aw}{w:ai}(h:su (ln g w)):g.callers=[eX]/\(g.frame.mode=.run\/g.frame.mode=.returning):=by obtain⟨b,c,h,a⟩:=h;unfold ln lone at h;simp at h;rw[h.2.1,h.2.2];exact⟨rfl,a⟩
def KC(a:List PanicEntry)(w:ai):MJ P su (ln (jd (eX.raise a) []) w):=by
 have b:¬su (ln (jd (eX.raise a) []) w):=λh=>by have:=(zC h).1;cases this
 have c:sP (stepG P ar (jd (eX.raise a) []) w):=⟨_,_,_,rfl⟩;obtain⟨o,d,h⟩:=step_end rfl c;exact yo b h
def Ml(m:Bool)(a x:aY)(l:List aY)(w:ai)(c:List PanicEntry)(h:a.defers=[])(hm:a.mode=.panicking c):sP (unwind P m a (x::l) ah w)\/unwind P m a (x::l) ah w=.go (jd (x.raise c) l) w:=by obtain⟨i,f,g,b,e,d,round⟩:=a;simp only at h hm;subst h;subst hm;unfold unwind;simp only;split;exact .inl ⟨_,_,_,rfl⟩;exact .inr rfl
def Pz{i:List aY}:∀{g:aw}{w:ai},Oi P c Z Y [eX] i g w->MJ P su (ln g w):=by
 intro g w h n
 induction n generalizing g w with
 |zero=>intro u t hL;cases t;obtain⟨a,cl,k,F,R,W,rfl,hm,_⟩:=h;rcases(zC hL).2 with this|this<;>rw[hm]at this<;>cases this
 |succ n T=>
  intro u t;obtain⟨a,cl,k,F,R,W,rfl,hm,q,O,f⟩:=h;have Q:stepG P ar (jd a cl) w=unwind P ar a cl ah w:=fS ar a cl w (by rw[hm];simp);have j:sP (unwind P ar a cl ah w)->¬su u:=by intro I;obtain⟨o,U,h⟩:=step_end (g:=jd a cl) rfl (by rw[Q];exact I);simp only[runN,h]at t;cases t
  have A:∀s M G,s=jd s.frame s.callers->unwind P ar a cl ah w=.go s M G->runN P n (ln s M)=.next u:=by intro s M G hg p;have h:=zq (g:=jd a cl) (P:=P) rfl hg (by rw[Q];exact p);simp only[runN,h]at t;exact t
  cases H:a.defers with
  |nil=>
   obtain⟨x,l,rfl,hx⟩:∃x l,cl=x::l/\((x=eX/\l=[])\/(x.defers=[]\/True)/\∃m,dh (lR F) x.defers m/\(x.mode=.run\/x.mode=.returning)/\(l=[eX]\/∃l',rK c Z Y [eX] i F l l')):=by
    rcases f with rfl|⟨v,f⟩;exact⟨_,_,rfl,.inl ⟨rfl,rfl⟩⟩;cases f with|one B E=>exact⟨_,_,rfl,.inr ⟨.inr trivial,_,B.defers,B.ok,.inl rfl⟩⟩|cons _ B E=>exact⟨_,_,rfl,.inr ⟨.inr trivial,_,B.defers,B.ok,.inr ⟨_,E⟩⟩⟩
   rcases Ml ar a x l w k H hm with I|p;exact j I;have b:=A _ _ _ rfl p;rcases hx with⟨rfl,rfl⟩|⟨_,m,J,C,hl⟩;exact KC k w n u b;refine T (g:=jd (x.raise k) l) ⟨x.raise k,l,k,F,R,m,rfl,?_,q,?_,hl⟩ u b;unfold Frame.raise;rcases C with e|e<;>rw[e];unfold Frame.raise;rcases C with e|e<;>rw[e]<;>exact J
  |cons d z=>
   rw[H]at O;cases O with
   |cons X E=>
    cases X with
    |mk K=>
     have D:=tL (P:=P) ar a cl w _ _ z H;have b:=(tB (P:=P) (S:=c.sig) q.ok K).run (R:={R with tape:=w.tape,drawn:=w.drawn}) ⟨q.ok,q.obj,q.kr,q.mR,q.old⟩ #[] #[];revert b D;unfold phase;cases(Instr.takeDeferred _).runT P w #[]with
     |mk r G=>
      cases r with
      |halt y U=>intro D _;exact j (by rw[D];exact⟨_,_,_,rfl⟩)|ok y U=>rintro D ⟨_,_,h3⟩;obtain⟨N,y',V,ev,e,_,⟨rfl,rfl⟩,L,_⟩:=h3 (λ_ _ _=>rfl);have b:=A _ _ _ rfl D;exact T (g:=jd {a with defers:=[]++z} cl) ⟨_,cl,k,N,V,_,rfl,hm,L,lR.list e E,f.imp id λ⟨v,h⟩=>⟨v,h.mono e⟩⟩ u b
end
section
variable{P:aO} {c:fg} {k:List Item}
def W4(w:ai)(t b:Nat->Question->Nat)(d a:Nat):cL (cL w t d) b a=cL w b a:=rfl
def qj{m:Machine}{o:Outcome}{w:ai}(h:step P m=.ended o w)(Q:Machine->Prop):∀n a,runN P (n+1) m=.next a->¬Q a:=by intro n a b;simp only[runN,h]at b;cases b
def IJ{a:aY}(k:a.mode=.returning)(t:a.defers=[])(u:a.kind=.normal)(w:ai):∀n d,runN P (n+1) (lone a [eX] w)=.next d->¬su d:=by
 intro n d j;have m:stepG P ar (jd a [eX]) w=unwind P ar a [eX] ah w:=fS ar a _ w (by rw[k];simp);have q:∀b,MJ P su (ln (jd eX []) b):=λb=>by
  have s:¬su (ln (jd eX []) b):=λh=>by have:=(zC h).1;cases this
  obtain⟨o,p,h⟩:=step_end (g:=jd eX []) (P:=P) (w:=b) rfl ⟨_,_,_,rfl⟩;exact yo s h
 have f:∀v b i,unwind P ar a [eX] ah w=.go (jd (eX.finish v) []) b i->¬su d:=by intro v b i c;have h:=zq (g:=jd a [eX]) (g':=jd (eX.finish v) []) (P:=P) rfl rfl (m.trans c);have h:step P (lone a [eX] w)=.next (ln (jd eX []) b):=h;simp only[runN,h]at j;exact q b n d j
 have e:sP (unwind P ar a [eX] ah w)->¬su d:=by intro y;obtain⟨o,p,h⟩:=step_end (g:=jd a [eX]) rfl (by rw[m];exact y);have h:step P (lone a [eX] w)=.ended o p:=h;exact qj h _ n d j
 have l:∀v w,doReturn P ar a [eX] ah v w=.go (jd (eX.finish v) []) w:=λv w=>by unfold doReturn;simp only[u]
 have c:=kW (P:=P) ar a [eX] w t k;revert c;cases P.funcs[a.fn]? with
 |none=>intro c;exact f _ _ _ (c.trans (l _ _))|some F=>
  simp only[phase];cases(results F a.tmps).runT P w #[]with
  |mk r i=>
   cases r with|ok v b=>intro c;simp only[l]at c;exact f _ _ _ c|halt x b=>intro c;exact e (by rw[c];cases x<;>exact⟨_,_,_,rfl⟩)
def Mf{g:aw}(l:g=jd g.frame g.callers)(j:k=[]\/k=[sent])(a:g.frame.kind=.normal)(h:sM k [eX] g)(w:ai):∀n d,runN P (n+1) (ln g w)=.next d->¬su d:=by
 rcases h with⟨f,i,b⟩|⟨f,i,b,t⟩;have e:ln g w=lone g.frame [eX] w:=by unfold ln;rw[f]
 rw[e];exact IJ i b a w;have j:=j.resolve_left t;subst j;intro n d v;have u:sP (stepG P ar g w):=by rw[l,f,rE ar g.frame [eX] w i];revert b;generalize g.frame=s;intro b;obtain⟨x,q,r,c,p,m,round⟩:=s;simp only at b;subst b;exact⟨_,_,_,rfl⟩
 obtain⟨o,y,h⟩:=step_end l u;exact qj h _ n d v
def rK.top{n o:List Item}{f e:List aY}{k:Ren}{a b:aY}{l m:List aY}(h:rK c n o f e k (a::l) (b::m)):∃(d:fg)(p q:List Item),qa d p q k a b:=by
 generalize i:a::l=x at h;generalize j:b::m=y at h;cases h with|one g _=>cases i;cases j;exact⟨_,_,_,g⟩|cons _ g _=>cases i;cases j;exact⟨_,_,_,g⟩
abbrev Tape:=Nat->Question->Nat
def HM(H:aw->ai->Prop)(m:Machine):Prop:=∃g w,m=ln g w/\g=jd g.frame g.callers/\H g w
def Sz{H:aw->ai->Prop}{g:aw}{w:ai}(c:g=jd g.frame g.callers)(h:HM H (ln g w)):H g w:=by obtain⟨d,e,h,a,b⟩:=h;unfold ln lone at h;simp at h;rw[c,h.2.1,h.2.2,h.1,<-a];exact b
def Reach(P:aO)(H:aw->ai->Prop)(a x:aw×ai)(n D:Nat)(b:Tape):Prop:=∀t:Tape,(∀i q,i<D->t i q=b i q)->runN P n (ln a.1 (cL a.2 t 0))=.next (ln x.1 (cL x.2 t D))/\∀k,k<n->∀c,runN P k (ln a.1 (cL a.2 t 0))=.next c->¬HM H c
structure HOk(H:aw->ai->Prop):Prop where
 tape:∀g w t d,H g (cL w t d)->H g w
 alive:∀g w,H g w->g.callers=[eX]/\(g.frame.mode=.run\/g.frame.mode=.returning)
def HOk.hm{H:aw->ai->Prop}(h:HOk H){m:Machine}(x:HM H m):su m:=by obtain⟨g,w,rfl,_,c⟩:=x;obtain⟨a,b⟩:=h.alive g w c;exact⟨g.frame,w,by unfold ln;rw[a],b⟩
def X'(P:aO)(c:fg)(k:List Item)(H:aw->ai->Prop)(x:aw×ai):Prop:=∃a,Sub a/\bS P c.sig a x.2 x.2/\GR c k k [eX] [eX] a x.1 x.1/\¬LT P k H x.1 x.2
structure Yh(P:aO) (H:aw->ai->Prop) (x:aw×ai) (t:Tape) (d:Nat) (y:aw×ai):Prop where
 le:d<=y.2.drawn
 not:¬H x.1 x.2
 gl:x.1=jd x.1.frame x.1.callers
 gr:y.1=jd y.1.frame y.1.callers
 same:∀(t':Tape)(d':Nat),(∀i q,d+i<y.2.drawn->t' (d'+i) q=t (d+i) q)->∃es',stepG P ar x.1 (cL x.2 t' d')=.go y.1 (cL y.2 t' (d'+(y.2.drawn-d))) es'
def sn(a:Tape)(D:Nat)(t:Tape)(d:Nat):Tape:=λi q=>if i<D then a i q else t (d+(i-D)) q
def P8(n:Nat)(m a:Machine)(h:runN P n m=.next a):runN P (n+1) m=step P a:=by rw[runN_add,h];show runN P 1 a=step P a;unfold runN;cases step P a<;>rfl
def Reach.succ{H:aw->ai->Prop}(p:HOk H){l x y:aw×ai}{n D:Nat}{a t:Tape}{d:Nat}(h:Reach P H l x n D a)(k:Yh P H x t d y):Reach P H l y (n+1) (D+(y.2.drawn-d)) (sn a D t d):=by
 intro g c;obtain⟨e,o⟩:=h g λi q f=>by rw[c i q (by omega)];unfold sn;rw[if_pos f]
 have⟨m,s⟩:=k.same g D λi q f=>by rw[c (D+i) q (by omega)];unfold sn;rw[if_neg (by omega),show D+i-D=i by omega]
 refine⟨?_,λj v u hm=> ?_⟩;rw[P8 n _ _ e];exact zq k.gl k.gr s;rcases dU j n with b|r;exact o j b u hm;obtain rfl:j=n:=by omega
 rw[e]at hm;cases hm;exact λhL=>k.not (p.tape _ _ _ _ (Sz k.gl hL))
def Rq(B:c.Fits P){H:aw->ai->Prop}{x:aw×ai}(h:X' P c k H x):sM k [eX] x.1\/(¬sM k [eX] x.1/\∃t d,(sP (stepG P ar x.1 (cL x.2 t d))\/∃g m b,stepG P ar x.1 (cL x.2 t d)=.go g m b/\Oi P c k k [eX] [eX] g m))\/∃t d y,Yh P H x t d y/\X' P c k H y:=by
 obtain⟨I,s,D,z,A⟩:=h;by_cases n:sM k [eX] x.1;exact .inl n;refine .inr ?_;by_cases i:∃t d,(sP (stepG P ar x.1 (cL x.2 t d))\/∃g m b,stepG P ar x.1 (cL x.2 t d)=.go g m b/\Oi P c k k [eX] [eX] g m);exact .inl ⟨n,i⟩;refine .inr (Classical.byContradiction λr=>A ?_);have a:∀t d,∃e l b,(stepG P ar x.1 (cL x.2 t d)=.go e l b/\(e.frame.mode=.run\/e.frame.mode=.returning))/\LT P k H e l:=by intro t d;rcases EJ B s D z n t d with o|o|⟨e,l,b,w,p,C,G,F,v,f,j⟩;exact absurd ⟨t,d,.inl o⟩ i;exact absurd ⟨t,d,.inr o⟩ i;refine⟨e,l,b,⟨p,?_⟩,Classical.byContradiction λq=>r ⟨t,d,(e,l),⟨C,λE=>A (.stop E),z.l,f.l,j⟩,w,F,v,f,q⟩⟩;obtain⟨_,_,u⟩:=f;obtain⟨_,_,_,i⟩:=u.top;exact i.ok
 exact .step (λt d=>(a t d).choose) (λt d=>(a t d).choose_spec.choose) (λt d=>(a t d).choose_spec.choose_spec.choose) n (λt d=>(a t d).choose_spec.choose_spec.choose_spec.1) (λt d=>(a t d).choose_spec.choose_spec.choose_spec.2)
def uL(hc:c.Fits P)(hk:k=[]\/k=[sent]){p:aw}{w:ai}{π:Ren}(s:Sub π)(hw:bS P c.sig π w w)(hg:GR c k k [eX] [eX] π p p){H:aw->ai->Prop}(R:HOk H)(hT:∀t,∃l I,Steps P (ln p (cL w t 0)) (ln l I)/\l=jd l.frame l.callers/\H l I):LT P k H p w:=by
 classical
 refine Classical.byContradiction λhn=> ?_
 have B0:X' P c k H (p,w):=⟨π,s,hw,hg,hn⟩;have R0:Reach P H (p,w) (p,w) 0 0 (λ_ _=>0):=λt _=>⟨rfl,λk hk=>by omega⟩
 have G:∀{x:aw×ai},X' P c k H x->¬H x.1 x.2:=λ⟨_,_,_,_,h⟩ hx=>h (.stop hx)
 have after:∀{x:aw×ai}{n D:Nat}{b t:Tape},Reach P H (p,w) x n D b->(∀i q,i<D->t i q=b i q)->
  ∃j m',runN P j (ln x.1 (cL x.2 t D))=.next m'/\HM H m':=by
  intro x n D b t B ag;obtain⟨J,h2⟩:=B t ag;obtain⟨l,I,⟨N,S⟩,Z,e2⟩:=hT t;have hge:n<=N:=Nat.le_of_not_lt λl6=>h2 N l6 _ S ⟨l,I,rfl,Z,e2⟩
  refine⟨N-n,ln l I,?_,l,I,rfl,Z,e2⟩;rw[<-Nat.add_sub_cancel' hge,runN_add,J]at S;exact S
 have v:∀{x:aw×ai}{n D:Nat}{b:Tape},Reach P H (p,w) x n D b->X' P c k H x->
  ∃t d y,Yh P H x t d y/\X' P c k H y:=by
  intro x n D b B K;have C:x.1=jd x.1.frame x.1.callers:=by obtain⟨_,_,_,h,_⟩:=K;exact h.l
  have W:∀t d,¬HM H (ln x.1 (cL x.2 t d)):=λt d h=>G K (R.tape _ _ _ _ (Sz C h))
  rcases Rq hc K with hl|⟨hl,t,d,r⟩|h;exfalso;obtain⟨j,m',E,hm⟩:=after B (t:=b) λ_ _ _=>rfl
  cases j with
  |zero=>simp only[runN]at E;cases E;exact W _ _ hm|succ j=>
   have M:x.1.frame.kind=.normal:=by obtain⟨_,_,_,h,_⟩:=K;obtain⟨_,_,Q⟩:=h;obtain⟨_,_,_,r⟩:=Q.top;exact r.kind
   exact Mf C hk M hl _ j _ E (R.hm hm)
  exfalso;obtain⟨j,m',E,hm⟩:=after B (t:=sn b D t d) λi q A=>by unfold sn;rw[if_pos A]
  obtain⟨Kl,s',Zd,Sx,_⟩:=K;cases j with
  |zero=>simp only[runN]at E;cases E;exact W _ _ hm|succ j=>
   rcases EJ hc s' Zd Sx hl (sn b D t d) D with J|⟨g2,w2,es,J,h2⟩|⟨l,w2,es,π2,hgo,hd,ht,s2,VR,hg2,V⟩;obtain⟨o,w2,J⟩:=step_end C J;exact qj J (HM H) j _ E hm;obtain⟨a,cl,Y,u⟩:=h2;have YW:g2=jd g2.frame g2.callers:=by obtain⟨_,_,_,rfl,_⟩:=u;rfl
   have h3:=zq C YW J;simp only[runN,h3]at E;exact Pz ⟨a,cl,Y,u⟩ j _ E (R.hm hm);obtain⟨es',h3⟩:=V t d λi q A=>by unfold sn;rw[if_neg (by omega),show D+i-D=i by omega]
   rcases r with⟨_,_,_,r⟩|⟨g3,w3,es3,r,hp⟩;rw[h3]at r;cases r;rw[h3]at r;cases r;obtain⟨a,cl,ch,π3,R3,ds,rfl,hm,_⟩:=hp;obtain⟨_,_,Q⟩:=hg2;obtain⟨_,_,_,r⟩:=Q.top;rcases r.ok with x|x<;>rw[hm]at x<;>cases x
  exact h
 let g:={z:(aw×ai)×Nat×Nat×Tape // Reach P H (p,w) z.1 z.2.1 z.2.2.1 z.2.2.2/\X' P c k H z.1}
 have F:∀z:g,∃z':g,z'.1.2.1=z.1.2.1+1/\z.1.2.2.1<=z'.1.2.2.1/\(∀i q,i<z.1.2.2.1->z'.1.2.2.2 i q=z.1.2.2.2 i q):=by rintro⟨⟨x,n,D,b⟩,B,K⟩;obtain⟨t,d,y,hs,hb'⟩:=v B K;exact⟨⟨⟨y,n+1,D+(y.2.drawn-d),sn b D t d⟩,B.succ R hs,hb'⟩,rfl,Nat.le_add_right _ _,λi q A=>by unfold sn;exact if_pos A⟩
 let f:g->g:=λz=>(F z).choose
 have f1:∀z,(f z).1.2.1=z.1.2.1+1:=λz=>(F z).choose_spec.1
 have f2:∀z,z.1.2.2.1<=(f z).1.2.2.1:=λz=>(F z).choose_spec.2.1
 have f3:∀z i q,i<z.1.2.2.1->(f z).1.2.2.2 i q=z.1.2.2.2 i q:=λz=>(F z).choose_spec.2.2
 let s:Nat->g:=λn=>Nat.rec ⟨((p,w),0,0,λ_ _=>0),R0,B0⟩ (λ_ z=>f z) n
 have hs:∀n,s (n+1)=f (s n):=λn=>rfl
 have cnt:∀n,(s n).1.2.1=n:=by
  intro n
  induction n with|zero=>rfl|succ n X=>rw[hs,f1,X]
 have mono:∀n k,(s n).1.2.2.1<=(s (n+k)).1.2.2.1/\∀i q,i<(s n).1.2.2.1->(s (n+k)).1.2.2.2 i q=(s n).1.2.2.2 i q:=by
  intro n k
  induction k with|zero=>exact⟨av _,λ_ _ _=>rfl⟩|succ k X=>have e:s (n+(k+1))=f (s (n+k)):=rfl;rw[e];exact⟨be X.1 (f2 _),λi q A=>(f3 _ i q (aW A X.1)).trans (X.2 i q A)⟩
 let T:Tape:=λi q=>if h:∃n,i<(s n).1.2.2.1 then(s (qz h)).1.2.2.2 i q else 0
 have hTn:∀n i q,i<(s n).1.2.2.1->T i q=(s n).1.2.2.2 i q:=by intro n i q A;have L:∃n,i<(s n).1.2.2.1:=⟨n,A⟩;show(if h:∃n,i<(s n).1.2.2.1 then(s (qz h)).1.2.2.2 i q else 0)=_;rw[dif_pos L];have U:=Classical.choose_spec L;generalize qz L=m at U;rcases Nat.le_total m n with O|O;have:=(mono m (n-m)).2 i q U;rw[Nat.add_sub_cancel' O]at this;exact this.symm;have:=(mono n (m-n)).2 i q A;rw[Nat.add_sub_cancel' O]at this;exact this
 obtain⟨l,I,⟨N,S⟩,Z,e2⟩:=hT T;have B:=((s N).2.1 T (hTn N)).1;rw[cnt N,S]at B;have hg:(s N).1.1.1=jd (s N).1.1.1.frame (s N).1.1.1.callers:=by obtain⟨_,_,_,h,_⟩:=(s N).2.2;exact h.l
 have:HM H (ln (s N).1.1.1 (cL (s N).1.1.2 T (s N).1.2.2.1)):=⟨l,I,(Stepped.next.inj B).symm,Z,e2⟩;exact G (s N).2.2 (R.tape _ _ _ _ (Sz hg this))
end
end Rel
end Go.Proofs.YtknejlcijdngoaaGreat
