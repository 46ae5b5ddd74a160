/- Several texts in one, made short by a program of mine. -/
import Derived.Below
import Derived.WalkKit
import Derived.Conc.CrowdInv
import Derived.Conc.Beside
import GoSem.Step
import Derived.Conc.Own
import Derived.Laws.BitsLemmas
set_option linter.unusedVariables false
set_option linter.unusedSimpArgs false
set_option linter.unusedSectionVars false
set_option maxHeartbeats 16000000
set_option maxRecDepth 100000
open Array renaming getElem?_eq_getElem→aX,getElem?_eq_none→ic,getElem?_eq_some_iff→aL,getElem?_modify→bw,getElem?_setIfInBounds_ne→aO,getElem?_setIfInBounds_self_of_lt→aW,mem_append→ot
open Bool renaming and_eq_true→aM,eq_iff_iff→nJ,false_eq_true→e9,not_eq_true'→oa,or_eq_true→iU,false→aw,true→aA
open Classical renaming choose→r9
open Go renaming FuncId→bQ,Program→aS,TypeId→aF,Value→aq,World→ah
open Go.Instr renaming loadAt→dN,storeAt→eM
open Go.Mode renaming plain→rL
open Go.Sem renaming runT→gi
open Go.World renaming cell?→c8,setCell→dA
open Int renaming toNat_natCast→dL
open List renaming any_eq_true→kB,append_nil→eN,cons_append→dJ,find?_cons→nK,flatMap_cons→cM,getD→bp,getElem?_eq_getElem→ao,getElem?_set→gh,getElem_mem→aU,length_cons→aj,map_append→dX,map_congr_left→dy,map_cons→fA,mem_append→iV,mem_cons→cy,mem_cons_of_mem→lK,mem_filter→cu,mem_iff_getElem→dp,mem_map→aN,mem_singleton→eC,mem_toArray→pz,mergeSort_perm→iG,not_mem_nil→jo,pairwise_iff_getElem→jc,range→aG
open Nat renaming add_comm→dt,add_zero→kW,le_refl→az,le_trans→bP,lt_of_lt_of_le→bX,lt_or_ge→dM,strongRecOn→l7
open Option renaming map_eq_some_iff→aK,none→ai,some→ae
open Option.some renaming inj→aY
open Or renaming inl→br,inr→bR
namespace Go.Proofs.YtknejlcijdngoaaGreat
section
section
variable {κ ν:Type} [DecidableEq κ]
def eG (m:List (κ×ν))(x:κ):Option ν:=(m.find? λp=>decide (p.1=x)).map (·.2)
def iP (m:List (κ×ν))(x:κ)(v:ν):List (κ×ν):=if m.any (λp=>decide (p.1=x))then m.map (λp=>if p.1=x then(x,v)else p)else m++[(x,v)]
def ep (m:List (κ×ν))(x:κ):List (κ×ν):=m.filter λp=> !decide (p.1=x)
def bG (m:List (κ×ν)):List κ:=m.map (·.1)
theorem Jn (m:List (κ×ν))(x:κ)(v:ν):bG (iP m x v)=if x∈bG m then bG m else bG m++[x]:=by
 unfold iP bG;have:(m.any λp=>decide (p.1=x))=decide (x∈m.map (·.1)):=by rw[nJ];simp
 rw[this];by_cases h:x∈m.map (·.1)
 ·rw[if_pos (by simpa using h),if_pos h,List.map_map];apply dy;intro p _;simp only[Function.comp]
  split<;>simp_all
 ·rw[if_neg (by simpa using h),if_neg h];simp
theorem Po {m:List (κ×ν)}(h:(bG m).Nodup)(x:κ)(v:ν):(bG (iP m x v)).Nodup:=by
 rw[Jn]
 split
 ·exact h
 ·rename_i hx
  rw[List.nodup_append];exact⟨h,by simp,λa ha b hb e=>hx (by rw[eC]at hb;rw[<-hb,<-e];exact ha)⟩
theorem qD {m:List (κ×ν)}(h:(bG m).Nodup)(x:κ):(bG (ep m x)).Nodup:=h.sublist (List.filter_sublist.map _)
theorem fT {m:List (κ×ν)}{x:κ}{p:κ×ν}:p∈ep m x↔p∈m/\p.1≠x:=by simp[ep]
theorem sV {m:List (κ×ν)}{x:κ}:eG m x=ai↔x∉bG m:=by unfold eG bG;rw[Option.map_eq_none_iff,List.find?_eq_none];simp only[decide_eq_true_eq,aN,not_exists,not_and]
theorem vp {m:List (κ×ν)}{x:κ}{v:ν}(h:eG m x=ae v):(x,v)∈m:=by
 unfold eG at h;obtain⟨p,hp,rfl⟩:=aK.1 h;have h1:=List.find?_some hp;have h2:=List.mem_of_find?_eq_some hp;have:p.1=x:=by simpa using h1
 rw[<-this];exact h2
theorem ko {m:List (κ×ν)}(hn:(bG m).Nodup){x:κ}{v:ν}(h:(x,v)∈m):eG m x=ae v:=by
 induction m with
 |nil=>simp at h
 |cons a m ih=>
  obtain⟨h1,h2⟩:=List.nodup_cons.1 (show(a.1::bG m).Nodup from hn);unfold eG;rw[nK];rcases cy.1 h with rfl|h'
  ·simp
  ·have dQ:a.1≠x:=λe=>h1 (by rw[e];exact aN.2 ⟨_,h',rfl⟩)
   rw[decide_eq_false dQ];exact ih h2 h'
theorem nz {m:List (κ×ν)}(hn:(bG m).Nodup){x:κ}{v:ν}:eG m x=ae v↔(x,v)∈m:=⟨vp,ko hn⟩
theorem lR (m:List (κ×ν))(x y:κ)(v:ν):eG (iP m x v) y=if y=x then ae v else eG m y:=by
 unfold iP;by_cases ha:(m.any λp=>decide (p.1=x))=aA
 ·rw[if_pos ha];by_cases hy:y=x
  ·rw[if_pos hy];subst hy;obtain⟨p,hp,hx⟩:=kB.1 ha;clear ha
   induction m with
   |nil=>simp at hp
   |cons a m ih=>
    unfold eG at ih⊢;rw[fA,nK];by_cases h:a.1=y
    ·simp[h]
    ·rw[if_neg h,decide_eq_false h];refine ih ?_;rcases cy.1 hp with rfl|h'
     ·simp at hx;exact absurd hx h
     ·exact h'
  ·rw[if_neg hy];clear ha
   induction m with
   |nil=>rfl
   |cons a m ih=>
    unfold eG at ih⊢;rw[fA,nK,nK];by_cases h:a.1=x
    ·have h2: ¬a.1=y:=λe=>hy (e.symm.trans h)
     have h3: ¬x=y:=λe=>hy e.symm
     rw[if_pos h,decide_eq_false h2,decide_eq_false h3];exact ih
    ·rw[if_neg h]
     split
     ·rfl
     ·exact ih
 ·rw[if_neg ha];have hx:x∉bG m:=λh=>ha (by obtain⟨p,hp,e⟩:=aN.1 h;exact kB.2 ⟨p,hp,by simpa using e⟩)
  unfold eG;rw[List.find?_append];by_cases hy:y=x
  ·rw[if_pos hy];subst hy;have:=sV.2 hx;unfold eG at this;rw[Option.map_eq_none_iff]at this;rw[this];simp
  ·rw[if_neg hy];have h3: ¬x=y:=λe=>hy e.symm
   simp[h3]
theorem wj (m:List (κ×ν))(x y:κ):eG (ep m x) y=if y=x then ai else eG m y:=by
 by_cases hy:y=x
 ·rw[if_pos hy,sV];subst hy;intro h;obtain⟨p,hp,e⟩:=aN.1 h;exact(fT.1 hp).2 e
 ·rw[if_neg hy]
  induction m with
  |nil=>rfl
  |cons a m ih=>
   unfold ep at ih⊢;rw[List.filter_cons];by_cases h:a.1=x
   ·have h2: ¬a.1=y:=λe=>hy (e.symm.trans h)
    rw[decide_eq_true h];simp only[Bool.not_true,e9,if_false];rw[ih];unfold eG;rw[nK,decide_eq_false h2]
   ·rw[decide_eq_false h];simp only[Bool.not_false,if_true];unfold eG at ih⊢;rw[nK,nK]
    split
    ·rfl
    ·exact ih
theorem X0 {m:List (κ×ν)}{x:κ}{v:ν}{p:κ×ν}(h:p∈iP m x v):p=(x,v)\/(p∈m/\p.1≠x):=by
 unfold iP at h
 split at h
 ·obtain⟨q,hq,e⟩:=aN.1 h
  split at e
  ·exact br e.symm
  ·rename_i dQ;subst e;exact bR ⟨hq,dQ⟩
 ·rename_i ha
  rw[iV]at h;rcases h with h|h
  ·exact bR ⟨h,λe=>ha (kB.2 ⟨p,h,by simpa using e⟩)⟩
  ·exact br (by simpa using h)
end
end
section
abbrev Hd:=Int×Int
abbrev jS:=List (Hd×Hd)
inductive Up (m:jS):Hd->Hd->Prop
 |one {a p:Hd}:eG m a=ae p->Up m a p
 |more {a p q:Hd}:eG m a=ae p->Up m p q->Up m a q
def zI (m:jS)(rk:Hd->Nat)(R:Nat):Prop:= ∀c p,eG m c=ae p->rk p<rk c/\rk c<=R
def oZ (m:jS):Prop:= ∃rk R,zI m rk R
section
variable {m m':jS} {rk:Hd->Nat} {R:Nat} {a b c h p q x y:Hd}
theorem Up.ahV (hr:zI m rk R)(hu:Up m a q):rk q<rk a:=by
 induction hu with
 |one h=>exact(hr _ _ h).1
 |more h _ ih=>have:=(hr _ _ h).1;omega
theorem Up.irrefl (ha:oZ m): ¬Up m a a:=λh=>by obtain⟨rk,R,hr⟩:=ha;have:=h.ahV hr;omega
theorem Up.trans (h1:Up m a b)(h2:Up m b c):Up m a c:=by
 induction h1 with
 |one h=>exact .more h h2
 |more h _ ih=>exact .more h (ih h2)
theorem Up.linear (h1:Up m a x): ∀{y},Up m a y->x=y\/Up m x y\/Up m y x:=by
 induction h1 with
 |one h=>
  intro y h2;cases h2 with
  |one h'=>rw[h]at h';exact br (aY h')
  |more h' h2=>rw[h]at h';cases aY h';exact bR (br h2)
 |more h h1 ih=>
  intro y h2;cases h2 with
  |one h'=>rw[h]at h';cases aY h';exact bR (bR h1)
  |more h' h2=>rw[h]at h';cases aY h';exact ih h2
theorem Up.none (hn:eG m a=ai): ¬Up m a x:=λh=>by
 cases h with
 |one h=>rw[hn]at h;cases h
 |more h _=>rw[hn]at h;cases h
theorem Up.mono (hs: ∀c p,eG m c=ae p->eG m' c=ae p)(h:Up m a x):Up m' a x:=by
 induction h with
 |one h=>exact .one (hs _ _ h)
 |more h _ ih=>exact .more (hs _ _ h) ih
theorem oZ.sub (ha:oZ m)(hs: ∀c p,eG m' c=ae p->eG m c=ae p):oZ m':=by obtain⟨rk,R,hr⟩:=ha;exact⟨rk,R,λc p h=>hr c p (hs c p h)⟩
theorem oZ.nil:oZ []:=⟨λ_=>0,0,λc p h=>by simp[eG]at h⟩
theorem oZ.del (ha:oZ m)(c:Hd):oZ (ep m c):=ha.sub λx p h=>by
 rw[wj]at h
 split at h
 ·cases h
 ·exact h
theorem oZ.put (ha:oZ m)(dQ:c≠p)(hnu: ¬Up m p c):oZ (iP m c p):=by
 obtain⟨rk,R,hr⟩:=ha
 classical
 have hp: ¬(p=c\/Up m p c):=λh=>by rcases h with h|h;exact dQ h.symm;exact hnu h
 refine⟨λx=>if x=c\/Up m x c then rk x+(rk p+1)else rk x,R+rk c+(rk p+1),λx y rm=> ?_⟩;rw[lR]at rm;by_cases hx:x=c
 ·rw[if_pos hx]at rm;cases aY rm;simp only;rw[if_pos (br hx),if_neg hp,hx];exact⟨by omega,by omega⟩
 ·rw[if_neg hx]at rm;have h1:=hr x y rm;have adE:(y=c\/Up m y c)↔(x=c\/Up m x c):=by
   constructor
   ·rintro(e|e)
    ·exact bR (.one (e▸rm))
    ·exact bR (.more rm e)
   ·rintro(e|e)
    ·exact absurd e hx
    ·cases e with
     |one e=>rw[rm]at e;exact br (aY e)
     |more e e2=>rw[rm]at e;cases aY e;exact bR e2
  simp only[adE]
  split
  ·exact⟨by omega,by omega⟩
  ·exact⟨by omega,by omega⟩
inductive me (m:jS):Hd->List Hd->Prop
 |nil {h:Hd}:eG m h=ai->me m h []
 |cons {h p:Hd} {xs:List Hd}:eG m h=ae p->me m p xs->me m h (p::xs)
theorem me.exists (ha:oZ m)(h:Hd): ∃xs,me m h xs:=by
 obtain⟨rk,R,hr⟩:=ha;generalize hn:rk h=n
 induction n using l7 generalizing h with
 |_ n ih=>
  cases hm:eG m h with
  |none=>exact⟨[],.nil hm⟩
  |some p=>obtain⟨xs,hx⟩:=ih (rk p) (by have:=(hr _ _ hm).1;omega) p rfl;exact⟨p::xs,.cons hm hx⟩
theorem me.mem {xs:List Hd}(hc:me m h xs):x∈xs↔Up m h x:=by
 induction hc with
 |nil hn=>simp[Up.none hn]
 |cons hm _ ih=>
  rw[cy,ih];constructor
  ·rintro(rfl|e)
   ·exact .one hm
   ·exact .more hm e
  ·intro e;cases e with
   |one e=>rw[hm]at e;exact br (aY e).symm
   |more e e2=>rw[hm]at e;cases aY e;exact bR e2
theorem vq {α:Type}[BEq α][LawfulBEq α]: ∀{l l':List α},l.Nodup->(∀x∈l,x∈l')->l.length<=l'.length
 | [],_,_,_=>by simp
 |a::l,l',hn,hs=>by
  obtain⟨h1,h2⟩:=List.nodup_cons.1 hn;have h3:=vq (l':=l'.erase a) h2 λx hx=>(List.mem_erase_of_ne (λe:x=a=>h1 (by rw[<-e];exact hx))).2 (hs x (lK _ hx))
  have h4:=List.length_erase_of_mem (hs a List.mem_cons_self);have h5:=List.length_pos_of_mem (hs a List.mem_cons_self);rw[aj];omega
theorem me.get {xs:List Hd}(hc:me m h xs):eG m h=xs.head?:=by
 cases hc with
 |nil hn=>exact hn
 |cons hm _=>exact hm
end
def hLt (a b:Hd):Bool:=decide (a.1<b.1)||(decide (a.1=b.1)&&decide (a.2<b.2))
def Cg (a b:Hd):Bool:= !hLt b a
theorem Ci {a b:Hd}:Cg a b=aA↔a.1<b.1\/a.1=b.1/\a.2<=b.2:=by
 unfold Cg hLt;simp only[oa,Bool.or_eq_false_iff,decide_eq_false_iff_not,Bool.and_eq_false_iff];constructor
 ·rintro⟨h1,h2|h2⟩<;>omega
 ·intro h;refine⟨by omega,?_⟩;by_cases e:b.1=a.1
  ·exact bR (by omega)
  ·exact br e
theorem GJ (a b c:Hd)(h1:Cg a b=aA)(h2:Cg b c=aA):Cg a c=aA:=by rw[Ci]at*;omega
theorem GI (a b:Hd):(Cg a b||Cg b a)=aA:=by rw[iU,Ci,Ci];omega
theorem yJ {a b:Hd}(h1:Cg a b=aA)(h2:Cg b a=aA):a=b:=by rw[Ci]at*;exact Prod.ext (by omega) (by omega)
theorem Ar {l l':List Hd}(hp:l.Perm l')(h:l.Pairwise λa b=>Cg a b=aA)(h':l'.Pairwise λa b=>Cg a b=aA):l=l':=List.Perm.eq_of_pairwise (λ_ _ _ _ h1 h2=>yJ h1 h2) h h' hp
theorem oG (l:List Hd):(l.mergeSort Cg).Pairwise λa b=>Cg a b=aA:=List.pairwise_mergeSort GJ GI l
theorem Uk {l l':List Hd}(hp:l.Perm l'):l.mergeSort Cg=l'.mergeSort Cg:=Ar ((iG l _).trans (hp.trans (iG l' _).symm)) (oG l) (oG l')
theorem Ef {l l':List Hd}(hp:l'.Perm l)(h:l'.Pairwise λa b=>Cg a b=aA):l'=l.mergeSort Cg:=Ar (hp.trans (iG l _).symm) h (oG l)
def Vb {α:Type}(key:α->Hd)(a b:α):Bool:=Cg (key a) (key b)
theorem lQ {α:Type}(key:α->Hd)(l:List α):(l.mergeSort (Vb key)).Pairwise λa b=>Vb key a b=aA:=List.pairwise_mergeSort (λa b c=>GJ (key a) (key b) (key c)) (λa b=>GI (key a) (key b)) l
theorem jr {α:Type}(key:α->Hd){l l':List α}(hn: ∀a∈l,∀b∈l,key a=key b->a=b)(hp:l'.Perm l)(h:l'.Pairwise λa b=>Vb key a b=aA):l'=l.mergeSort (Vb key):=List.Perm.eq_of_pairwise (λa b ha hb h1 h2=>hn a (hp.subset ha) b ((iG l _).subset hb) (yJ h1 h2)) h (lQ key l) (hp.trans (iG l _).symm)
def jd (m:jS)(h:Hd):List Hd:=(m.filter λb=>decide (b.2=h)).map (·.1)
def kids (m:jS)(h:Hd):List Hd:=(jd m h).mergeSort Cg
section
variable {m m':jS} {rk:Hd->Nat} {R:Nat} {a b c h p q x y:Hd}
theorem lB (hn:(bG m).Nodup):x∈kids m h↔eG m x=ae h:=by
 unfold kids jd;rw[List.mem_mergeSort,aN,nz hn];constructor
 ·rintro⟨b,hb,rfl⟩;rw[cu,decide_eq_true_eq]at hb;rw[<-hb.2];exact hb.1
 ·intro hm;exact⟨(x,h),cu.2 ⟨hm,by simp⟩,rfl⟩
theorem xM (hn:(bG m).Nodup)(h:Hd):(kids m h).Nodup:=(iG _ _).nodup_iff.2 (hn.sublist (List.filter_sublist.map _))
theorem XN (m:jS)(h:Hd):(kids m h).length<=m.length:=by unfold kids jd;rw[List.length_mergeSort,List.length_map];exact List.length_filter_le _ _
def xY (m:jS):Nat->Hd->List Hd
 |0,_=>[]
 |n+1,h=>(kids m h).flatMap λc=>c::xY m n c
theorem pF {α β:Type}{f g:α->List β}: ∀{l:List α},(∀x∈l,f x=g x)->l.flatMap f=l.flatMap g
 | [],_=>rfl
 |a::l,h=>by rw[cM,cM,h a List.mem_cons_self,pF λx hx=>h x (lK _ hx)]
theorem xm (hn:(bG m).Nodup)(hr:zI m rk R): ∀(n n':Nat) (h:Hd),R-rk h<n->R-rk h<n'->xY m n h=xY m n' h
 |0,_,_,h1,_=>by omega
 |_,0,_,_,h2=>by omega
 |n+1,n'+1,h,h1,h2=>by
  unfold xY;refine pF λc hc=> ?_
  have:=hr _ _ ((lB hn).1 hc);rw[xm hn hr n n' c (by omega) (by omega)]
open Classical in
noncomputable def IT (m:jS):Nat:=if h:oZ m then(r9 (Classical.choose_spec h))+1 else 0
noncomputable def under (m:jS)(h:Hd):List Hd:=xY m (IT m) h
theorem IU (ha:oZ m): ∃rk R,zI m rk R/\IT m=R+1:=by refine⟨r9 ha,r9 (Classical.choose_spec ha),Classical.choose_spec (Classical.choose_spec ha),?_⟩;unfold IT;rw[dif_pos ha]
theorem Uq (hn:(bG m).Nodup)(ha:oZ m): ∃rk R,zI m rk R/\ ∀n h,R-rk h<n->xY m n h=under m h:=by obtain⟨rk,R,hr,hd⟩:=IU ha;refine⟨rk,R,hr,λn h bE=> ?_⟩;unfold under;rw[hd];exact xm hn hr _ _ h bE (by omega)
theorem vI (hn:(bG m).Nodup)(ha:oZ m)(h:Hd):under m h=(kids m h).flatMap λc=>c::under m c:=by
 obtain⟨rk,R,hr,hu⟩:=Uq hn ha;rw[<-hu (R-rk h+1) h (by omega)]
 conv=>lhs;unfold xY
 refine pF λc hc=> ?_
 have:=hr _ _ ((lB hn).1 hc);rw[hu (R-rk h) c (by omega)]
theorem uc (hn:(bG m).Nodup)(ha:oZ m)(P:Hd->Prop)(step: ∀h,(∀c,eG m c=ae h->P c)->P h)(h:Hd):P h:=by
 obtain⟨rk,R,hr⟩:=ha;generalize hk:R-rk h=k
 induction k using l7 generalizing h with
 |_ k ih=>
  refine step h λc hc=> ?_
  have:=hr _ _ hc;exact ih (R-rk c) (by omega) c rfl
theorem zZ (hn:(bG m).Nodup)(ha:oZ m):x∈under m h↔Up m x h:=by
 refine uc hn ha (λh=>x∈under m h↔Up m x h) (λh ih=> ?_) h;rw[vI hn ha,List.mem_flatMap];constructor
 ·rintro⟨c,hc,hx⟩;have hm:=(lB hn).1 hc;rcases cy.1 hx with rfl|hx
  ·exact .one hm
  ·exact((ih c hm).1 hx).trans (.one hm)
 ·intro hu;have: ∃c,eG m c=ae h/\(x=c\/Up m x c):=by
   clear ih
   induction hu with
   |one hm=>exact⟨_,hm,br rfl⟩
   |more hm _ ih=>
    obtain⟨c,h1,h2|h2⟩:=ih
    ·exact⟨c,h1,bR (h2▸ .one hm)⟩
    ·exact⟨c,h1,bR (.more hm h2)⟩
  obtain⟨c,hm,hx⟩:=this;refine⟨c,(lB hn).2 hm,?_⟩;rcases hx with rfl|hx
  ·exact List.mem_cons_self
  ·exact lK _ ((ih c hm).2 hx)
theorem xd {α β:Type}{f:α->List β}: ∀{l:List α},l.Nodup->(∀x∈l,(f x).Nodup)->(∀x∈l,∀y∈l,x≠y-> ∀z,z∈f x->z∈f y->False)->(l.flatMap f).Nodup
 | [],_,_,_=>by simp
 |a::l,hn,h1,h2=>by obtain⟨ha,hl⟩:=List.nodup_cons.1 hn;rw[cM,List.nodup_append];refine⟨h1 a List.mem_cons_self,xd hl (λx hx=>h1 x (lK _ hx)) (λx hx y hy=>h2 x (lK _ hx) y (lK _ hy)),?_⟩;intro z hz z' hz' e;subst e;obtain⟨y,hy,hzy⟩:=List.mem_flatMap.1 hz';exact h2 a List.mem_cons_self y (lK _ hy) (λe=>ha (e▸hy)) z hz hzy
theorem NA (hn:(bG m).Nodup)(ha:oZ m)(h:Hd):(under m h).Nodup:=by
 refine uc hn ha (λh=>(under m h).Nodup) (λh ih=> ?_) h;rw[vI hn ha];have key: ∀x z,z∈x::under m x->z=x\/Up m z x:=λx z hz=>by
  rcases cy.1 hz with e|e
  ·exact br e
  ·exact bR ((zZ hn ha).1 e)
 refine xd (xM hn h) (λc hc=> ?_) (λx hx y hy dQ z h1 h2=> ?_)
 ·rw[List.nodup_cons];exact⟨λe=>Up.irrefl ha ((zZ hn ha).1 e),ih c ((lB hn).1 hc)⟩
 ·have mx:=(lB hn).1 hx;have my:=(lB hn).1 hy;have apart: ∀u v:Hd,eG m u=ae h->eG m v=ae h-> ¬Up m u v:=λu v hu hv e=>by
   cases e with
   |one e=>rw[hu]at e;cases aY e;exact Up.irrefl ha (.one hv)
   |more e e2=>rw[hu]at e;cases aY e;exact Up.irrefl ha ((Up.one hv).trans e2)
  rcases key x z h1 with e1|e1<;>rcases key y z h2 with e2|e2
  ·exact dQ (e1.symm.trans e2)
  ·rw[e1]at e2;exact apart x y mx my e2
  ·rw[e2]at e1;exact apart y x my mx e1
  ·rcases e1.linear e2 with e|e|e
   ·exact dQ e
   ·exact apart x y mx my e
   ·exact apart y x my mx e
theorem Ay (hn:(bG m).Nodup)(ha:oZ m)(h:Hd):(under m h).length<=m.length:=by
 have:=vq (NA hn ha h) (l':=bG m) λx hx=>by
  have hu:=(zZ hn ha).1 hx;cases hu with
  |one h=>exact aN.2 ⟨_,vp h,rfl⟩
  |more h _=>exact aN.2 ⟨_,vp h,rfl⟩
 simpa[bG]using this
end
open Classical in
noncomputable def fx (m:jS)(c p:Hd):jS×Int:=if c=p\/Up m p c then(m,8)else(iP m c p,0)
def fG (m:jS)(c:Hd):jS×Int:=if(eG m c).isSome then(ep m c,0)else(m,5)
def oA (m:jS)(h:Hd):jS:=m.filter λb=> !(decide (b.1=h)||decide (b.2=h))
def dx (m:jS):List (Hd×Hd):=m.mergeSort (Vb (·.1))
structure jK (m:jS):Prop where
 nodup:(bG m).Nodup
 uy:oZ m
section
variable {m:jS} {c h p x y:Hd}
theorem jK.nil:jK []:=⟨List.nodup_nil,oZ.nil⟩
theorem jK.sk (hm:jK m)(c p:Hd):jK (fx m c p).1:=by
 unfold fx
 split
 ·exact hm
 ·rename_i h
  exact⟨Po hm.nodup _ _,hm.uy.put (λe=>h (br e)) λe=>h (bR e)⟩
theorem jK.loosen (hm:jK m)(c:Hd):jK (fG m c).1:=by
 unfold fG
 split
 ·exact⟨qD hm.nodup _,hm.uy.del c⟩
 ·exact hm
theorem xG (hn:(bG m).Nodup)(h:Hd):(bG (oA m h)).Nodup:=hn.sublist (List.filter_sublist.map _)
theorem Tt (hn:(bG m).Nodup)(h:Hd):eG (oA m h) x=ae y↔eG m x=ae y/\x≠h/\y≠h:=by rw[nz (xG hn h),nz hn];unfold oA;rw[cu];simp
theorem jK.gone (hm:jK m)(h:Hd):jK (oA m h):=⟨xG hm.nodup h,hm.uy.sub λ_ _ e=>((Tt hm.nodup h).1 e).1⟩
theorem oy (hn:(bG m).Nodup): ∀a∈m,∀b∈m,a.1=b.1->a=b:=λa ha b hb e=>by have h1:=ko hn (x:=a.1) (v:=a.2) ha;have h2:=ko hn (x:=b.1) (v:=b.2) hb;rw[e,h2]at h1;exact Prod.ext e (aY h1).symm
theorem Tp {b:Hd×Hd}(hn:(bG m).Nodup):b∈dx m↔eG m b.1=ae b.2:=by unfold dx;rw[List.mem_mergeSort,nz hn]
theorem Gg (m:jS):(dx m).length=m.length:=by unfold dx;rw[List.length_mergeSort]
theorem CR (hn:(bG m).Nodup)(h:Hd):dx (oA m h)=(dx m).filter λb=> !(decide (b.1=h)||decide (b.2=h)):=by have hp:((dx m).filter λb=> !(decide (b.1=h)||decide (b.2=h))).Perm (oA m h):=(iG m _).filter _;exact(jr (·.1) (oy (xG hn h)) hp ((lQ (·.1) m).sublist List.filter_sublist)).symm
end
end
section
open Go.RowKit
def kinds (m:Nat):List Nat:=(aG 8).filter λk=>m.testBit k
def tz8 (b:Nat):Nat:=(kinds b).headD 8
def low (b:Nat):Nat:=b &&& (b-1)
theorem O5: ∀b:Nat,b<256->b≠0->kinds b=tz8 b::kinds (low b)/\low b<b:=by
 have h: ∀b:Fin 256,b.val≠0->kinds b.val=tz8 b.val::kinds (low b.val)/\low b.val<b.val:=by decide+kernel
 exact λb hb=>h ⟨b,hb⟩
theorem O6:kinds 0=[]:=by decide
theorem pQ (m:Nat):(kinds m).length<=8:=by have:=List.length_filter_le (λk=>m.testBit k) (aG 8);simpa[kinds]using this
theorem ju (m k:Nat):k∈kinds m↔k<8/\m.testBit k=aA:=by simp[kinds]
theorem rC (m:Nat):(kinds m).Nodup:=List.nodup_range.sublist List.filter_sublist
theorem ID: ∀(m k:Nat),m<256->k<8->bits .and .i64 ((m:Int) / 2^k) 1=if m.testBit k then 1 else 0:=by
 have h: ∀(m:Fin 256) (k:Fin 8),bits .and .i64 ((m.val:Int) / 2^k.val) 1=if m.val.testBit k.val then 1 else 0:=by decide+kernel
 exact λm k hm hk=>h ⟨m,hm⟩ ⟨k,hk⟩
theorem ad': ∀(m k:Nat),m<256->k<8->bits .or .i64 (m:Int) (wrap64 (2^k))=((m ||| 2^k:Nat):Int):=by
 have h: ∀(m:Fin 256) (k:Fin 8),bits .or .i64 (m.val:Int) (wrap64 (2^k.val))=((m.val ||| 2^k.val:Nat):Int):=by decide+kernel
 exact λm k hm hk=>h ⟨m,hm⟩ ⟨k,hk⟩
end
namespace Rel
open Go.Conc Go.ConcN
structure jS where
 own:Nat->Loc->Prop
 fr:Loc->Prop
 rd:Loc->Prop
 mine:Loc->Prop
 sh:Loc->Prop
structure jS.Apart (F:jS):Prop where
 own: ∀k k' l,F.own k l->F.own k' l->k=k'
 acI: ∀k l,F.own k l-> ¬F.fr l
 ownRd: ∀k l,F.own k l-> ¬F.rd l
 Ru: ∀k l,F.own k l-> ¬F.mine l
 ownSh: ∀k l,F.own k l-> ¬F.sh l
 adq: ∀l,F.fr l-> ¬F.rd l
 adp: ∀l,F.fr l-> ¬F.mine l
 adr: ∀l,F.fr l-> ¬F.sh l
 YC: ∀l,F.rd l-> ¬F.mine l
 rdSh: ∀l,F.rd l-> ¬F.sh l
 X5: ∀l,F.mine l-> ¬F.sh l
structure ET (F:jS) (lo hi:Nat) (t:Trace):Prop where
 nr: ∀said,¬Race said t
 quiet:Quiet F.sh t
 own: ∀k,lo<=k->k<hi-> ∀l,F.own k l->Perm t k l
 fr0: ∀l,F.fr l->Perm t 0 l
 fr: ∀k,lo<=k->k<hi-> ∀l,F.fr l->Perm t k l
 rd0: ∀l,F.rd l->PermW t 0 l
 rd: ∀k,lo<=k->k<hi-> ∀l,F.rd l->PermW t k l
 mine: ∀l,F.mine l->Perm t 0 l
 gs: ∀(i:Nat) (op:MemOp),t[i]? =ae op->op.g<hi
def OkK (F:jS)(k:Nat)(op:MemOp):Prop:=op.g=k/\ ∀x,op.act.touch? =ae x->(F.sh x.loc/\x.kind≠ .plain/\x.kind≠ .said)\/F.own k x.loc\/(F.rd x.loc/\x.write=aw)
def OkM (F:jS)(op:MemOp):Prop:=op.g=0/\ ∀x,op.act.touch? =ae x->(F.sh x.loc/\x.kind≠ .plain)\/F.mine x.loc\/(F.rd x.loc/\x.write=aw)
section
variable {F:jS} {lo hi:Nat} {t u:Trace}
theorem ET.ac6 (A:F.Apart)(h:ET F lo hi t){k:Nat}(k1:lo<=k)(kj:k<hi)(hu: ∀op∈u,OkK F k op):ET F lo hi (t++u):=by
 have hg: ∀op∈u,op.g=k:=λop hop=>(hu op hop).1
 refine⟨λsaid=> ?_,h.quiet.app λop hop x hx hs=> ?_,λk' a b l hl=>(h.own k' a b l hl).app λop hop x hx e=> ?_,λl hl=>(h.fr0 l hl).app λop hop x hx e=> ?_,λk' a b l hl=>(h.fr k' a b l hl).app λop hop x hx e=> ?_,λl hl=>(h.rd0 l hl).app λop hop x hx e hw=> ?_,λk' a b l hl=>(h.rd k' a b l hl).app λop hop x hx e hw=> ?_,λl hl=>(h.mine l hl).app λop hop x hx e=> ?_,λi op gj=> ?_⟩
 ·refine noRace_append (h.nr said) hg (λi a ha op hop b hb hc=> ?_);rcases(hu op hop).2 b hb with⟨hs,hk,hn⟩|ho|⟨hr,hbw⟩
  ·exact h.quiet.known hs hk (λe=>absurd e hn) i a ha hc
  ·exact h.own k k1 kj b.loc ho i a ha hc.1
  ·exact h.rd k k1 kj b.loc hr i a ha hc.1 (hc.2.2.1.resolve_right (by simp[hbw]))
 ·rcases(hu op hop).2 x hx with⟨_,hk,hn⟩|ho|⟨hr,_⟩
  ·exact⟨hk,λe=>absurd e hn⟩
  ·exact absurd hs (A.ownSh k _ ho)
  ·exact absurd hs (A.rdSh _ hr)
 ·rcases(hu op hop).2 x hx with⟨hs,_⟩|ho|⟨hr,_⟩
  ·exact absurd (e▸hs) (A.ownSh k' l hl)
  ·rw[hg op hop];exact A.own k k' l (e▸ho) hl
  ·exact absurd (e▸hr) (A.ownRd k' l hl)
 ·rcases(hu op hop).2 x hx with⟨hs,_⟩|ho|⟨hr,_⟩
  ·exact absurd (e▸hs) (A.adr l hl)
  ·exact absurd hl (A.acI k l (e▸ho))
  ·exact absurd (e▸hr) (A.adq l hl)
 ·rcases(hu op hop).2 x hx with⟨hs,_⟩|ho|⟨hr,_⟩
  ·exact absurd (e▸hs) (A.adr l hl)
  ·exact absurd hl (A.acI k l (e▸ho))
  ·exact absurd (e▸hr) (A.adq l hl)
 ·rcases(hu op hop).2 x hx with⟨hs,_⟩|ho|⟨_,hr⟩
  ·exact absurd (e▸hs) (A.rdSh l hl)
  ·exact absurd hl (A.ownRd k l (e▸ho))
  ·rw[hr]at hw;cases hw
 ·rcases(hu op hop).2 x hx with⟨hs,_⟩|ho|⟨_,hr⟩
  ·exact absurd (e▸hs) (A.rdSh l hl)
  ·exact absurd hl (A.ownRd k l (e▸ho))
  ·rw[hr]at hw;cases hw
 ·rcases(hu op hop).2 x hx with⟨hs,_⟩|ho|⟨hr,_⟩
  ·exact absurd (e▸hs) (A.X5 l hl)
  ·exact absurd hl (A.Ru k l (e▸ho))
  ·exact absurd hl (A.YC l (e▸hr))
 ·rcases getElem?_append_cases gj with⟨_,gj⟩|⟨_,U3⟩
  ·exact h.gs i op gj
  ·rw[hg op U3];exact kj
theorem ET.afa (A:F.Apart)(h0:0<lo)(Kw:lo<=hi)(h:ET F lo hi t)(hu: ∀op∈u,OkM F op):ET F lo hi (t++u):=by
 have hg: ∀op∈u,op.g=0:=λop hop=>(hu op hop).1
 refine⟨λsaid=> ?_,h.quiet.app λop hop x hx hs=> ?_,λk' a b l hl=>(h.own k' a b l hl).app λop hop x hx e=> ?_,λl hl=>(h.fr0 l hl).app λop hop x hx e=>hg op hop,λk' a b l hl=>(h.fr k' a b l hl).app λop hop x hx e=> ?_,λl hl=>(h.rd0 l hl).app λop hop x hx e hw=>hg op hop,λk' a b l hl=>(h.rd k' a b l hl).app λop hop x hx e hw=> ?_,λl hl=>(h.mine l hl).app λop hop x hx e=>hg op hop,λi op gj=> ?_⟩
 ·refine noRace_append (h.nr said) hg (λi a ha op hop b hb hc=> ?_);rcases(hu op hop).2 b hb with⟨hs,hk⟩|ho|⟨hr,hbw⟩
  ·exact h.quiet.known hs hk (λ_=>rfl) i a ha hc
  ·exact h.mine b.loc ho i a ha hc.1
  ·exact h.rd0 b.loc hr i a ha hc.1 (hc.2.2.1.resolve_right (by simp[hbw]))
 ·rcases(hu op hop).2 x hx with⟨_,hk⟩|ho|⟨hr,_⟩
  ·exact⟨hk,λ_=>hg op hop⟩
  ·exact absurd hs (A.X5 _ ho)
  ·exact absurd hs (A.rdSh _ hr)
 ·rcases(hu op hop).2 x hx with⟨hs,_⟩|ho|⟨hr,_⟩
  ·exact absurd (e▸hs) (A.ownSh k' l hl)
  ·exact absurd (e▸ho) (A.Ru k' l hl)
  ·exact absurd (e▸hr) (A.ownRd k' l hl)
 ·rcases(hu op hop).2 x hx with⟨hs,_⟩|ho|⟨hr,_⟩
  ·exact absurd (e▸hs) (A.adr l hl)
  ·exact absurd (e▸ho) (A.adp l hl)
  ·exact absurd (e▸hr) (A.adq l hl)
 ·rcases(hu op hop).2 x hx with⟨hs,_⟩|ho|⟨_,hr⟩
  ·exact absurd (e▸hs) (A.rdSh l hl)
  ·exact absurd (e▸ho) (A.YC l hl)
  ·rw[hr]at hw;cases hw
 ·rcases getElem?_append_cases gj with⟨_,gj⟩|⟨_,U3⟩
  ·exact h.gs i op gj
  ·rw[hg op U3];omega
theorem ET.mute (h:ET F lo hi t){g:Nat}(hgh:g<hi)(hg: ∀op∈u,op.g=g)(hn: ∀op∈u,op.act.touch? =ai):ET F lo hi (t++u):=by
 have no: ∀{P:Prop},∀op∈u,∀x,op.act.touch? =ae x->P:=λop hop x hx=>by rw[hn op hop]at hx;cases hx
 refine⟨λsaid=>noRace_append (h.nr said) hg (λi a ha op hop b hb hc=>no op hop b hb),h.quiet.app λop hop x hx hs=>no op hop x hx,λk' a b l hl=>(h.own k' a b l hl).app λop hop x hx e=>no op hop x hx,λl hl=>(h.fr0 l hl).app λop hop x hx e=>no op hop x hx,λk' a b l hl=>(h.fr k' a b l hl).app λop hop x hx e=>no op hop x hx,λl hl=>(h.rd0 l hl).app λop hop x hx e hw=>no op hop x hx,λk' a b l hl=>(h.rd k' a b l hl).app λop hop x hx e hw=>no op hop x hx,λl hl=>(h.mine l hl).app λop hop x hx e=>no op hop x hx,λi op gj=> ?_⟩;rcases getElem?_append_cases gj with⟨_,gj⟩|⟨_,U3⟩
 ·exact h.gs i op gj
 ·rw[hg op U3];exact hgh
def sf (t:Trace)(l:Loc):Prop:= ∀i a,touchAt t i=ae a->a.loc≠l
theorem sf.perm {l:Loc}(h:sf t l)(g:Nat):Perm t g l:=λi a ha e=>absurd e (h i a ha)
theorem ET.rS {F':jS}(h:ET F lo hi t)(hsh:F'.sh=F.sh)(gZ: ∀k,lo<=k->k<hi-> ∀l,F'.own k l->F.own k l\/F.fr l\/sf t l)(mZ: ∀l,F'.fr l->F.fr l)(OP: ∀l,F'.rd l->F.rd l)(hm: ∀l,F'.mine l->F.mine l\/sf t l):ET F' lo hi t:=by
 refine⟨h.nr,by rw[hsh];exact h.quiet,λk a b l hl=> ?_,λl hl=>h.fr0 l (mZ l hl),λk a b l hl=>h.fr k a b l (mZ l hl),λl hl=>h.rd0 l (OP l hl),λk a b l hl=>h.rd k a b l (OP l hl),λl hl=> ?_,h.gs⟩
 ·rcases gZ k a b l hl with x|x|x
  ·exact h.own k a b l x
  ·exact h.fr k a b l x
  ·exact x.perm k
 ·exact(hm l hl).elim (h.mine l) λx=>x.perm 0
theorem ET.fork (Kw:lo<=hi)(h:ET F lo hi t){F':jS}(hsh:F'.sh=F.sh)(gZ: ∀k,lo<=k->k<hi-> ∀l,F'.own k l->F.own k l)(OJ: ∀l,F'.own hi l->F.mine l)(mZ: ∀l,F'.fr l->F.fr l)(OP: ∀l,F'.rd l->F.rd l)(hm: ∀l,F'.mine l->F.mine l)(hhi:0<hi){x y:MemOp}(hx:x.g=0/\x.act=.go hi)(hy:y.g=hi/\y.act=.start)(h0:Deaf t 0=0):ET F' lo (hi+1) (t++ #[x,y]):=by
 have hk:Deaf t hi=0:=Deaf_absent λi op hi e=>by have:=h.gs i op hi;omega
 have yf: ∀op∈ #[x,y],∀b,op.act.touch? =ae b->False:=by
  intro op hop b hb;simp only[pz,cy,jo,or_false]at hop;rcases hop with rfl|rfl
  ·rw[hx.2]at hb;cases hb
  ·rw[hy.2]at hb;cases hb
 have old: ∀{i:Nat} {a:Touch},touchAt (t++ #[x,y]) i=ae a->touchAt t i=ae a:=by
  intro i a ha;obtain⟨z,hz,hza⟩:=touch_of ha;rcases getElem?_append_cases hz with⟨_,hz'⟩|⟨_,hzu⟩
  ·rw[touchAt_of hz'];exact hza
  ·exact(yf z hzu a hza).elim
 have ap: ∀{g:Nat} {l:Loc},Perm t g l->Perm (t++ #[x,y]) g l:=λhp=>hp.app λop hop b hb _=>(yf op hop b hb).elim
 have apw: ∀{g:Nat} {l:Loc},PermW t g l->PermW (t++ #[x,y]) g l:=λhp=>hp.app λop hop b hb _ _=>(yf op hop b hb).elim
 have ch: ∀{l:Loc},Perm t 0 l->Perm (t++ #[x,y]) hi l:=λhp i a ha e=>fork_knows hx hy h0 hk (hp i a (old ha) e)
 have chw: ∀{l:Loc},PermW t 0 l->PermW (t++ #[x,y]) hi l:=λhp i a ha e hw=>fork_knows hx hy h0 hk (hp i a (old ha) e hw)
 refine⟨λsaid=> ?_,by rw[hsh];exact h.quiet.app λop hop b hb _=>(yf op hop b hb).elim,λk a b l hl=> ?_,λl hl=>ap (h.fr0 l (mZ l hl)),λk a b l hl=> ?_,λl hl=>apw (h.rd0 l (OP l hl)),λk a b l hl=> ?_,λl hl=>ap (h.mine l (hm l hl)),λi op gj=> ?_⟩
 ·have e:t++ #[x,y]=(t++ #[x])++ #[y]:=by apply Array.ext';simp
  rw[e];refine noRace_append (g:=hi) (noRace_append (g:=0) (h.nr said) (λop hop=>by simp at hop;rw[hop];exact hx.1) (λi a _ op hop b hb _=>(yf op (by simp at hop⊢;exact .inl hop) b hb).elim)) (λop hop=>by simp at hop;rw[hop];exact hy.1) (λi a _ op hop b hb _=>(yf op (by simp at hop⊢;exact .inr hop) b hb).elim)
 ·rcases dM k hi with bE|va
  ·exact ap (h.own k a bE l (gZ k a bE l hl))
  ·obtain rfl:k=hi:=by omega
   exact ch (h.mine l (OJ l hl))
 ·rcases dM k hi with bE|va
  ·exact ap (h.fr k a bE l (mZ l hl))
  ·obtain rfl:k=hi:=by omega
   exact ch (h.fr0 l (mZ l hl))
 ·rcases dM k hi with bE|va
  ·exact apw (h.rd k a bE l (OP l hl))
  ·obtain rfl:k=hi:=by omega
   exact chw (h.rd0 l (OP l hl))
 ·rcases getElem?_append_cases gj with⟨_,gj⟩|⟨_,U3⟩
  ·exact Nat.lt_succ_of_lt (h.gs i op gj)
  ·simp only[pz,cy,jo,or_false]at U3;rcases U3 with rfl|rfl
   ·rw[hx.1];omega
   ·rw[hy.1];omega
end
end Rel
namespace Rel
abbrev Ren:=Nat->Nat->Prop
structure Ren.Ok (P:aS) (π:Ren):Prop where
 fn: ∀a b c,π a b->π a c->b=c
 inj: ∀a b c,π a c->π b c->a=b
 WQ: ∀a b,π a b->(a<P.globals.size↔b<P.globals.size)
structure jy where
 fn:bQ->Prop
 code:Code->Prop
 WQ:Nat->Prop
 mem:Addr->Option Int:=λ_=>ai
instance:CoeFun jy λ_=>bQ->Prop:=⟨jy.fn⟩
structure Ext (P:aS) (π bO:Ren):Prop where
 le: ∀a b,π a b->bO a b
 ok:Ren.Ok P bO
theorem Ext.refl {P:aS}{π:Ren}(h:Ren.Ok P π):Ext P π π:=⟨λ_ _ x=>x,h⟩
theorem Ext.trans {P:aS}{a b c:Ren}(h:Ext P a b)(k:Ext P b c):Ext P a c:=⟨λ_ _ x=>k.le _ _ (h.le _ _ x),k.ok⟩
inductive gw {α β:Type} (R:α->β->Prop):Option α->Option β->Prop
 |none:gw R ai ai
 |some {a b}:R a b->gw R (ae a) (ae b)
theorem gw.mono {α β:Type}{R R':α->β->Prop}(h: ∀a b,R a b->R' a b): ∀{x y},gw R x y->gw R' x y
 |_,_,.none=>.none
 |_,_,.some x=>.some (h _ _ x)
structure iL {α β:Type} (R:α->β->Prop) (x:Array α) (y:Array β):Prop where
 size:x.size=y.size
 at_: ∀(i:Nat) a b,x[i]? =ae a->y[i]? =ae b->R a b
inductive dj {α β:Type} (R:α->β->Prop):List α->List β->Prop
 |nil:dj R [] []
 |cons {a b l m}:R a b->dj R l m->dj R (a::l) (b::m)
structure dD (π:Ren) (a b:Addr):Prop where
 block:π a.block b.block
 off:b.off=a.off
 spot:b.spot=a.spot
inductive UN (S:jy) (π:Ren):Fn->Fn->Prop
 |func {f}:S f->UN S π (.func f) (.func f)
 |yield {l m}:π l m->UN S π (.yield l) (.yield m)
inductive bx (S:jy) (π:Ren):aq->aq->Prop
 |bool (b):bx S π (.bool b) (.bool b)
 |int (k n):bx S π (.int k n) (.int k n)
 |string (s):bx S π (.string s) (.string s)
 |fE:bx S π (.pointer ai) (.pointer ai)
 |pointer {a b}:dD π a b->bx S π (.pointer (ae a)) (.pointer (ae b))
 |j6 (l c):bx S π (.slice ai l c) (.slice ai l c)
 |slice {a b} (l c):dD π a b->bx S π (.slice (ae a) l c) (.slice (ae b) l c)
 |xN:bx S π (.map ai) (.map ai)
 |map {a b}:π a b->bx S π (.map (ae a)) (.map (ae b))
 |uT:bx S π (.chan ai) (.chan ai)
 |func {f g:Fn} {x x' y y':Array aq}:UN S π f g->x.size=x'.size->(∀(i:Nat) a b,x[i]? =ae a->x'[i]? =ae b->bx S π a b)->y.size=y'.size->(∀(i:Nat) a b,y[i]? =ae a->y'[i]? =ae b->bx S π a b)->bx S π (.func f x y) (.func g x' y')
 |nilFunc:bx S π .nilFunc .nilFunc
 |iface (t) {v v'}:bx S π v v'->bx S π (.iface t v) (.iface t v')
 |nilIface:bx S π .nilIface .nilIface
 |agg {x x':Array aq}:x.size=x'.size->(∀(i:Nat) a b,x[i]? =ae a->x'[i]? =ae b->bx S π a b)->bx S π (.agg x) (.agg x')
 |tuple {x x':Array aq}:x.size=x'.size->(∀(i:Nat) a b,x[i]? =ae a->x'[i]? =ae b->bx S π a b)->bx S π (.tuple x) (.tuple x')
abbrev cK (S:jy)(π:Ren):Array aq->Array aq->Prop:=iL (bx S π)
theorem dD.mono {P:aS}{π bO:Ren}(h:Ext P π bO){a b:Addr}(x:dD π a b):dD bO a b:=⟨h.le _ _ x.block,x.off,x.spot⟩
theorem UN.mono {P:aS}{S:jy}{π bO:Ren}(h:Ext P π bO): ∀{a b:Fn},UN S π a b->UN S bO a b
 |_,_,.func s=>.func s
 |_,_,.yield x=>.yield (h.le _ _ x)
theorem bx.mono {P:aS}{S:jy}{π bO:Ren}(h:Ext P π bO){v v':aq}(x:bx S π v v'):bx S bO v v':=by
 induction x with
 |bool=>exact .bool _
 |int=>exact .int _ _
 |string=>exact .string _
 |fE=>exact .fE
 |pointer x=>exact .pointer (x.mono h)
 |j6=>exact .j6 _ _
 |slice l c x=>exact .slice _ _ (x.mono h)
 |xN=>exact .xN
 |map x=>exact .map (h.le _ _ x)
 |uT=>exact .uT
 |func f s1 _ s2 _ i1 i2=>exact .func (f.mono h) s1 i1 s2 i2
 |nilFunc=>exact .nilFunc
 |iface t _ i=>exact .iface _ i
 |nilIface=>exact .nilIface
 |agg s _ i=>exact .agg s i
 |tuple s _ i=>exact .tuple s i
structure o0 (S:jy) (π:Ren) (e e':MapEntry):Prop where
 key:bx S π e.key e'.key
 val:bx S π e.val e'.val
 born:e'.born=e.born
structure AK (S:jy) (π:Ren) (a b:Loop):Prop where
 state:b.state=a.state
 pending:b.pending=a.pending
 okP: ∀c,a.pending=ae c->S.code c
 fn:b.fn=a.fn
 tmps:cK S π a.tmps b.tmps
 params:b.params=a.params
 assign:b.assign=a.assign
 okA:S.code a.assign
 body:b.body=a.body
 okB:S.code a.body
 defers:π a.defers b.defers
inductive ku (S:jy) (π:Ren):Obj->Obj->Prop
 |loop {a b:Loop}:AK S π a b->ku S π (.loop a) (.loop b)
 |number {a b:Addr} (lost:Bool):dD π a b->ku S π (.number a lost) (.number b lost)
 |deferred (b:Bool):ku S π (.deferred (if b then ae []else ai)) (.deferred (if b then ae []else ai))
 |cells {c c'} (t fr):cK S π c c'->ku S π (.cells c t fr) (.cells c' t fr)
 |map {e e'} (k):iL (o0 S π) e e'->ku S π (.map e k) (.map e' k)
 |stringIter (s p):ku S π (.stringIter s p) (.stringIter s p)
 |mapIter {m m'} (since seen nG):gw π m m'->ku S π (.mapIter m since seen nG) (.mapIter m' since seen nG)
def _root_.Go.Halt.lost:Halt->Bool
 | .panic _| .stuck _=>aA
 | .unsupported (.initOrder _)=>aw
 | .unsupported _=>aA
 |_=>aw
def aI (P:aS)(S:jy){α β:Type}(Q:Ren->α->β->Prop):Sem α->Ren->Sem β->Prop
 | .pure a,π,s'=> ∃b,s'=.pure b/\Q π a b
 | .load m a k,π,s'=>m=.plain/\ ∃a' k',s'=.load .plain a' k'/\((dD π a a'/\ ∀v v',bx S π v v'->aI P S Q (k v) π (k' v'))\/(a'=a/\ ∃x,S.mem a=ae x/\aI P S Q (k (.int .i64 x)) π (k' (.int .i64 x))))
 | .store m a v k,π,s'=>m=.plain/\ ∃a' v' k',s'=.store .plain a' v' k'/\dD π a a'/\bx S π v v'/\aI P S Q k π k'
 | .new o k,π,s'=> ∃o' k',s'=.new o' k'/\ku S π o o'/\ ∀bO r r',Ext P π bO->bO r r'->aI P S Q (k r) bO (k' r')
 | .shape r k,π,s'=> ∃r' k',s'=.shape r' k'/\π r r'/\ ∀x,aI P S Q (k x) π (k' x)
 | .freeze _ _ _,_,_=>False
 | .frozen a k,π,s'=> ∃a' k',s'=.frozen a' k'/\dD π a a'/\ ∀x,aI P S Q (k x) π (k' x)
 | .getObj r k,π,s'=> ∃r' k',s'=.getObj r' k'/\π r r'/\ ∀o o',ku S π o o'->aI P S Q (k o) π (k' o')
 | .setObj r o k,π,s'=> ∃r' o' k',s'=.setObj r' o' k'/\π r r'/\ku S π o o'/\aI P S Q k π k'
 | .choose q k,π,s'=> ∃k',s'=.choose q k'/\ ∀n,aI P S Q (k n) π (k' n)
 | .sys _ _,_,_=>False
 | .program k,π,s'=> ∃k',s'=.program k'/\aI P S Q (k P) π (k' P)
 | .mark m k,π,s'=>m=.noRoom/\ ∃k',s'=.mark .noRoom k'/\aI P S Q k π k'
 | .halt h,_,_=>h.lost=aA
section
variable {P:aS} {S:jy}
theorem aI.bind {α β γ δ:Type}{Q:Ren->α->β->Prop}{Q':Ren->γ->δ->Prop}{k:α->Sem γ}{k':β->Sem δ}: ∀{s:Sem α} {π:Ren} {s':Sem β},Ren.Ok P π->aI P S Q s π s'->(∀bO a b,Ext P π bO->Q bO a b->aI P S Q' (k a) bO (k' b))->aI P S Q' (s >>= k) π (s' >>= k'):=by
 intro s
 induction s with
 |pure a=>rintro π _ ok ⟨b,rfl,h⟩ hk;exact hk π a b (Ext.refl ok) h
 |load m a k ih=>
  rintro π _ ok ⟨rfl,a',k',rfl,⟨h,h'⟩|⟨rfl,x,h,h'⟩⟩ hk
  ·exact⟨rfl,a',_,rfl,.inl ⟨h,λv v' hv=>ih v ok (h' v v' hv) hk⟩⟩
  ·exact⟨rfl,a',_,rfl,.inr ⟨rfl,x,h,ih _ ok h' hk⟩⟩
 |store m a v k ih=>rintro π _ ok ⟨rfl,a',v',k',rfl,h,h1,h2⟩ hk;exact⟨rfl,a',v',_,rfl,h,h1,ih ok h2 hk⟩
 |new o k ih=>rintro π _ ok ⟨o',k',rfl,h,h'⟩ hk;exact⟨o',_,rfl,h,λbO r r' e hr=>ih r e.ok (h' bO r r' e hr) λQh a b e'=>hk Qh a b (e.trans e')⟩
 |shape r k ih=>rintro π _ ok ⟨r',k',rfl,h,h'⟩ hk;exact⟨r',_,rfl,h,λx=>ih x ok (h' x) hk⟩
 |freeze a n k ih=>rintro π _ ok h hk;exact h.elim
 |frozen a k ih=>rintro π _ ok ⟨r',k',rfl,h,h'⟩ hk;exact⟨r',_,rfl,h,λx=>ih x ok (h' x) hk⟩
 |getObj r k ih=>rintro π _ ok ⟨r',k',rfl,h,h'⟩ hk;exact⟨r',_,rfl,h,λo o' ho=>ih o ok (h' o o' ho) hk⟩
 |setObj r o k ih=>rintro π _ ok ⟨r',o',k',rfl,h,ho,h'⟩ hk;exact⟨r',o',_,rfl,h,ho,ih ok h' hk⟩
 |choose q k ih=>rintro π _ ok ⟨k',rfl,h⟩ hk;exact⟨_,rfl,λn=>ih n ok (h n) hk⟩
 |sys c k ih=>rintro π _ ok h hk;exact h.elim
 |program k ih=>rintro π _ ok ⟨k',rfl,h⟩ hk;exact⟨_,rfl,ih P ok h hk⟩
 |mark m k ih=>rintro π _ ok ⟨rfl,k',rfl,h⟩ hk;exact⟨rfl,_,rfl,ih ok h hk⟩
 |halt h=>intro π s' _ hl _;exact hl
theorem aI.mono {α β:Type}{Q Q':Ren->α->β->Prop}{s:Sem α}{π:Ren}{s':Sem β}(ok:Ren.Ok P π)(h:aI P S Q s π s')(hq: ∀bO a b,Ext P π bO->Q bO a b->Q' bO a b):aI P S Q' s π s':=by
 induction s generalizing π s' with
 |pure a=>obtain⟨b,rfl,h⟩:=h;exact⟨b,rfl,hq π a b (Ext.refl ok) h⟩
 |load m a k ih=>
  obtain⟨rfl,a',k',rfl,⟨h,h'⟩|⟨rfl,x,h,h'⟩⟩:=h
  ·exact⟨rfl,a',_,rfl,.inl ⟨h,λv v' hv=>ih v ok (h' v v' hv) hq⟩⟩
  ·exact⟨rfl,a',_,rfl,.inr ⟨rfl,x,h,ih _ ok h' hq⟩⟩
 |store m a v k ih=>obtain⟨rfl,a',v',k',rfl,h,h1,h2⟩:=h;exact⟨rfl,a',v',_,rfl,h,h1,ih ok h2 hq⟩
 |new o k ih=>obtain⟨o',k',rfl,h,h'⟩:=h;exact⟨o',_,rfl,h,λbO r r' e hr=>ih r e.ok (h' bO r r' e hr) λQh a b e'=>hq Qh a b (e.trans e')⟩
 |shape r k ih=>obtain⟨r',k',rfl,h,h'⟩:=h;exact⟨r',_,rfl,h,λx=>ih x ok (h' x) hq⟩
 |freeze a n k ih=>exact h.elim
 |frozen a k ih=>obtain⟨r',k',rfl,h,h'⟩:=h;exact⟨r',_,rfl,h,λx=>ih x ok (h' x) hq⟩
 |getObj r k ih=>obtain⟨r',k',rfl,h,h'⟩:=h;exact⟨r',_,rfl,h,λo o' ho=>ih o ok (h' o o' ho) hq⟩
 |setObj r o k ih=>obtain⟨r',o',k',rfl,h,ho,h'⟩:=h;exact⟨r',o',_,rfl,h,ho,ih ok h' hq⟩
 |choose q k ih=>obtain⟨k',rfl,h⟩:=h;exact⟨_,rfl,λn=>ih n ok (h n) hq⟩
 |sys c k ih=>exact h.elim
 |program k ih=>obtain⟨k',rfl,h⟩:=h;exact⟨_,rfl,ih P ok h hq⟩
 |mark m k ih=>obtain⟨rfl,k',rfl,h⟩:=h;exact⟨rfl,_,rfl,ih ok h hq⟩
 |halt h'=>exact h
end
structure ck (P:aS) (S:jy) (π:Ren) (L R:ah):Prop where
 ok:Ren.Ok P π
 obj: ∀l r,π l r-> ∃o o',L.heap[l]? =ae o/\R.heap[r]? =ae o'/\ku S π o o'
 ox:P.globals.size<=L.heap.size
 uz:P.globals.size<=R.heap.size
 old: ∀a x,S.mem a=ae x->(∀r,¬π a.block r)/\(∀l,¬π l a.block)/\L.cell? a=ae (.int .i64 x)/\R.cell? a=ae (.int .i64 x)
theorem iL.mono {α β:Type}{R R':α->β->Prop}{x:Array α}{y:Array β}(h:iL R x y)(k: ∀a b,R a b->R' a b):iL R' x y:=⟨h.size,λi a b ha hb=>k _ _ (h.at_ i a b ha hb)⟩
theorem iL.get {α β:Type}{R:α->β->Prop}{x:Array α}{y:Array β}(h:iL R x y){i:Nat}{a:α}(ha:x[i]? =ae a): ∃b,y[i]? =ae b/\R a b:=by
 have hi:i<y.size:=by rw[<-h.size];exact(aL.1 ha).1
 exact⟨y[i],aX hi,h.at_ i a _ ha (aX hi)⟩
theorem iL.set {α β:Type}{R:α->β->Prop}{x:Array α}{y:Array β}(h:iL R x y){i:Nat}{a:α}{b:β}(jz:R a b):iL R (x.setIfInBounds i a) (y.setIfInBounds i b):=by
 refine⟨by simp[h.size],λj c d hc hd=> ?_⟩;by_cases LM:i=j
 ·subst LM;have hi:i<x.size:=by have:=(aL.1 hc).1;simpa using this
  rw[aW hi]at hc;rw[aW (by rw[<-h.size];exact hi)]at hd;obtain rfl:=aY hc;obtain rfl:=aY hd;exact jz
 ·rw[aO LM]at hc hd;exact h.at_ j c d hc hd
theorem o0.mono {P:aS}{S:jy}{π bO:Ren}(h:Ext P π bO){e e':MapEntry}(x:o0 S π e e'):o0 S bO e e':=⟨x.key.mono h,x.val.mono h,x.born⟩
theorem ku.mono {P:aS}{S:jy}{π bO:Ren}(h:Ext P π bO): ∀{o o':Obj},ku S π o o'->ku S bO o o'
 |_,_,.loop x=>.loop ⟨x.state,x.pending,x.okP,x.fn,x.tmps.mono λ_ _ y=>y.mono h,x.params,x.assign,x.okA,x.body,x.okB,h.le _ _ x.defers⟩
 |_,_,.number l x=>.number l (x.mono h)
 |_,_,.deferred b=>.deferred b
 |_,_,.cells t fr x=>.cells t fr (x.mono λ_ _ y=>y.mono h)
 |_,_,.map k x=>.map k (x.mono λ_ _ y=>y.mono h)
 |_,_,.stringIter s p=>.stringIter s p
 |_,_,.mapIter a b c x=>.mapIter a b c (x.mono λ_ _ y=>h.le _ _ y)
structure yh (π bO:Ren) (L R L' R':ah):Prop where
 tape:R'.tape=R.tape
 os:R'.os=R.os
 output:R'.output=R.output
 osL:L'.os=L.os
 wy:L'.output=L.output
 size:R.heap.size<=R'.heap.size
 Ec:L.heap.size<=L'.heap.size
 sizes:R'.heap.size+L.heap.size=R.heap.size+L'.heap.size
 rest: ∀r,r<R.heap.size->(∀l,¬π l r)->R'.heap[r]? =R.heap[r]?
 M3: ∀l,l<L.heap.size->(∀r,¬π l r)->L'.heap[l]? =L.heap[l]?
 new: ∀l r,bO l r->π l r\/(L.heap.size<=l/\R.heap.size<=r/\r+L.heap.size=l+R.heap.size)
 all: ∀l,L.heap.size<=l->l<L'.heap.size-> ∃r,bO l r
 le: ∀l r,π l r->bO l r
theorem yh.refl (π:Ren)(L R:ah):yh π π L R L R:=⟨rfl,rfl,rfl,rfl,rfl,az _,az _,dt _ _▸rfl,λ_ _ _=>rfl,λ_ _ _=>rfl,λ_ _ h=>.inl h,λl h1 h2=>by omega,λ_ _ h=>h⟩
theorem yh.trans {π bO Qh:Ren}{L R L' R' L'' R'':ah}(h:yh π bO L R L' R')(k:yh bO Qh L' R' L'' R''):yh π Qh L R L'' R'':=by
 have z1:=h.sizes;have z2:=k.sizes;refine⟨k.tape.trans h.tape,k.os.trans h.os,k.output.trans h.output,k.osL.trans h.osL,k.wy.trans h.wy,bP h.size k.size,bP h.Ec k.Ec,by omega,λr hr hn=> ?_,λl hl hn=> ?_,λl r Xo=> ?_,λl h1 h2=> ?_,λl r x=>k.le _ _ (h.le _ _ x)⟩
 ·refine(k.rest r (bX hr h.size) λl hl=> ?_).trans (h.rest r hr hn);rcases h.new l r hl with x|x
  ·exact hn l x
  ·omega
 ·refine(k.M3 l (bX hl h.Ec) λr hr=> ?_).trans (h.M3 l hl hn);rcases h.new l r hr with x|x
  ·exact hn r x
  ·omega
 ·have:=h.size;have:=h.Ec;rcases k.new l r Xo with x|x
  ·exact h.new l r x
  ·exact .inr ⟨by omega,by omega,by omega⟩
 ·rcases dM l L'.heap.size with bE|va
  ·obtain⟨r,hr⟩:=h.all l h1 bE;exact⟨r,k.le _ _ hr⟩
  ·exact k.all l va h2
inductive Ey (S:jy) (π:Ren):Event->Prop
 |cell {l:Nat} {a:Addr} (wr:Bool):π l a.block->Ey S π ⟨.cell a,wr,aw⟩
 |obj {l r:Nat} (wr:Bool):π l r->Ey S π ⟨.obj r,wr,aw⟩
 |room:Ey S π ⟨.mark .noRoom,aw,aA⟩
 |old {a:Addr} {x:Int}:S.mem a=ae x->Ey S π ⟨.cell a,aw,aw⟩
theorem Ey.mono {P:aS}{S:jy}{π bO:Ren}(h:Ext P π bO): ∀{e:Event},Ey S π e->Ey S bO e
 |_,.cell w x=>.cell w (h.le _ _ x)
 |_,.obj w x=>.obj w (h.le _ _ x)
 |_,.room=>.room
 |_,.old h=>.old h
theorem og {w w':ah}{a:Addr}(h:w'.heap[a.block]? =w.heap[a.block]?):w'.cell? a=w.cell? a:=by unfold c8;rw[h]
theorem Cc {w:ah}{a:Addr}{v:aq}(h:w.cell? a=ae v):a.block<w.heap.size:=by
 unfold c8 at h;rcases dM a.block w.heap.size with bE|va
 ·exact bE
 ·rw[ic va]at h;cases h
section
variable {P:aS} {S:jy}
theorem ck.lt {π:Ren}{L R:ah}(h:ck P S π L R){l r:Nat}(x:π l r):l<L.heap.size/\r<R.heap.size:=by obtain⟨o,o',h1,h2,_⟩:=h.obj l r x;exact⟨(aL.1 h1).1,(aL.1 h2).1⟩
theorem ck.cell {π:Ren}{L R:ah}(h:ck P S π L R){a a':Addr}(x:dD π a a'): ∀v,L.cell? a=ae v-> ∃v',R.cell? a'=ae v'/\bx S π v v':=by
 intro v hv;obtain⟨o,o',h1,h2,h3⟩:=h.obj _ _ x.block;unfold c8 at hv⊢;rw[h1]at hv;rw[h2,x.spot,x.off];cases h3 with
 |cells t fr hc=>
  simp only at hv⊢
  split at hv
  ·cases hv
  ·rename_i hs
   rw[if_neg hs];exact hc.get hv
 |_=>cases hv
theorem ck.shape {π:Ren}{L R:ah}(h:ck P S π L R){l r:Nat}(x:π l r):R.shape? r=L.shape? l:=by
 obtain⟨o,o',h1,h2,h3⟩:=h.obj _ _ x;unfold World.shape?;rw[h1,h2];cases h3 with
 |cells t fr hc=>simp[hc.size]
 |_=>rfl
theorem ck.frozen {π:Ren}{L R:ah}(h:ck P S π L R){a a':Addr}(x:dD π a a'):R.frozen? a'=L.frozen? a:=by obtain⟨o,o',h1,h2,h3⟩:=h.obj _ _ x.block;unfold World.frozen?;rw[h1,h2,x.off];cases h3<;>rfl
theorem ck.setBlock {π:Ren}{L R:ah}(h:ck P S π L R){l r:Nat}(x:π l r){o o':Obj}(ho:ku S π o o'):ck P S π {L with heap:=L.heap.setIfInBounds l o} {R with heap:=R.heap.setIfInBounds r o'}:=by
 refine⟨h.ok,λm n hmn=> ?_,by simpa using h.ox,by simpa using h.uz,λa y hy=> ?_⟩
 rotate_left
 ·obtain⟨g1,g2,g3,g4⟩:=h.old a y hy;have n1:l≠a.block:=λe=>g1 r (e▸x)
  have n2:r≠a.block:=λe=>g2 l (e▸x)
  exact⟨g1,g2,(og (aO n1)).trans g3,(og (aO n2)).trans g4⟩
 obtain⟨p,p',h1,h2,h3⟩:=h.obj m n hmn;by_cases hm:l=m
 ·subst hm;have:=h.ok.fn _ _ _ x hmn;subst this;refine⟨o,o',?_,?_,ho⟩
  ·simp[aW (h.lt x).1]
  ·simp[aW (h.lt x).2]
 ·have hn:r≠n:=λe=>hm (h.ok.inj _ _ _ (e▸x) hmn)
  exact⟨p,p',by simpa[aO hm]using h1,by simpa[aO hn]using h2,h3⟩
theorem setCell_eq {w:ah}{a:Addr}{v:aq}{c:Array aq}{t:aF}{fr:Nat×Nat}(h:w.heap[a.block]? =ae (.cells c t fr)):w.setCell a v={w with heap:=w.heap.setIfInBounds a.block (.cells (if a.spot.isSome then c else c.setIfInBounds a.off v) t fr)}:=by
 have bE:=(aL.1 h).1;have e:w.heap.modify a.block (λ| .cells c elem frozen=>.cells (if a.spot.isSome then c else c.setIfInBounds a.off v) elem frozen|o=>o)=w.heap.setIfInBounds a.block (.cells (if a.spot.isSome then c else c.setIfInBounds a.off v) t fr):=by
  apply Array.ext_getElem?;intro i;rw[bw];by_cases hi:a.block=i
  ·subst hi;rw[if_pos rfl,aW bE,h]
   rfl
  ·rw[if_neg hi,aO hi]
 unfold dA;exact congrArg (λhp=>({w with heap:=hp}:ah)) e
theorem ck.setCell {π:Ren}{L R:ah}(h:ck P S π L R){a a':Addr}(x:dD π a a'){v v':aq}(hv:bx S π v v'){u:aq}(hc:L.cell? a=ae u):ck P S π (L.setCell a v) (R.setCell a' v'):=by
 obtain⟨o,o',h1,h2,h3⟩:=h.obj _ _ x.block;cases h3 with
 |cells t fr hcc=>
  rw[setCell_eq h1,setCell_eq h2];refine h.setBlock x.block (.cells t fr ?_);rw[x.spot,x.off]
  split
  ·exact hcc
  ·exact hcc.set hv
 |_=>unfold c8 at hc;rw[h1]at hc;cases hc
def Ren.add (π:Ren)(l r:Nat):Ren:=λa b=>π a b\/(a=l/\b=r)
theorem ck.ext {π:Ren}{L R:ah}(h:ck P S π L R):Ext P π (π.add L.heap.size R.heap.size):=by
 refine⟨λ_ _ x=>.inl x,⟨λa b c hb hc=> ?_,λa b c ha hb=> ?_,λa b jz=> ?_⟩⟩
 rotate_right
 ·rcases jz with jz|⟨rfl,rfl⟩
  ·exact h.ok.WQ a b jz
  ·have:=h.ox;have:=h.uz;omega
 ·rcases hb with hb|⟨rfl,rfl⟩<;>rcases hc with hc|⟨wK,rfl⟩
  ·exact h.ok.fn _ _ _ hb hc
  ·have:=(h.lt hb).1;omega
  ·have:=(h.lt hc).1;omega
  ·rfl
 ·rcases ha with ha|⟨rfl,rfl⟩<;>rcases hb with hb|⟨rfl,lf⟩
  ·exact h.ok.inj _ _ _ ha hb
  ·have:=(h.lt ha).2;omega
  ·have:=(h.lt hb).2;omega
  ·rfl
theorem ck.new {π:Ren}{L R:ah}(h:ck P S π L R){o o':Obj}(ho:ku S π o o'):ck P S (π.add L.heap.size R.heap.size) {L with heap:=L.heap.push o} {R with heap:=R.heap.push o'}:=by
 refine⟨h.ext.ok,λl r Xo=> ?_,by have:=h.ox;simp;omega,by have:=h.uz;simp;omega,λa y hy=> ?_⟩
 rotate_left
 ·obtain⟨g1,g2,g3,g4⟩:=h.old a y hy;have l1:=Cc g3;have l2:=Cc g4;refine⟨λr hr=>hr.elim (g1 r) λe=>by omega,λl hl=>hl.elim (g2 l) λe=>by omega,(og ?_).trans g3,(og ?_).trans g4⟩
  ·show(L.heap.push o)[a.block]? =_;rw[Array.getElem?_push,if_neg (by omega)]
  ·show(R.heap.push o')[a.block]? =_;rw[Array.getElem?_push,if_neg (by omega)]
 rcases Xo with Xo|⟨rfl,rfl⟩
 ·obtain⟨p,p',h1,h2,h3⟩:=h.obj l r Xo;have:=h.lt Xo;exact⟨p,p',by simp[Array.getElem?_push,show l≠L.heap.size by omega,h1],by simp[Array.getElem?_push,show r≠R.heap.size by omega,h2],h3.mono h.ext⟩
 ·exact⟨o,o',by simp,by simp,ho.mono h.ext⟩
theorem aaw {π:Ren}{L R:ah}{l r:Nat}(x:π l r)(o o':Obj):yh π π L R {L with heap:=L.heap.setIfInBounds l o} {R with heap:=R.heap.setIfInBounds r o'}:=by
 refine⟨rfl,rfl,rfl,rfl,rfl,by simp,by simp,by simp[dt],λn _ hn=> ?_,λn _ hn=> ?_,λ_ _ h=>.inl h,λn h1 h2=>by simp at h2;omega,λ_ _ h=>h⟩
 ·have:r≠n:=λe=>hn l (e▸x)
  simp[aO this]
 ·have:l≠n:=λe=>hn r (e▸x)
  simp[aO this]
theorem K9 {π:Ren}{L R:ah}{a a':Addr}(x:dD π a a')(v v':aq):yh π π L R (L.setCell a v) (R.setCell a' v'):=by
 refine⟨rfl,rfl,rfl,rfl,rfl,by simp[dA],by simp[dA],by simp[dA,dt],λn _ hn=> ?_,λn _ hn=> ?_,λ_ _ h=>.inl h,λn h1 h2=>by simp[dA]at h2;omega,λ_ _ h=>h⟩
 ·have:a'.block≠n:=λe=>hn a.block (e▸x.block)
  simp[dA,bw,this]
 ·have:a.block≠n:=λe=>hn a'.block (e▸x.block)
  simp[dA,bw,this]
def Qj (L R:ah)(d:Nat):Prop:= ∀i q,L.drawn+i<d->R.tape (R.drawn+i) q=L.tape (L.drawn+i) q
def wH (P:aS)(S:jy){α β:Type}(Q:Ren->α->β->Prop)(π:Ren)(L R:ah)(s':Sem β)(lk:Array Event):Result α×Array Event->Prop
 |(.ok a L',_)=>L.drawn<=L'.drawn/\L'.tape=L.tape/\(Qj L R L'.drawn-> ∃bO b R' ev,Ext P π bO/\s'.runT P R lk=(.ok b R',lk++ev)/\Q bO a b/\ck P S bO L' R'/\yh π bO L R L' R'/\R'.drawn+L.drawn=R.drawn+L'.drawn/\ ∀e∈ev,Ey S bO e)
 |(.halt h L',_)=>h.lost=aA/\ ∃bO R',Ext P π bO/\ck P S bO L' R'
theorem wH.step {α β:Type}{Q:Ren->α->β->Prop}{π fB:Ren}{L R L1 R1:ah}{s' k':Sem β}{lk IX:Array Event}{res:Result α×Array Event}(hd:L1.drawn=L.drawn)(ht:L1.tape=L.tape)(hd':R1.drawn=R.drawn)(ht':R1.tape=R.tape)(e:Ext P π fB)(Zy:yh π fB L R L1 R1)(jq: ∀e∈IX,Ey S fB e)(cG:s'.runT P R lk=k'.runT P R1 (lk++IX))(h:wH P S Q fB L1 R1 k' (lk++IX) res):wH P S Q π L R s' lk res:=by
 obtain⟨r,es⟩:=res;cases r with
 |halt x _=>obtain⟨h1,bO,R',e',hw⟩:=h;exact⟨h1,bO,R',e.trans e',hw⟩
 |ok a L'=>
  obtain⟨h1,h2,h3⟩:=h;refine⟨by omega,h2.trans ht,λag=> ?_⟩;obtain⟨bO,b,R',ev,e',hr,hq,hw,FI,Xd,S0⟩:=h3 (λi q hi=>by rw[hd',ht',hd,ht];exact ag i q (by omega));refine⟨bO,b,R',IX++ev,e.trans e',by rw[cG,hr,Array.append_assoc],hq,hw,Zy.trans FI,by omega,λx hx=> ?_⟩;rcases ot.1 hx with hx|hx
  ·exact(jq x hx).mono e'
  ·exact S0 x hx
theorem Bi {π:Ren}{L:ah}{o o':Obj}(h3:ku S π o o'){a:Addr}(h1:L.heap[a.block]? =ae o)(w:String):(L.noCell a w).lost=aA:=by unfold World.noCell;rw[h1];cases h3<;>rfl
theorem aI.run {α β:Type}{Q:Ren->α->β->Prop}: ∀{s:Sem α} {π:Ren} {s':Sem β} {L R:ah},aI P S Q s π s'->ck P S π L R-> ∀es lk:Array Event,wH P S Q π L R s' lk (s.runT P L es):=by
 intro s
 induction s with
 |pure a=>rintro π _ L R ⟨b,rfl,h⟩ hw es lk;exact⟨az _,rfl,λ_=>⟨π,b,R,#[],Ext.refl hw.ok,by simp[gi],h,hw,yh.refl _ _ _,rfl,by simp⟩⟩
 |load m a k ih=>
  rintro π _ L R ⟨rfl,a',k',rfl,hh⟩ hw es lk;rcases hh with⟨h,h'⟩|⟨rfl,x,h,h'⟩
  rotate_left
  ·obtain⟨_,_,g3,g4⟩:=hw.old _ x h;simp only[gi,g3];refine wH.step (IX:= #[⟨.cell a',aw,aw⟩]) rfl rfl rfl rfl (Ext.refl hw.ok) (yh.refl _ _ _) (by intro y hy;simp at hy;subst hy;exact .old h) ?_ (ih _ h' hw _ _);simp only[gi,g4];rfl
  simp only[gi];cases hc:L.cell? a with
  |none=>
   obtain⟨o,o',h1,h2,h3⟩:=hw.obj _ _ h.block;have hf:L.farLoad P a (rL== .atomic)=.error (L.noCell a "load: no such cell"):=by unfold World.farLoad;rw[h1];cases h3<;>rfl
   simp only[hf];exact⟨Bi h3 h1 _,π,R,Ext.refl hw.ok,hw⟩
  |some v=>obtain⟨v',OC,hv⟩:=hw.cell h v hc;refine wH.step (IX:= #[⟨.cell a',aw,aw⟩]) rfl rfl rfl rfl (Ext.refl hw.ok) (yh.refl _ _ _) (by intro x hx;simp at hx;subst hx;exact .cell aw h.block) ?_ (ih v (h' v v' hv) hw _ _);simp only[gi,OC];rfl
 |store m a v k ih=>
  rintro π _ L R ⟨rfl,a',v',k',rfl,h,hv,h'⟩ hw es lk;have main: ∀(dQ:(∀c,v≠ .agg c)/\ ∀c,v≠ .tuple c),wH P S Q π L R (.store rL a' v' k') lk ((Sem.store rL a v k).runT P L es):=by
   intro dQ;have e1:(Sem.store rL a v k).runT P L es=match L.cell? a with
    |some _=>if L.frozen? a then(.halt (.unsupported (.unsafePointer "a write to bytes that a string shares")) L,es)else k.runT P (L.setCell a v) (es.push ⟨.cell a,aA,rL== .atomic⟩)
    |none=>match L.farStore P a v (rL== .atomic)with
     | .ok (w,J9)=>k.runT P w (es++J9.toArray.map (⟨.cell ·,aA,rL== .atomic⟩))
     | .error h=>(.halt h L,es):=by
    cases v<;>first|exact absurd rfl (dQ.1 _)|exact absurd rfl (dQ.2 _)|rfl
   have e2:(Sem.store rL a' v' k').runT P R lk=match R.cell? a' with
    |some _=>if R.frozen? a' then(.halt (.unsupported (.unsafePointer "a write to bytes that a string shares")) R,lk)else k'.runT P (R.setCell a' v') (lk.push ⟨.cell a',aA,rL== .atomic⟩)
    |none=>match R.farStore P a' v' (rL== .atomic)with
     | .ok (w,J9)=>k'.runT P w (lk++J9.toArray.map (⟨.cell ·,aA,rL== .atomic⟩))
     | .error h=>(.halt h R,lk):=by
    cases hv<;>first|exact absurd rfl (dQ.1 _)|exact absurd rfl (dQ.2 _)|rfl
   rw[e1];cases hc:L.cell? a with
   |none=>
    obtain⟨o,o',h1,h2,h3⟩:=hw.obj _ _ h.block;have hf:L.farStore P a v (rL== .atomic)=.error (L.noCell a "store: no such cell"):=by unfold World.farStore;rw[h1];cases h3<;>rfl
    simp only[hf];exact⟨Bi h3 h1 _,π,R,Ext.refl hw.ok,hw⟩
   |some u=>
    obtain⟨u',OC,_⟩:=hw.cell h u hc;cases hfz:L.frozen? a with
    |true=>simp only[if_true];exact⟨rfl,π,R,Ext.refl hw.ok,hw⟩
    |false=>simp only[e9,if_false];refine wH.step (IX:= #[⟨.cell a',aA,aw⟩]) (L1:=L.setCell a v) (R1:=R.setCell a' v') rfl rfl rfl rfl (Ext.refl hw.ok) (K9 h v v') (by intro x hx;simp at hx;subst hx;exact .cell aA h.block) ?_ (ih h' (hw.setCell h hv hc) _ _);rw[e2];simp only[OC,hw.frozen h,hfz,e9,if_false];rfl
  by_cases h1: ∃c,v=.agg c
  ·obtain⟨c,rfl⟩:=h1;simp only[gi];exact⟨rfl,π,R,Ext.refl hw.ok,hw⟩
  by_cases h2: ∃c,v=.tuple c
  ·obtain⟨c,rfl⟩:=h2;simp only[gi];exact⟨rfl,π,R,Ext.refl hw.ok,hw⟩
  exact main ⟨λc e=>h1 ⟨c,e⟩,λc e=>h2 ⟨c,e⟩⟩
 |new o k ih=>
  rintro π _ L R ⟨o',k',rfl,h,h'⟩ hw es lk;simp only[gi];refine wH.step (IX:= #[]) (L1:={L with heap:=L.heap.push o}) (R1:={R with heap:=R.heap.push o'}) rfl rfl rfl rfl hw.ext ⟨rfl,rfl,rfl,rfl,rfl,by simp,by simp,by simp;omega,λn hn _=>by show(R.heap.push o')[n]? =R.heap[n]?;rw[Array.getElem?_push,if_neg (by omega)],λn hn _=>by show(L.heap.push o)[n]? =L.heap[n]?;rw[Array.getElem?_push,if_neg (by omega)],λl r Xo=> ?_,λl h1 h2=>⟨R.heap.size,.inr ⟨by simp at h2;omega,rfl⟩⟩,λ_ _ h=>.inl h⟩ (by simp) ?_ (ih L.heap.size (h' _ _ _ hw.ext (.inr ⟨rfl,rfl⟩)) (hw.new h) _ _)
  ·rcases Xo with x|⟨rfl,rfl⟩
   ·exact .inl x
   ·exact .inr ⟨az _,az _,by omega⟩
  ·simp[gi]
 |shape r k ih=>rintro π _ L R ⟨r',k',rfl,h,h'⟩ hw es lk;have:=ih (L.shape? r) (h' _) hw es lk;simp only[gi];refine wH.step (IX:= #[]) rfl rfl rfl rfl (Ext.refl hw.ok) (yh.refl _ _ _) (by simp) ?_ (by simpa using this);simp[gi,hw.shape h]
 |freeze a n k ih=>intro π _ L R h;exact h.elim
 |frozen a k ih=>rintro π _ L R ⟨r',k',rfl,h,h'⟩ hw es lk;have:=ih (L.frozen? a) (h' _) hw es lk;simp only[gi];refine wH.step (IX:= #[]) rfl rfl rfl rfl (Ext.refl hw.ok) (yh.refl _ _ _) (by simp) ?_ (by simpa using this);simp[gi,hw.frozen h]
 |getObj r k ih=>
  rintro π _ L R ⟨r',k',rfl,h,h'⟩ hw es lk;obtain⟨o,o',h1,h2,h3⟩:=hw.obj _ _ h;have tk:o.isChan=aw/\o'.isChan=aw:=by cases h3<;>exact⟨rfl,rfl⟩
  have ji:(∃c t fr,o=.cells c t fr)\/((∀c t fr,o≠ .cells c t fr)/\ ∀c t fr,o'≠ .cells c t fr):=by
   cases h3 with
   |cells t fr _=>exact .inl ⟨_,_,_,rfl⟩
   |_=>exact .inr ⟨by simp,by simp⟩
  rcases ji with⟨c,t,fr,rfl⟩|⟨dQ,adM⟩
  ·simp only[gi,h1];exact⟨rfl,π,R,Ext.refl hw.ok,hw⟩
  have eL:(Sem.getObj r k).runT P L es=(k o).runT P L (es.push ⟨.obj r,aw,aw⟩):=by simp only[gi,h1];cases o<;>first|exact absurd rfl (dQ _ _ _)|rfl|exact absurd tk.1 (by simp[Obj.isChan])
  have eR:(Sem.getObj r' k').runT P R lk=(k' o').runT P R (lk++ #[⟨.obj r',aw,aw⟩]):=by simp only[gi,h2];cases o'<;>first|exact absurd rfl (adM _ _ _)|rfl|exact absurd tk.2 (by simp[Obj.isChan])
  rw[eL];exact wH.step rfl rfl rfl rfl (Ext.refl hw.ok) (yh.refl _ _ _) (by intro x hx;simp at hx;subst hx;exact .obj aw h) eR (ih o (h' _ _ h3) hw _ _)
 |setObj r o k ih=>
  rintro π _ L R ⟨r',o',k',rfl,h,ho,h'⟩ hw es lk;obtain⟨p,p',h1,h2,h3⟩:=hw.obj _ _ h;have tk:o.isChan=aw/\o'.isChan=aw:=by cases ho<;>exact⟨rfl,rfl⟩
  have ji:(∃c t fr,p=.cells c t fr)\/((∀c t fr,p≠ .cells c t fr)/\ ∀c t fr,p'≠ .cells c t fr):=by
   cases h3 with
   |cells t fr _=>exact .inl ⟨_,_,_,rfl⟩
   |_=>exact .inr ⟨by simp,by simp⟩
  rcases ji with⟨c,t,fr,rfl⟩|⟨dQ,adM⟩
  ·simp only[gi,h1];exact⟨rfl,π,R,Ext.refl hw.ok,hw⟩
  have eL:(Sem.setObj r o k).runT P L es=k.runT P {L with heap:=L.heap.setIfInBounds r o} (es.push ⟨.obj r,aA,aw⟩):=by
   simp only[gi,h1,tk.1]
   try(cases p<;>first|exact absurd rfl (dQ _ _ _)|rfl)
  have eR:(Sem.setObj r' o' k').runT P R lk=k'.runT P {R with heap:=R.heap.setIfInBounds r' o'} (lk++ #[⟨.obj r',aA,aw⟩]):=by simp only[gi,h2,tk.2];cases p'<;>first|exact absurd rfl (adM _ _ _)|rfl
  rw[eL];exact wH.step (IX:= #[⟨.obj r',aA,aw⟩]) (L1:={L with heap:=L.heap.setIfInBounds r o}) (R1:={R with heap:=R.heap.setIfInBounds r' o'}) rfl rfl rfl rfl (Ext.refl hw.ok) (aaw h o o') (by intro x hx;simp at hx;subst hx;exact .obj aA h) eR (ih h' (hw.setBlock h ho) _ _)
 |choose q k ih=>
  rintro π _ L R ⟨k',rfl,h⟩ hw es lk;simp only[gi];cases hqf:q.forced with
  |true=>simp only[if_true];refine wH.step (IX:= #[]) rfl rfl rfl rfl (Ext.refl hw.ok) (yh.refl _ _ _) (by simp) ?_ (ih _ (h 0) hw _ _);simp[gi,hqf]
  |false=>
   simp only[e9,if_false];have key: ∀R1:ah,ck P S π {L with drawn:=L.drawn+1} R1->_:=λR1 Td=>ih _ (h (q.cut (L.tape L.drawn q))) Td es lk
   have:=key {R with drawn:=R.drawn+1} ⟨hw.ok,hw.obj,hw.ox,hw.uz,hw.old⟩;revert this;generalize (k (q.cut (L.tape L.drawn q))).runT P {L with drawn:=L.drawn+1} es=res;intro this;obtain⟨r,es1⟩:=res;cases r with
   |halt x _=>exact this
   |ok a L'=>
    obtain⟨h1,h2,h3⟩:=this;simp only at h1 h2;refine⟨by omega,h2,λag=> ?_⟩;have ag0:=ag 0 q (by omega);simp only[kW]at ag0;obtain⟨bO,b,R',ev,e',hr,hq,jI,FI,Xd,S0⟩:=h3 (λi q' hi=>by simp only at hi⊢;have:=ag (i+1) q' (by omega);rw[show R.drawn+1+i=R.drawn+(i+1)by omega,show L.drawn+1+i=L.drawn+(i+1)by omega];exact this)
    simp only at Xd;refine⟨bO,b,R',ev,e',?_,hq,jI,⟨FI.tape,FI.os,FI.output,FI.osL,FI.wy,FI.size,FI.Ec,FI.sizes,FI.rest,FI.M3,FI.new,FI.all,FI.le⟩,by omega,S0⟩;simp only[gi,hqf,e9,if_false];rw[ag0];exact hr
 |sys c k ih=>intro π _ L R h;exact h.elim
 |program k ih=>rintro π _ L R ⟨k',rfl,h⟩ hw es lk;simp only[gi];refine wH.step (IX:= #[]) rfl rfl rfl rfl (Ext.refl hw.ok) (yh.refl _ _ _) (by simp) ?_ (ih _ h hw _ _);simp[gi]
 |mark m k ih=>rintro π _ L R ⟨rfl,k',rfl,h⟩ hw es lk;simp only[gi];refine wH.step (IX:= #[⟨.mark .noRoom,aw,aA⟩]) rfl rfl rfl rfl (Ext.refl hw.ok) (yh.refl _ _ _) (by intro x hx;simp at hx;subst hx;exact .room) ?_ (ih h hw _ _);simp only[gi];rfl
 |halt x=>intro π _ L R h hw es lk;exact⟨h,π,R,Ext.refl hw.ok,hw⟩
end
end Rel
namespace Rel
section
variable {P:aS} {S:jy}
abbrev l8 {α:Type}:Ren->α->α->Prop:=λ_ a b=>a=b
abbrev VQ (S:jy):Ren->aq->aq->Prop:=λπ a b=>bx S π a b
abbrev VsQ (S:jy):Ren->Array aq->Array aq->Prop:=λπ a b=>cK S π a b
abbrev AQ:Ren->Addr->Addr->Prop:=λπ a b=>dD π a b
theorem aH {α β:Type}{Q:Ren->α->β->Prop}{π:Ren}{a:α}{b:β}(h:Q π a b):aI P S Q (Pure.pure a:Sem α) π (Pure.pure b:Sem β):=⟨b,rfl,h⟩
theorem nC {α β:Type}{Q:Ren->α->β->Prop}{π:Ren}{w:String}{s':Sem β}:aI P S Q (stuck w:Sem α) π s':=rfl
theorem RB {α β:Type}{Q:Ren->α->β->Prop}{π:Ren}{w:Unsupported}{s':Sem β}(hl:(Halt.unsupported w).lost=aA:=by rfl):aI P S Q (unsupported w:Sem α) π s':=hl
theorem iQ {π:Ren}:aI P S (λ_ a b=>a=P/\b=P) program π program:=⟨_,rfl,_,rfl,rfl,rfl⟩
theorem oF {π:Ren}(q:Question):aI P S l8 (choose q) π (choose q):=⟨_,rfl,λn=>⟨n,rfl,rfl⟩⟩
theorem Yw {π:Ren}{a a':Addr}(h:dD π a a'):aI P S (VQ S) (load a) π (load a'):=⟨rfl,_,_,rfl,.inl ⟨h,λ_ v' hv=>⟨v',rfl,hv⟩⟩⟩
theorem PG {π:Ren}{a:Addr}{x:Int}(h:S.mem a=ae x):aI P S (λ_ u v=>u=.int .i64 x/\v=.int .i64 x) (load a) π (load a):=⟨rfl,_,_,rfl,.inr ⟨rfl,x,h,⟨_,rfl,rfl,rfl⟩⟩⟩
theorem abx {π:Ren}{a a':Addr}{v v':aq}(h:dD π a a')(hv:bx S π v v'):aI P S l8 (store a v) π (store a' v'):=⟨rfl,_,_,_,rfl,h,hv,(),rfl,rfl⟩
theorem Ht {π:Ren}{o o':Obj}(h:ku S π o o'):aI P S (λπ a b=>π a b) (newObj o) π (newObj o'):=⟨_,_,rfl,h,λ_ _ r' _ hr=>⟨r',rfl,hr⟩⟩
theorem oq {π:Ren}{r r':Nat}(h:π r r'):aI P S l8 (shape r) π (shape r'):=⟨_,_,rfl,h,λx=>⟨x,rfl,rfl⟩⟩
theorem vz {π:Ren}{a a':Addr}(h:dD π a a'):aI P S l8 (frozen a) π (frozen a'):=⟨_,_,rfl,h,λx=>⟨x,rfl,rfl⟩⟩
theorem jB {π:Ren}{r r':Nat}(h:π r r'):aI P S (λπ a b=>ku S π a b) (getObj r) π (getObj r'):=⟨_,_,rfl,h,λ_ o' ho=>⟨o',rfl,ho⟩⟩
theorem mq {π:Ren}{r r':Nat}{o o':Obj}(h:π r r')(ho:ku S π o o'):aI P S l8 (setObj r o) π (setObj r' o'):=⟨_,_,_,rfl,h,ho,(),rfl,rfl⟩
theorem fL {π:Ren}(ok:Ren.Ok P π)(t:aF):aI P S (λ_ a b=>a=b/\P.info? t=ae a) (typeInfo t) π (typeInfo t):=by
 refine aI.bind ok iQ λbO a b e h=> ?_
 obtain⟨rfl,rfl⟩:=h;cases b.info? t with
 |none=>exact nC
 |some i=>exact aH ⟨rfl,rfl⟩
theorem bN {π:Ren}(ok:Ren.Ok P π)(t:aF):aI P S (λ_ a b=>a=b/\P.underlying t=ae a) (underlying t) π (underlying t):=by
 refine aI.bind ok iQ λbO a b e h=> ?_
 obtain⟨rfl,rfl⟩:=h;cases b.underlying t with
 |none=>exact nC
 |some i=>exact aH ⟨rfl,rfl⟩
theorem fN {π:Ren}(ok:Ren.Ok P π)(t:aF):aI P S l8 (sizeOf t) π (sizeOf t):=aI.bind ok (fL ok t) λ_ a b _ h=>by obtain⟨rfl,_⟩:=h;exact aH rfl
theorem Rz {π:Ren}(ok:Ren.Ok P π)(t:aF):aI P S l8 (isAgg t) π (isAgg t):=aI.bind ok (bN ok t) λ_ a b _ h=>by obtain⟨rfl,_⟩:=h;cases a<;>exact aH rfl
theorem dD.add {π:Ren}{a a':Addr}(h:dD π a a')(n:Nat):dD π (a.add n) (a'.add n):=by
 unfold Addr.add
 split
 ·exact h
 ·exact⟨h.block,by simp[h.off],rfl⟩
theorem iL.push {α β:Type}{R:α->β->Prop}{x:Array α}{y:Array β}(h:iL R x y){a:α}{b:β}(jz:R a b):iL R (x.push a) (y.push b):=by
 refine⟨by simp[h.size],λi c d hc hd=> ?_⟩;rw[Array.getElem?_push]at hc hd;rw[<-h.size]at hd
 split at hc
 ·rename_i hi
  rw[if_pos hi]at hd;obtain rfl:=aY hc;obtain rfl:=aY hd;exact jz
 ·rename_i hi
  rw[if_neg hi]at hd;exact h.at_ i c d hc hd
theorem BS {π:Ren}(ok:Ren.Ok P π){a a':Addr}(h:dD π a a'): ∀(n i:Nat) (acc IB:Array aq),cK S π acc IB->aI P S (VsQ S) (loadCellsFrom a i n acc) π (loadCellsFrom a' i n IB):=by
 intro n
 induction n generalizing π with
 |zero=>intro i acc IB fi;exact aH fi
 |succ n ih=>intro i acc IB fi;exact aI.bind ok (Yw (h.add i)) λbO v v' e hv=>ih e.ok (h.mono e) (i+1) _ _ ((fi.mono λ_ _ x=>x.mono e).push hv)
theorem Bq {π:Ren}(ok:Ren.Ok P π){a a':Addr}(h:dD π a a')(n:Nat):aI P S (VsQ S) (loadCells a n) π (loadCells a' n):=BS ok h n 0 _ _ ⟨rfl,by simp⟩
theorem Hs {π:Ren}(ok:Ren.Ok P π)(t:aF){a a':Addr}(h:dD π a a'):aI P S (VQ S) (loadVar t a) π (loadVar t a'):=by
 refine aI.bind ok (Rz ok t) λbO b b' e hb=> ?_
 subst hb;cases b with
 |true=>
  simp only[if_true];refine aI.bind e.ok (fN e.ok t) λQh n n' e' hn=> ?_
  subst hn;refine aI.bind e'.ok (Bq e'.ok ((h.mono e).mono e') n) λkV c c' e3 hc=>aH (.agg hc.size hc.at_)
 |false=>exact Yw (h.mono e)
theorem ua {π:Ren}(ok:Ren.Ok P π){a a':Addr}(h:dD π a a'): ∀{vs vs':List aq} (i:Nat),dj (bx S π) vs vs'->aI P S l8 (storeCells a vs i) π (storeCells a' vs' i):=by
 intro vs
 induction vs generalizing π with
 |nil=>intro vs' i hv;cases hv;exact aH rfl
 |cons v vs ih=>
  intro vs' i hv;cases hv with
  |cons hv hr=>
   exact aI.bind ok (abx (h.add i) hv) λbO _ _ e _=>ih e.ok (h.mono e) (i+1) (by
    clear ih
    induction hr with
    |nil=>exact .nil
    |cons x _ y=>exact .cons (x.mono e) y)
theorem dj.l5 {α β:Type}{R:α->β->Prop}{x:Array α}{y:Array β}(h:iL R x y):dj R x.toList y.toList:=by
 obtain⟨x⟩:=x;obtain⟨y⟩:=y;have hs:=h.size;have ha:=h.at_;simp at hs ha⊢;clear h
 induction x generalizing y with
 |nil=>cases y with
  |nil=>exact .nil
  |cons b m=>simp at hs
 |cons a l ih=>cases y with
  |nil=>simp at hs
  |cons b m=>refine .cons (ha 0 a b (by simp) (by simp)) (ih m (by simpa using hs) λi c d hc hd=>ha (i+1) c d (by simpa using hc) (by simpa using hd))
theorem bx.cells {π:Ren}{v v':aq}(h:bx S π v v'):cK S π v.cells v'.cells:=by
 have one: ∀{x y:aq},bx S π x y->cK S π #[x] #[y]:=λ{x y} rm=>⟨rfl,λi a b ha hb=>by
  have hi:i=0:=by have:=(aL.1 ha).1;simpa using this
  subst hi;simp at ha hb;subst ha;subst hb;exact rm⟩
 cases h with
 |agg s i=>exact⟨s,i⟩
 |_=>exact one (by constructor<;>assumption)
theorem PN {π:Ren}(ok:Ren.Ok P π)(t:aF){a a':Addr}(h:dD π a a'){v v':aq}(hv:bx S π v v'):aI P S l8 (storeVar t a v) π (storeVar t a' v'):=by
 refine aI.bind ok (fN ok t) λbO n n' e hn=> ?_
 subst hn;have hc:=(hv.mono e).cells;rw[<-hc.size]
 split
 ·exact rfl
 ·exact ua e.ok (h.mono e) 0 (dj.l5 hc)
theorem y8 {π:Ren}(t:aF)(ok:Ren.Ok P π){c c':Array aq}(h:cK S π c c'):aI P S AQ (newRow t c) π (newRow t c'):=aI.bind ok (Ht (.cells t (0,0) h)) λ_ _ _ _ hr=>aH ⟨hr,rfl,rfl⟩
theorem MY {π:Ren}(t:aF)(ok:Ren.Ok P π){v v':aq}(h:bx S π v v'):aI P S AQ (newVar t v) π (newVar t v'):=y8 t ok h.cells
def AH (S:jy)(v:aq):Prop:= ∀π,bx S π v v
def sg (P:aS)(S:jy):Prop:= ∀t i v,P.info? t=ae i->i.zero=ae v->AH S v
theorem lC {π:Ren}(hz:sg P S)(ok:Ren.Ok P π)(t:aF):aI P S (λ_ a b=>a=b/\AH S a) (zeroValue t) π (zeroValue t):=by
 refine aI.bind ok (fL ok t) λbO i i' e h=> ?_
 obtain⟨rfl,hi⟩:=h;cases hz':i.zero with
 |none=>exact RB
 |some v=>exact aH ⟨rfl,hz t i v hi hz'⟩
end
end Rel
namespace Rel
section
variable {P:aS} {S:jy}
theorem j2 {α β:Type}{Q:Ren->α->β->Prop}{π:Ren}(ok:Ren.Ok P π)(x x':RuntimeError)(hx:(∀a b c d,x≠ .typeAssertion a b c d)/\x≠ .panicNil):aI P S Q (runtimePanic x:Sem α) π (runtimePanic x':Sem β):=by
 refine aI.bind ok iQ λbO a b e h=> ?_
 cases x with
 |typeAssertion=>exact absurd rfl (hx.1 _ _ _ _)
 |panicNil=>exact absurd rfl hx.2
 |_=>exact rfl
theorem jC {α β:Type}{Q:Ren->α->β->Prop}{π:Ren}(ok:Ren.Ok P π)(m:String):aI P S Q (runtimePanic (.error m):Sem α) π (runtimePanic (.error m):Sem β):=j2 ok _ _ ⟨by simp,by simp⟩
theorem qI {α β:Type}{Q:Ren->α->β->Prop}{π:Ren}(ok:Ren.Ok P π):aI P S Q (runtimePanic .nilDeref:Sem α) π (runtimePanic .nilDeref:Sem β):=j2 ok _ _ ⟨by simp,by simp⟩
theorem kS {α β:Type}{Q:Ren->α->β->Prop}{π:Ren}(ok:Ren.Ok P π)(k:IntKind)(i y:Int)(c:BoundsCode):aI P S Q (boundsPanic k i y c:Sem α) π (boundsPanic k i y c:Sem β):=by
 unfold boundsPanic
 split
 ·refine aI.bind (Q:=l8) ok ?_ λbO a b e h=>by subst h;exact j2 e.ok _ _ ⟨by simp,by simp⟩
  exact aI.bind ok (oF _) λbO a b e h=>by subst h;exact aH rfl
 ·exact aI.bind (Q:=l8) ok (aH rfl) λbO a b e h=>by subst h;exact j2 e.ok _ _ ⟨by simp,by simp⟩
theorem s8 {π:Ren}{v v':aq}(h:bx S π v v'):aI P S l8 (asIntOf v) π (asIntOf v'):=by cases h<;>first|exact aH rfl|exact RB|exact nC
theorem aiR {π:Ren}(ok:Ren.Ok P π){v v':aq}(h:bx S π v v'):aI P S l8 (asInt v) π (asInt v'):=aI.bind ok (s8 h) λ_ a b _ h=>by subst h;exact aH rfl
theorem DG {π:Ren}{v v':aq}(h:bx S π v v'):aI P S l8 (asBool v) π (asBool v'):=by cases h<;>first|exact aH rfl|exact nC
theorem abm {π:Ren}{v v':aq}(h:bx S π v v'):aI P S (VsQ S) (asAgg v) π (asAgg v'):=by
 cases h with
 |agg s i=>exact aH ⟨s,i⟩
 |_=>exact nC
theorem MP {π:Ren}(ok:Ren.Ok P π){v v':aq}(h:bx S π v v'):aI P S AQ (asAddr v) π (asAddr v'):=by
 cases h with
 |pointer x=>exact aH x
 |fE=>exact qI ok
 |_=>exact nC
theorem qJ {π:Ren}{v v':aq}(h:bx S π v v'):aI P S AQ (Instr.sureAddr v) π (Instr.sureAddr v'):=by
 cases h with
 |pointer x=>exact aH x
 |_=>exact nC
theorem MU {π:Ren}(ok:Ren.Ok P π)(t:aF){v v':aq}(h:bx S π v v'):aI P S (VQ S) (dN t v) π (dN t v'):=aI.bind ok (qJ h) λ_ _ _ e ha=>Hs e.ok t ha
theorem TV {π:Ren}(ok:Ren.Ok P π)(t:aF){v v' x x':aq}(h:bx S π v v')(hx:bx S π x x'):aI P S l8 (eM t v x) π (eM t v' x'):=aI.bind ok (qJ h) λ_ _ _ e ha=>PN e.ok t ha (hx.mono e)
theorem agw {π:Ren}(ok:Ren.Ok P π)(t:aF){v v':aq}(h:bx S π v v'):aI P S (VQ S) (Instr.box t v) π (Instr.box t v'):=aI.bind ok (MY t ok h) λ_ _ _ _ ha=>aH (.pointer ha)
theorem abl {π:Ren}(hz:sg P S)(ok:Ren.Ok P π)(t:aF):aI P S (VQ S) (Instr.alloc t aA (.tuple #[])) π (Instr.alloc t aA (.tuple #[])):=by
 refine aI.bind ok (lC hz ok t) λbO a b e h=> ?_
 obtain⟨rfl,h⟩:=h;exact aI.bind e.ok (MY t e.ok (h bO)) λ_ _ _ _ ha=>aH (.pointer ha)
theorem MZ {π:Ren}(ok:Ren.Ok P π){r r':Nat}(h:π r r'):aI P S (λ_ a b=>a=ai/\b=ai) (viewAt r) π (viewAt r'):=by
 unfold viewAt;refine aI.bind ok (oq h) λbO a b e hx=> ?_
 subst hx;cases a with
 |some x=>exact aH ⟨rfl,rfl⟩
 |none=>
  refine aI.bind e.ok (jB (e.le _ _ h)) λbO a b e ho=> ?_
  cases ho<;>exact aH ⟨rfl,rfl⟩
theorem DV {π:Ren}(ok:Ren.Ok P π){a a':Addr}(h:dD π a a'):aI P S l8 (noView a) π (noView a'):=by
 unfold noView;refine aI.bind ok (MZ ok h.block) λbO x y e hx=> ?_
 obtain⟨rfl,rfl⟩:=hx;exact aH rfl
theorem qH {π:Ren}(ok:Ren.Ok P π){a a':Addr}(h:dD π a a'):aI P S l8 (byteOf a) π (byteOf a'):=by
 unfold byteOf;rw[h.spot,h.off];cases a.spot with
 |some s=>exact aH rfl
 |none=>
  refine aI.bind ok iQ λfB p p' e1 hp=> ?_
  obtain⟨rfl,rfl⟩:=hp;refine aI.bind e1.ok (DV e1.ok (h.mono e1)) λjJ _ _ e2 _=> ?_
  refine aI.bind e2.ok (oq ((h.mono e1).mono e2).block) λkV x y e3 hx=> ?_
  subst hx;cases x with
  |none=>exact nC
  |some x=>
   simp only
   split
   ·exact aH rfl
   ·split
    ·exact aH rfl
    ·exact nC
theorem Yz {π:Ren}(ok:Ren.Ok P π){a a':Addr}(h:dD π a a')(n m:Nat):aI P S AQ (partAt a n m) π (partAt a' n m):=by
 unfold partAt;refine aI.bind ok (qH ok h) λfB x y e1 hx=> ?_
 subst hx;have h1:dD fB {block:=a.block,off:=a.off+n} {block:=a'.block,off:=a'.off+n}:=⟨(h.mono e1).block,by simp[h.off],rfl⟩;refine aI.bind e1.ok (qH e1.ok h1) λjJ x' y' e2 hx=> ?_
 subst hx
 split
 ·exact aH (h1.mono e2)
 ·exact aH ⟨(h1.mono e2).block,(h1.mono e2).off,rfl⟩
theorem JK {π:Ren}(ok:Ren.Ok P π){a a':Addr}(h:dD π a a')(f:Field):aI P S AQ (fieldPlace a f) π (fieldPlace a' f):=by
 unfold fieldPlace;refine aI.bind ok (fN ok _) λfB x y e1 hx=> ?_
 subst hx
 split
 ·exact Yz e1.ok (h.mono e1) _ _
 ·exact aH ((h.mono e1).add _)
theorem TQ {π:Ren}(ok:Ren.Ok P π)(s:aF){v v':aq}(h:bx S π v v')(f:Nat):aI P S (VQ S) (Instr.fieldAt s v f) π (Instr.fieldAt s v' f):=by
 unfold Instr.fieldAt;refine aI.bind ok (bN ok s) λfB x y e1 hx=> ?_
 obtain⟨rfl,_⟩:=hx
 split
 ·split
  ·refine aI.bind e1.ok (qJ (h.mono e1)) λjJ a a' e2 ha=> ?_
   exact aI.bind e2.ok (JK e2.ok ha _) λkV b b' e3 hb=>aH (.pointer hb)
  ·exact nC
 ·exact nC
end
end Rel
namespace Rel
section
variable {P:aS} {S:jy}
def wh (t:aF)(k:IntKind)(i:Int)(x:Option Addr×Nat×aF):Sem aq:=do
 let(base,len,elem):=x
 let ah0:=len<=1&&(match<-underlying t with| .array ..=>aA|_=>aw)
 match base with
 |some a=>
  if 0<=i/\i<len then pure (.pointer (ae (a.add (i.toNat*(<-sizeOf elem)))))
  else if ah0 then unsupported (.noEntry "op/indexAddr.an index out of range at an array of length 0 or 1 (ledger 616)")
  else boundsPanic k i len .index
 |none=>boundsPanic k i 0 .index
theorem Af {π:Ren}(ok:Ren.Ok P π)(t:aF)(k:IntKind)(n:Int){o o':Option Addr}(h:gw (dD π) o o')(l:Nat)(el:aF):aI P S (VQ S) (wh t k n (o,l,el)) π (wh t k n (o',l,el)):=by
 unfold wh;refine aI.bind ok (bN ok t) λwG d d' e4 hd=> ?_
 obtain⟨rfl,_⟩:=hd;cases h with
 |none=>exact kS e4.ok _ _ _ _
 |some ha=>
  simp only
  split
  ·exact aI.bind e4.ok (fN e4.ok _) λKo s s' e5 hs=>by subst hs;exact aH (.pointer (((ha.mono e4).mono e5).add _))
  ·split<;>(split<;>first|exact rfl|exact kS e4.ok _ _ _ _)
theorem Hq {π:Ren}(ok:Ren.Ok P π)(t:aF){x x' i i':aq}(hx:bx S π x x')(hi:bx S π i i'):aI P S (VQ S) (Instr.indexAt t x i) π (Instr.indexAt t x' i'):=by
 unfold Instr.indexAt;refine aI.bind ok (s8 hi) λfB a b e1 h=> ?_
 subst h;obtain⟨k,n⟩:=a;simp only;refine aI.bind e1.ok (bN e1.ok t) λjJ d d' e2 hd=> ?_
 obtain⟨rfl,_⟩:=hd;have Jc:=(hx.mono e1).mono e2;cases d with
 |array l el=>simp only;exact aI.bind e2.ok (qJ Jc) λkV a a' e3 ha=>Af e3.ok t k n (.some ha) l el
 |slice el=>
  cases Jc with
  |j6 l c=>exact Af e2.ok t k n .none l el
  |slice l c ha=>exact Af e2.ok t k n (.some ha) l el
  |_=>exact rfl
 |_=>cases Jc<;>exact rfl
theorem JN {π:Ren}(ok:Ren.Ok P π){x x':aq}(h:bx S π x x')(y:Nat)(c:BoundsCode):aI P S l8 (Instr.sliceBound x y c) π (Instr.sliceBound x' y c):=by
 unfold Instr.sliceBound;refine aI.bind ok (s8 h) λfB a b e1 h=> ?_
 subst h;obtain⟨k,i⟩:=a;simp only
 split
 ·exact aH rfl
 ·exact kS e1.ok _ _ _ _
theorem FR {α:Type}{Q:Ren->α->α->Prop}{π:Ren}(ok:Ren.Ok P π){x x':aq}(h:bx S π x x')(y:Nat)(c:BoundsCode){k k':Nat->Sem α}(hk: ∀bO n,Ext P π bO->aI P S Q (k n) bO (k' n)):aI P S Q (Instr.sliceBound x y c >>= k) π (Instr.sliceBound x' y c >>= k'):=aI.bind ok (JN ok h y c) λbO a b e h=>by subst h;exact hk bO a e
theorem mv {π:Ren}(ok:Ren.Ok P π)(b:Bool)(len cap:Nat){lo lo' hi gj mx mx':Option aq}(hl:gw (bx S π) lo lo')(hh:gw (bx S π) hi gj)(hm:gw (bx S π) mx mx'):aI P S l8 (Instr.sliceBounds b len cap lo hi mx) π (Instr.sliceBounds b len cap lo' gj mx'):=by
 unfold Instr.sliceBounds;cases hm with
 |none=>cases hh with
  |none=>cases hl with
   |none=>exact aH rfl
   |some x=>exact FR ok x _ _ λ_ _ _=>aH rfl
  |some y=>cases hl with
   |none=>exact FR ok y _ _ λ_ _ _=>aH rfl
   |some x=>exact FR ok y _ _ λ_ _ e=>FR e.ok (x.mono e) _ _ λ_ _ _=>aH rfl
 |some z=>cases hh with
  |none=>exact FR ok z _ _ λ_ _ _=>rfl
  |some y=>cases hl with
   |none=>exact FR ok z _ _ λ_ _ e=>FR e.ok (y.mono e) _ _ λ_ _ _=>aH rfl
   |some x=>exact FR ok z _ _ λ_ _ e=>FR e.ok (y.mono e) _ _ λ_ _ e'=>FR e'.ok ((x.mono e).mono e') _ _ λ_ _ _=>aH rfl
theorem abw {π:Ren}(ok:Ren.Ok P π)(t:aF){x x':aq}(hx:bx S π x x'){lo lo' hi gj mx mx':Option aq}(hl:gw (bx S π) lo lo')(hh:gw (bx S π) hi gj)(hm:gw (bx S π) mx mx'):aI P S (VQ S) (Instr.slice t x lo hi mx) π (Instr.slice t x' lo' gj mx'):=by
 unfold Instr.slice;refine aI.bind ok (bN ok t) λfB d d' e1 hd=> ?_
 obtain⟨rfl,_⟩:=hd;have hx1:=hx.mono e1;have qw:=hl.mono λ_ _ x=>bx.mono e1 x
 have hh1:=hh.mono λ_ _ x=>bx.mono e1 x
 have ZJ:=hm.mono λ_ _ x=>bx.mono e1 x
 cases d with
 |string=>
  cases hx1 with
  |string s=>
   simp only;cases hm with
   |some=>exact rfl
   |none=>exact aI.bind e1.ok (mv e1.ok _ _ _ qw hh1 .none) λ_ a b e h=>by subst h;exact aH (.string _)
  |_=>exact rfl
 |slice el=>
  cases hx1 with
  |j6 l c=>
   simp only;refine aI.bind e1.ok (mv e1.ok _ _ _ qw hh1 ZJ) λjJ a b e2 h=> ?_
   subst h;refine aI.bind e2.ok (fN e2.ok _) λkV n n' e3 h=> ?_
   subst h;obtain⟨l,h,m⟩:=a;simp only[Option.map_none,ite_self];exact aH (.j6 _ _)
  |slice l c ha=>
   simp only;refine aI.bind e1.ok (mv e1.ok _ _ _ qw hh1 ZJ) λjJ a b e2 h=> ?_
   subst h;refine aI.bind e2.ok (fN e2.ok _) λkV n n' e3 h=> ?_
   subst h;obtain⟨l,h,m⟩:=a;simp only
   split
   ·exact aH (.slice _ _ ((ha.mono e2).mono e3))
   ·exact aH (.slice _ _ (((ha.mono e2).mono e3).add _))
  |_=>exact rfl
 |pointer arr=>
  simp only;refine aI.bind e1.ok (MP e1.ok hx1) λjJ a a' e2 ha=> ?_
  refine aI.bind e2.ok (bN e2.ok arr) λkV d d' e3 hd=> ?_
  obtain⟨rfl,_⟩:=hd;cases d with
  |array n el=>
   have e13:=e2.trans e3;refine aI.bind e3.ok (mv e3.ok _ _ _ (qw.mono λ_ _ x=>bx.mono e13 x) (hh1.mono λ_ _ x=>bx.mono e13 x) (ZJ.mono λ_ _ x=>bx.mono e13 x)) λwG b b' e4 h=> ?_
   subst h;refine aI.bind e4.ok (fN e4.ok _) λKo n n' e5 h=> ?_
   subst h;obtain⟨l,h,m⟩:=b;have ha5:=((ha.mono e3).mono e4).mono e5;simp only
   split
   ·exact aH (.slice _ _ ha5)
   ·exact aH (.slice _ _ (ha5.add _))
  |_=>exact rfl
 |_=>cases hx1<;>exact rfl
theorem TU {π:Ren}(ok:Ren.Ok P π)(t:aF){x x':aq}(hx:bx S π x x'){lo lo' hi gj mx mx':Option aq}(hl:gw (bx S π) lo lo')(hh:gw (bx S π) hi gj)(hm:gw (bx S π) mx mx'):aI P S (VQ S) (Instr.sliceAt t x lo hi mx) π (Instr.sliceAt t x' lo' gj mx'):=by
 unfold Instr.sliceAt;refine aI.bind ok (bN ok t) λfB d d' e1 hd=> ?_
 obtain⟨rfl,_⟩:=hd;have qw:=hl.mono λ_ _ x=>bx.mono e1 x
 have hh1:=hh.mono λ_ _ x=>bx.mono e1 x
 have ZJ:=hm.mono λ_ _ x=>bx.mono e1 x
 cases d with
 |array n el=>
  simp only;refine aI.bind e1.ok (qJ (hx.mono e1)) λjJ a a' e2 ha=> ?_
  refine aI.bind e2.ok (mv e2.ok _ _ _ (qw.mono λ_ _ x=>bx.mono e2 x) (hh1.mono λ_ _ x=>bx.mono e2 x) (ZJ.mono λ_ _ x=>bx.mono e2 x)) λwG b b' e4 h=> ?_
  subst h;refine aI.bind e4.ok (fN e4.ok _) λKo n n' e5 h=> ?_
  subst h;obtain⟨l,h,m⟩:=b;have ha5:=(ha.mono e4).mono e5;simp only
  split
  ·exact aH (.slice _ _ ha5)
  ·exact aH (.slice _ _ (ha5.add _))
 |_=>exact abw e1.ok t (hx.mono e1) qw hh1 ZJ
end
end Rel
namespace Rel
section
variable {P:aS} {S:jy}
theorem iL.extract {α β:Type}{R:α->β->Prop}{x:Array α}{y:Array β}(h:iL R x y)(a b:Nat):iL R (x.extract a b) (y.extract a b):=by
 refine⟨by simp[h.size],λi c d hc hd=> ?_⟩;rw[Array.getElem?_extract]at hc hd;rw[<-h.size]at hd
 split at hc
 ·rename_i hi
  rw[if_pos hi]at hd;exact h.at_ _ c d hc hd
 ·cases hc
theorem o9 {π:Ren}(ok:Ren.Ok P π)(t:aF){c c':Array aq}(h:cK S π c c')(off:Nat):aI P S (VQ S) (part t c off) π (part t c' off):=by
 unfold part;refine aI.bind ok (Rz ok t) λfB b b' e1 hb=> ?_
 subst hb;have h1:cK S fB c c':=h.mono λ_ _ x=>x.mono e1
 cases b with
 |true=>
  simp only[if_true];refine aI.bind e1.ok (fN e1.ok t) λjJ n n' e2 hn=> ?_
  subst hn;have:=(h1.extract off (off+n)).mono λ_ _ x=>bx.mono e2 x
  exact aH (.agg this.size this.at_)
 |false=>
  simp only[e9,if_false];cases hc:c[off]? with
  |none=>exact rfl
  |some v=>obtain⟨v',OC,hv⟩:=h1.get hc;rw[OC];exact aH hv
theorem abq {π:Ren}(ok:Ren.Ok P π)(t:aF){x x':aq}(h:bx S π x x')(f:Nat):aI P S (VQ S) (Instr.field t x f) π (Instr.field t x' f):=by
 unfold Instr.field;refine aI.bind ok (bN ok t) λfB d d' e1 hd=> ?_
 obtain⟨rfl,_⟩:=hd;cases d with
 |struct fields=>
  simp only;cases fields[f]? with
  |none=>exact rfl
  |some fl=>exact aI.bind e1.ok (abm (h.mono e1)) λjJ a a' e2 ha=>o9 e2.ok _ ha _
 |_=>exact rfl
theorem abr {π:Ren}(ok:Ren.Ok P π)(t:aF){x x' i i':aq}(hx:bx S π x x')(hi:bx S π i i'):aI P S (VQ S) (Instr.index t x i) π (Instr.index t x' i'):=by
 unfold Instr.index;refine aI.bind ok (s8 hi) λfB a b e1 h=> ?_
 subst h;obtain⟨k,n⟩:=a;simp only;refine aI.bind e1.ok (bN e1.ok t) λjJ d d' e2 hd=> ?_
 obtain⟨rfl,_⟩:=hd;have Jc:=(hx.mono e1).mono e2;cases d with
 |array l el=>
  cases Jc with
  |agg s ii=>
   simp only
   split
   ·exact aI.bind e2.ok (fN e2.ok _) λkV m m' e3 hm=>by subst hm;exact o9 e3.ok _ (iL.mono ⟨s,ii⟩ λ_ _ x=>bx.mono e3 x) _
   ·exact kS e2.ok _ _ _ _
  |_=>exact rfl
 |string=>
  cases Jc with
  |string s=>
   simp only
   split
   ·exact aH (.int _ _)
   ·exact kS e2.ok _ _ _ _
  |_=>exact rfl
 |_=>cases Jc<;>exact rfl
theorem TP {π:Ren}{x x':aq}(h:bx S π x x')(i:Nat):aI P S (VQ S) (Instr.extract x i) π (Instr.extract x' i):=by
 unfold Instr.extract;cases h with
 |tuple s ii=>
  rename_i x y
  simp only;cases hc:x[i]? with
  |none=>exact rfl
  |some v=>obtain⟨v',OC,hv⟩:=iL.get (R:=bx S π) ⟨s,ii⟩ hc;rw[OC];exact aH hv
 |_=>exact rfl
end
end Rel
section
open Go.RowKit
theorem Er (X:BitVec 64):IntKind.i64.wrap (X.toNat:Int)=X.toInt:=by
 have h:=X.isLt;rw[IntKind.wrap_i64,BitVec.toInt_eq_toNat_cond]
 split<;>omega
theorem KZ (a b:Int):bits .and .i64 a b=(BitVec.ofInt 64 a &&& BitVec.ofInt 64 b).toInt:=Er _
theorem aan (a b:Int):bits .or .i64 a b=(BitVec.ofInt 64 a ||| BitVec.ofInt 64 b).toInt:=Er _
def lz (m a b c:Int):Bool:=(bits .and .i64 m a==a)&&(bits .and .i64 m b==0)&&(c==0||bits .and .i64 m c !=0)
def Fits (a:Int):Prop:= -9223372036854775808<=a/\a<=9223372036854775807
theorem and_zero (m:Int):bits .and .i64 m 0=0:=by rw[KZ];simp
theorem parts {m a b c:Int}:lz m a b c=(lz m a 0 0&&lz m 0 b 0&&lz m 0 0 c):=by simp[lz,and_zero]
theorem Jj (m:Int):lz m 0 0 0=aA:=by simp[lz,and_zero]
end
section
open Go.RowKit
structure aQ where
 k:Int
 v:List Int
def aQ.list (b:aQ):List Int:=b.k::b.v
structure Query where
 pK:Int
 nt:Int
 any:Int
def Query.list (q:Query):List Int:=[q.pK,q.nt,q.any]
structure Sys where
 q:Query
 read:Int
 write:Int
 act:Int
 n:Int
def Sys.list (s:Sys):List Int:=[s.q.pK,s.q.nt,s.q.any,s.read,s.write,s.act,s.n]
def cT (m:Int):Bool:=decide (0<=m)&&decide (m<=255)
def kZ (b:aQ)(j:Nat):Int:=if b.k.toNat.testBit j=aw/\b.v.getD j 0≠0 then 4 else if b.v.getD j 0< -1000000000\/1000000000<b.v.getD j 0 then 1 else 0
def iq:List Int->Int
 | []=>0
 |e::r=>if e=0 then iq r else e
def bK (b:aQ):Int:=if cT b.k then iq ((aG 8).map (kZ b))else 1
def jZ (q:Query):Int:=if cT q.pK&&cT q.nt&&cT q.any then 0 else 1
def eQ (s:Sys):Int:=
 if jZ s.q≠0 then jZ s.q
 else if !(cT s.read)|| !(cT s.write)||decide (s.act<1)||decide (3<s.act)||decide (s.n< -1000000)||decide (1000000<s.n)then 1
 else if(decide (s.act=3)&&decide (s.n≠0))||(decide (s.act≠2)&&decide (s.read≠0))then 4 else 0
def fD (m:Int)(q:Query):Bool:=lz m q.pK q.nt q.any
theorem uj (l r:List Int)(h: ∀e∈l,e=0):iq (l++r)=iq r:=by
 induction l with
 |nil=>rfl
 |cons a l ih=>rw[dJ,iq,if_pos (h a (by simp)),ih λe he=>h e (by simp[he])]
theorem AP (b:aQ)(j:Nat)(hj:j<8)(hs:cT b.k=aA)(h0: ∀i,i<j->kZ b i=0)(he:kZ b j≠0):bK b=kZ b j:=by unfold bK;rw[if_pos hs,show(8:Nat)=j+(1+(7-j))from by omega,List.range_add,dX,uj _ _ (by simpa using h0),dt 1,List.range_succ_eq_map];simp[iq,he]
theorem rP (b:aQ)(hs:cT b.k=aA)(h0: ∀i,i<8->kZ b i=0):bK b=0:=by unfold bK;rw[if_pos hs];have:=uj ((aG 8).map (kZ b)) [] (by simpa using h0);rw[eN]at this;exact this
theorem ns (b:aQ)(h:bK b=0):(0<=b.k/\b.k<=255)/\ ∀j,j<8->(b.k.toNat.testBit j=aw->b.v.getD j 0=0)/\ -1000000000<=b.v.getD j 0/\b.v.getD j 0<=1000000000:=by
 have hs:cT b.k=aA:=by
  unfold bK at h;split at h
  ·assumption
  ·simp at h
 refine⟨by simpa[cT]using hs,?_⟩;have wJ: ∀j,j<8->kZ b j=0:=by
  intro j
  induction j using l7 with
  |ind j ih=>
   intro hj;by_cases he:kZ b j=0
   ·exact he
   ·have:=AP b j hj hs (λi hi=>ih i hi (by omega)) he;exact absurd (this.symm.trans h) he
 intro j hj;have hv:=wJ j hj;unfold kZ at hv
 split at hv
 ·simp at hv
 ·rename_i h1
  split at hv
  ·simp at hv
  ·rename_i h2
   refine⟨λhb=> ?_,by omega⟩;by_cases hz:b.v.getD j 0=0
   ·exact hz
   ·exact absurd ⟨hb,hz⟩ h1
theorem V9 (b:aQ)(hk:0<=b.k/\b.k<=255)(h: ∀j,j<8->(b.k.toNat.testBit j=aw->b.v.getD j 0=0)/\ -1000000000<=b.v.getD j 0/\b.v.getD j 0<=1000000000):bK b=0:=by
 refine rP b (by simpa[cT]using hk) λj hj=> ?_
 obtain⟨h1,h2,h3⟩:=h j hj;unfold kZ;rw[if_neg (λhh=>hh.2 (h1 hh.1)),if_neg (by omega)]
def BJ (n:Int):Int:=if n< -1000000000 then-1000000000 else if 1000000000<n then 1000000000 else n
def wl (b:aQ)(s:Sys):List Nat:=kinds (b.k.toNat &&& s.write.toNat)
def rl (b:aQ)(s:Sys):List Nat:=kinds (b.k.toNat &&& s.read.toNat)
def aiJ (b:aQ)(s:Sys)(l:List Nat):Int:=l.foldl (λa k=>a+b.v.getD k 0) s.n
def ja (b:aQ)(s:Sys)(l:List Nat)(i:Nat):Int:=if s.act=1 then BJ (b.v.getD (l.getD i 0) 0+s.n)else if s.act=2 then BJ (aiJ b s (rl b s))else b.v.getD (l.getD ((i+1) % l.length) 0) 0
def qG (f:Nat->Int)(l:List Nat)(v:List Int):Nat->List Int
 |0=>v
 |i+1=>(qG f l v i).set (l.getD i 0) (f i)
def cq (b:aQ)(s:Sys):aQ:=if fD b.k s.q then⟨b.k,qG (ja b s (wl b s)) (wl b s) b.v (wl b s).length⟩else b
def n9:aQ:=⟨0,[0,0,0,0,0,0,0,0]⟩
def aiO (b:aQ)(s:Sys):aQ×Int:=if eQ s=0 then if bK b=0 then(cq b s,0)else(n9,bK b)else(n9,eQ s)
theorem yU (f:Nat->Int)(l:List Nat)(v:List Int)(i:Nat):(qG f l v i).length=v.length:=by
 induction i with
 |zero=>rfl
 |succ i ih=>simp[qG,ih]
theorem oj {l:List Nat}{j:Nat}(h:j<l.length):l.getD j 0=l[j]:=by simp[bp,ao h]
theorem uZ (v:List Int)(i k:Nat)(x:Int):(v.set i x).getD k 0=if i=k/\k<v.length then x else v.getD k 0:=by
 simp only[bp,gh];by_cases h:i=k
 ·subst h;by_cases h2:i<v.length
  ·simp[h2]
  ·simp[h2]
 ·simp[h]
theorem Rs (f:Nat->Int)(l:List Nat)(v:List Int)(hn:l.Nodup): ∀i,i<=l.length-> ∀j,j<i->l.getD j 0<v.length->(qG f l v i).getD (l.getD j 0) 0=f j:=by
 intro i
 induction i with
 |zero=>intro _ j hj;omega
 |succ i ih=>
  intro hi j hj hv;unfold qG;rw[uZ,yU];by_cases OG:j=i
  ·subst OG;rw[if_pos ⟨rfl,hv⟩]
  ·rw[if_neg]
   ·exact ih (by omega) j (by omega) hv
   ·rintro⟨e,_⟩;rw[oj (show i<l.length by omega),oj (show j<l.length by omega)]at e;exact(jc.1 (List.nodup_iff_pairwise_ne.1 hn) j i (by omega) (by omega) (by omega)) e.symm
theorem MH (f:Nat->Int)(l:List Nat)(v:List Int)(k:Nat)(hk:k∉l): ∀i,i<=l.length->(qG f l v i).getD k 0=v.getD k 0:=by
 intro i
 induction i with
 |zero=>intro _;rfl
 |succ i ih=>
  intro hi;unfold qG;rw[uZ,if_neg]
  ·exact ih (by omega)
  ·rintro⟨e,_⟩;rw[oj (show i<l.length by omega)]at e;exact hk (e▸aU _)
theorem yS {l:List Nat}{k:Nat}(h:k∈l): ∃j,j<l.length/\l.getD j 0=k:=by obtain⟨j,hj,e⟩:=dp.1 h;exact⟨j,hj,by simp[bp,ao hj,e]⟩
theorem oh (b:aQ)(s:Sys):(cq b s).k=b.k:=by unfold cq;split<;>rfl
theorem fM (b:aQ)(s:Sys):(cq b s).v.length=b.v.length:=by unfold cq;split<;>simp[yU]
theorem Zf (b:aQ)(s:Sys):(wl b s).Nodup:=rC _
theorem mM (b:aQ)(s:Sys)(k:Nat):k∈wl b s↔k<8/\b.k.toNat.testBit k=aA/\s.write.toNat.testBit k=aA:=by unfold wl;rw[ju,Nat.testBit_and,aM]
theorem gC (b:aQ)(s:Sys)(k:Nat)(hk:k∉wl b s):(cq b s).v.getD k 0=b.v.getD k 0:=by
 unfold cq
 split
 ·exact MH _ _ _ _ hk _ (az _)
 ·rfl
theorem qd (b:aQ)(s:Sys)(hb:b.v.length=8)(hq:fD b.k s.q=aA)(j:Nat)(hj:j<(wl b s).length):(cq b s).v.getD ((wl b s).getD j 0) 0=ja b s (wl b s) j:=by
 unfold cq;rw[if_pos hq];refine Rs _ _ _ (Zf b s) _ (az _) j hj ?_;have hm:(wl b s).getD j 0∈wl b s:=by simp[bp,ao hj]
 have:=((mM b s _).1 hm).1;omega
theorem CV (n:Int): -1000000000<=BJ n/\BJ n<=1000000000:=by unfold BJ;split<;>(try split)<;>omega
theorem yx (b:aQ)(s:Sys)(hb:b.v.length=8)(he:bK b=0):bK (cq b s)=0:=by
 obtain⟨hk,hv⟩:=ns b he;refine V9 _ (by rw[oh];exact hk) λj hj=> ?_
 rw[oh];by_cases hm:fD b.k s.q=aA/\j∈wl b s
 ·have hq:=hm.1;have hm:=hm.2;obtain⟨i,hi,LM⟩:=yS hm;have ru:=qd b s hb hq i hi;rw[LM]at ru;have mI:=((mM b s j).1 hm).2.1;refine⟨λh=>absurd (mI.symm.trans h) (by simp),?_⟩;rw[ru];unfold ja
  split
  ·exact CV _
  ·split
   ·exact CV _
   ·have bE:(i+1) % (wl b s).length<(wl b s).length:=Nat.mod_lt _ (by omega);have QZ:(wl b s).getD ((i+1) % (wl b s).length) 0∈wl b s:=by simp[bp,ao bE]
    exact(hv _ ((mM b s _).1 QZ).1).2
 ·have ru:(cq b s).v.getD j 0=b.v.getD j 0:=by
   by_cases hq:fD b.k s.q=aA
   ·exact gC b s j λh=>hm ⟨hq,h⟩
   ·unfold cq;rw[if_neg hq]
  rw[ru];exact hv j hj
theorem Jh: ∀a b:Int,0<=a/\a<=255->0<=b/\b<=255->bits .and .i64 a b=((a.toNat &&& b.toNat:Nat):Int)/\a.toNat &&& b.toNat<256:=by
 have h: ∀a b:Fin 256,bits .and .i64 (a.val:Int) (b.val:Int)=((a.val &&& b.val:Nat):Int)/\a.val &&& b.val<256:=by
  intro a b;have ha:=a.isLt;have hb:=b.isLt;have bE:a.val &&& b.val<256:=Nat.lt_of_le_of_lt Nat.and_le_left ha;refine⟨?_,bE⟩;rw[KZ];have e1: ∀x:Nat,x<256->BitVec.ofInt 64 (x:Int)=BitVec.ofNat 64 x:=λx _=>by rw[BitVec.ofInt_natCast]
  rw[e1 _ ha,e1 _ hb,<-BitVec.ofNat_and,BitVec.toInt_eq_toNat_cond,BitVec.toNat_ofNat,Nat.mod_eq_of_lt (by omega)];rw[if_pos (by omega)]
 intro a b ha hb;have:=h ⟨a.toNat,by omega⟩ ⟨b.toNat,by omega⟩;simp only[Int.toNat_of_nonneg ha.1,Int.toNat_of_nonneg hb.1]at this;exact this
end
section
open Go.RowKit
def gB (s t:Sys):Bool:=bits .or .i64 (bits .and .i64 s.write (bits .or .i64 t.read t.write)) (bits .and .i64 t.write s.read) !=0
theorem Nw {x:Nat}(h:x<256):(BitVec.ofNat 64 x).toInt=(x:Int):=by rw[BitVec.toInt_eq_toNat_cond,BitVec.toNat_ofNat,Nat.mod_eq_of_lt (by omega),if_pos (by omega)]
theorem Bj {a:Int}(h:0<=a/\a<=255):BitVec.ofInt 64 a=BitVec.ofNat 64 a.toNat:=by have:=BitVec.ofInt_natCast 64 a.toNat;rwa[Int.toNat_of_nonneg h.1]at this
theorem acH (a b:Int)(ha:0<=a/\a<=255)(hb:0<=b/\b<=255):bits .or .i64 a b=((a.toNat ||| b.toNat:Nat):Int)/\a.toNat ||| b.toNat<256:=by have bE:a.toNat ||| b.toNat<2^8:=Nat.or_lt_two_pow (by omega) (by omega);refine⟨?_,bE⟩;rw[aan,Bj ha,Bj hb,<-BitVec.ofNat_or,Nw bE]
theorem vQ {s t:Sys}(h1:cT s.read=aA)(h2:cT s.write=aA)(h3:cT t.read=aA)(h4:cT t.write=aA):gB s t=aA↔ ∃k,k<8/\((s.write.toNat.testBit k=aA/\(t.read.toNat.testBit k=aA\/t.write.toNat.testBit k=aA))\/(t.write.toNat.testBit k=aA/\s.read.toNat.testBit k=aA)):=by
 simp only[cT,aM,decide_eq_true_eq]at h1 h2 h3 h4;obtain⟨e1,l1⟩:=acH _ _ h3 h4;obtain⟨e2,l2⟩:=Jh s.write ((t.read.toNat ||| t.write.toNat:Nat):Int) h2 (by omega);obtain⟨e3,l3⟩:=Jh t.write s.read h4 h1;unfold gB;rw[e1,e2,e3];obtain⟨e4,l4⟩:=acH ((s.write.toNat &&& ((t.read.toNat ||| t.write.toNat:Nat):Int).toNat:Nat):Int) ((t.write.toNat &&& s.read.toNat:Nat):Int) (by omega) (by omega);rw[e4];simp only[dL]at*;generalize hX:(s.write.toNat &&& (t.read.toNat ||| t.write.toNat)) ||| (t.write.toNat &&& s.read.toNat)=X at*;have mI: ∀k,X.testBit k=((s.write.toNat.testBit k&&(t.read.toNat.testBit k||t.write.toNat.testBit k))||(t.write.toNat.testBit k&&s.read.toNat.testBit k)):=by intro k;rw[<-hX];simp[Nat.testBit_or,Nat.testBit_and]
 constructor
 ·intro h;have dQ:X≠0:=by intro h0;rw[h0]at h;simp at h
  obtain⟨k,hk⟩:=Nat.exists_testBit_of_ne_zero dQ;refine⟨k,?_,?_⟩
  ·apply Decidable.byContradiction;intro sK;have bE:X<2^k:=bX l4 (bP (by decide:256<=2^8) (Nat.pow_le_pow_right (by omega) (by omega)));rw[Nat.testBit_lt_two_pow bE]at hk;exact absurd hk (by simp)
  ·rw[mI]at hk;simpa using hk
 ·rintro⟨k,_,hk⟩;have zF:X.testBit k=aA:=by rw[mI];simpa using hk
  have dQ:X≠0:=by intro h0;rw[h0]at zF;simp at zF
  simp;omega
theorem Og {s t:Sys}(h1:cT s.read=aA)(h2:cT s.write=aA)(h3:cT t.read=aA)(h4:cT t.write=aA):gB t s=gB s t:=by
 have a:=vQ h1 h2 h3 h4;have b:=vQ h3 h4 h1 h2;rw[nJ,a,b];constructor
 ·rintro⟨k,hk,h⟩;refine⟨k,hk,?_⟩;rcases h with⟨h,h'|h'⟩|⟨h,h'⟩
  ·exact bR ⟨h,h'⟩
  ·exact br ⟨h',bR h⟩
  ·exact br ⟨h,br h'⟩
 ·rintro⟨k,hk,h⟩;refine⟨k,hk,?_⟩;rcases h with⟨h,h'|h'⟩|⟨h,h'⟩
  ·exact bR ⟨h,h'⟩
  ·exact br ⟨h',bR h⟩
  ·exact br ⟨h,br h'⟩
theorem Ge {a b:aQ}(hk:a.k=b.k)(ha:a.v.length=8)(hb:b.v.length=8)(h: ∀k,k<8->a.v.getD k 0=b.v.getD k 0):a=b:=by
 cases a with|mk ak av=>cases b with|mk bk bv=>
 simp only at hk ha hb h;subst hk;congr 1;apply List.ext_getElem (by omega);intro i h1 h2;have:=h i (by omega);simpa[bp,ao h1,ao h2]using this
theorem Gb {b b':aQ}(h:b'.k=b.k)(s:Sys):wl b' s=wl b s:=by unfold wl;rw[h]
theorem ahW {b b':aQ}(h:b'.k=b.k)(s:Sys):rl b' s=rl b s:=by unfold rl;rw[h]
theorem tV {b b':aQ}{s:Sys}{l:List Nat}{i:Nat}(hk:b'.k=b.k)(hi:i<l.length)(h1: ∀k∈l,b'.v.getD k 0=b.v.getD k 0)(h2:s.act=2-> ∀k∈rl b s,b'.v.getD k 0=b.v.getD k 0):ja b' s l i=ja b s l i:=by
 have hm: ∀j,j<l.length->l.getD j 0∈l:=λj hj=>by simp[bp,ao hj]
 unfold ja
 split
 ·rw[h1 _ (hm i hi)]
 ·split
  ·rename_i h
   rw[ahW hk];have: ∀(l:List Nat) (a:Int),(∀k∈l,b'.v.getD k 0=b.v.getD k 0)->l.foldl (λa k=>a+b'.v.getD k 0) a=l.foldl (λa k=>a+b.v.getD k 0) a:=by
    intro l
    induction l with
    |nil=>intro a _;rfl
    |cons k l ih=>intro a h;rw[List.foldl_cons,List.foldl_cons,h k (by simp),ih _ λq hq=>h q (by simp[hq])]
   unfold aiJ;rw[this _ _ (h2 h)]
  ·exact h1 _ (hm _ (Nat.mod_lt _ (by omega)))
theorem Pm (b:aQ)(s:Sys)(k:Nat):k∈rl b s↔k<8/\b.k.toNat.testBit k=aA/\s.read.toNat.testBit k=aA:=by unfold rl;rw[ju,Nat.testBit_and,aM]
theorem apart (b:aQ)(s t:Sys)(hb:b.v.length=8)(h1:cT s.read=aA)(h2:cT s.write=aA)(h3:cT t.read=aA)(h4:cT t.write=aA)(hc:gB s t=aw):cq (cq b s) t=cq (cq b t) s:=by
 have wM: ∀k,k<8-> ¬((s.write.toNat.testBit k=aA/\(t.read.toNat.testBit k=aA\/t.write.toNat.testBit k=aA))\/(t.write.toNat.testBit k=aA/\s.read.toNat.testBit k=aA)):=by intro k hk h;have:=(vQ h1 h2 h3 h4).2 ⟨k,hk,h⟩;rw[hc]at this;exact absurd this (by simp)
 have hsk:(cq b s).k=b.k:=oh b s;have OT:(cq b t).k=b.k:=oh b t;by_cases hqs:fD b.k s.q=aA
 ·by_cases hqt:fD b.k t.q=aA
  ·refine Ge (by rw[oh,hsk,oh,OT]) (by rw[fM,fM,hb]) (by rw[fM,fM,hb]) λk hk=> ?_
   by_cases tS:k∈wl b s
   ·have ZH:k∉wl b t:=λh=>by have a:=(mM _ _ _).1 tS;have c:=(mM _ _ _).1 h;exact wM k hk (br ⟨a.2.2,bR c.2.2⟩)
    obtain⟨j,hj,tQ⟩:=yS tS;rw[gC (cq b s) t k (by rw[Gb hsk];exact ZH)];have a:=qd b s hb hqs j hj;have c:=qd (cq b t) s (by rw[fM,hb]) (by rw[OT];exact hqs) j (by rw[Gb OT];exact hj);rw[Gb OT,tQ]at c;rw[tQ]at a;rw[a,c];refine(tV OT hj (λi hi=>gC b t i λh=> ?_) (λ_ i hi=>gC b t i λh=> ?_)).symm
    ·have a:=(mM _ _ _).1 hi;have c:=(mM _ _ _).1 h;exact wM i a.1 (br ⟨a.2.2,bR c.2.2⟩)
    ·have a:=(Pm _ _ _).1 hi;have c:=(mM _ _ _).1 h;exact wM i a.1 (bR ⟨c.2.2,a.2.2⟩)
   ·rw[gC (cq b t) s k (by rw[Gb OT];exact tS)];by_cases ZH:k∈wl b t
    ·obtain⟨j,hj,tQ⟩:=yS ZH;have a:=qd b t hb hqt j hj;have c:=qd (cq b s) t (by rw[fM,hb]) (by rw[hsk];exact hqt) j (by rw[Gb hsk];exact hj);rw[Gb hsk,tQ]at c;rw[tQ]at a;rw[a,c];refine tV hsk hj (λi hi=>gC b s i λh=> ?_) (λ_ i hi=>gC b s i λh=> ?_)
     ·have a:=(mM _ _ _).1 hi;have c:=(mM _ _ _).1 h;exact wM i a.1 (br ⟨c.2.2,bR a.2.2⟩)
     ·have a:=(Pm _ _ _).1 hi;have c:=(mM _ _ _).1 h;exact wM i a.1 (br ⟨c.2.2,br a.2.2⟩)
    ·rw[gC (cq b s) t k (by rw[Gb hsk];exact ZH),gC b s k tS,gC b t k ZH]
  ·have e: ∀b':aQ,b'.k=b.k->cq b' t=b':=λb' h=>by unfold cq;rw[h,if_neg hqt]
   rw[e _ hsk,e b rfl]
 ·have e: ∀b':aQ,b'.k=b.k->cq b' s=b':=λb' h=>by unfold cq;rw[h,if_neg hqs]
  rw[e _ OT,e b rfl]
end
end Go.Proofs.YtknejlcijdngoaaGreat
