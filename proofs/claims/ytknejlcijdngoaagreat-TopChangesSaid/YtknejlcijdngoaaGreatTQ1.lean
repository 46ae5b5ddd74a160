/- Several texts in one, made short by a program of mine. -/
import Derived.Below
import Derived.WalkKit
import Derived.Conc.CrowdInv
import Derived.Conc.Beside
import GoSem.Step
import Derived.Conc.Own
import Derived.Laws.BitsLemmas
set_option linter.defProp false
set_option linter.unusedVariables false
set_option linter.unusedSimpArgs false
set_option linter.unusedSectionVars false
set_option maxHeartbeats 16000000
set_option maxRecDepth 100000
open Array renaming ext'→oz,getElem?_eq_getElem→aX,getElem?_eq_none→iH,getElem?_eq_some_iff→aI,getElem?_modify→bq,getElem?_push→mG,getElem?_setIfInBounds_ne→aK,getElem?_setIfInBounds_self_of_lt→aU,mem_append→o4
open Bool renaming and_eq_true→aG,eq_iff_iff→l8,false_eq_true→dP,not_eq_true'→iT,or_eq_true→gi,false→ay,true→aw
open Classical renaming byContradiction→gH,choose→sY
open Go renaming FuncId→bK,Program→aS,TypeId→aA,Value→ao,World→ah
open Go.Instr renaming loadAt→eh,storeAt→eZ
open Go.Mode renaming plain→sD
open Go.Sem renaming runT→gw
open Go.World renaming cell?→c8,setCell→dJ
open Int renaming toNat_natCast→fw
open List renaming any_eq_true→qc,append_assoc→cx,append_nil→ew,cons_append→dF,filter_cons→qg,find?_cons→oj,flatMap_cons→bN,foldl_cons→l9,getD→bB,getElem?_eq_getElem→aq,getElem?_set→fh,getElem_mem→bg,length_cons→aD,length_filter_le→jA,length_map→aL,map_append→ey,map_congr_left→dx,map_cons→eN,mem_append→jh,mem_cons→cj,mem_cons_of_mem→mg,mem_filter→cm,mem_iff_getElem→dK,mem_map→aH,mem_singleton→eO,mem_toArray→qi,mergeSort_perm→gG,nil_append→cy,not_mem_nil→jH,pairwise_iff_getElem→lO,range→bP
open List.Perm renaming refl→qK
open Nat renaming add_comm→dA,add_zero→lC,le_refl→ax,le_trans→bM,lt_of_lt_of_le→cc,lt_or_ge→ec,strongRecOn→mQ
open Option renaming map_eq_some_iff→aJ,none→ai,some→ae
open Option.some renaming inj→be
open Or renaming inl→bm,inr→bO
namespace Go.Proofs.YtknejlcijdngoaaGreat
section
variable {κ ν:Type} [DecidableEq κ]
def dY (m:List (κ×ν))(x:κ):Option ν:=(m.find? λp=>decide (p.1=x)).map (·.2)
def hZ (m:List (κ×ν))(x:κ)(v:ν):List (κ×ν):=if m.any (λp=>decide (p.1=x))then m.map (λp=>if p.1=x then(x,v)else p)else m++[(x,v)]
def dZ (m:List (κ×ν))(x:κ):List (κ×ν):=m.filter λp=> !decide (p.1=x)
def aW (m:List (κ×ν)):List κ:=m.map (·.1)
def uS (m:List (κ×ν))(x:κ)(v:ν):aW (hZ m x v)=if x∈aW m then aW m else aW m++[x]:=by
 unfold hZ aW;have:(m.any λp=>decide (p.1=x))=decide (x∈m.map (·.1)):=by rw[l8];simp
 rw[this];by_cases h:x∈m.map (·.1)
 ·rw[if_pos (by simpa using h),if_pos h,List.map_map];apply dx;intro p _;simp only[Function.comp]
  split<;>simp_all
 ·rw[if_neg (by simpa using h),if_neg h];simp
def yG {m:List (κ×ν)}(h:(aW m).Nodup)(x:κ)(v:ν):(aW (hZ m x v)).Nodup:=by
 rw[uS]
 split
 ·exact h
 ·rename_i hx
  rw[List.nodup_append];exact⟨h,by simp,λa ha b hb e=>hx (by rw[eO]at hb;rw[<-hb,<-e];exact ha)⟩
def lW {m:List (κ×ν)}(h:(aW m).Nodup)(x:κ):(aW (dZ m x)).Nodup:=h.sublist (List.filter_sublist.map _)
def fP {m:List (κ×ν)}{x:κ}{p:κ×ν}:p∈dZ m x↔p∈m/\p.1≠x:=by simp[dZ]
def qG {m:List (κ×ν)}{x:κ}:dY m x=ai↔x∉aW m:=by unfold dY aW;rw[Option.map_eq_none_iff,List.find?_eq_none];simp only[decide_eq_true_eq,aH,not_exists,not_and]
def rJ {m:List (κ×ν)}{x:κ}{v:ν}(h:dY m x=ae v):(x,v)∈m:=by
 unfold dY at h;obtain⟨p,hp,rfl⟩:=aJ.1 h;have h1:=List.find?_some hp;have h2:=List.mem_of_find?_eq_some hp;have:p.1=x:=by simpa using h1
 rw[<-this];exact h2
def nI {m:List (κ×ν)}(hn:(aW m).Nodup){x:κ}{v:ν}(h:(x,v)∈m):dY m x=ae v:=by
 induction m with
 |nil=>simp at h
 |cons a m ih=>
  obtain⟨h1,h2⟩:=List.nodup_cons.1 (show(a.1::aW m).Nodup from hn);unfold dY;rw[oj];rcases cj.1 h with rfl|h'
  ·simp
  ·have eb:a.1≠x:=λe=>h1 (by rw[e];exact aH.2 ⟨_,h',rfl⟩)
   rw[decide_eq_false eb];exact ih h2 h'
def nY {m:List (κ×ν)}(hn:(aW m).Nodup){x:κ}{v:ν}:dY m x=ae v↔(x,v)∈m:=⟨rJ,nI hn⟩
def ko (m:List (κ×ν))(x y:κ)(v:ν):dY (hZ m x v) y=if y=x then ae v else dY m y:=by
 unfold hZ;by_cases ha:(m.any λp=>decide (p.1=x))=aw
 ·rw[if_pos ha];by_cases hy:y=x
  ·rw[if_pos hy];subst hy;obtain⟨p,hp,hx⟩:=qc.1 ha;clear ha
   induction m with
   |nil=>simp at hp
   |cons a m ih=>
    unfold dY at ih|-;rw[eN,oj];by_cases h:a.1=y
    ·simp[h]
    ·rw[if_neg h,decide_eq_false h];refine ih ?_;rcases cj.1 hp with rfl|h'
     ·simp at hx;exact absurd hx h
     ·exact h'
  ·rw[if_neg hy];clear ha
   induction m with
   |nil=>rfl
   |cons a m ih=>
    unfold dY at ih|-;rw[eN,oj,oj];by_cases h:a.1=x
    ·have h2: ¬a.1=y:=λe=>hy (e.symm.trans h)
     have h3: ¬x=y:=λe=>hy e.symm
     rw[if_pos h,decide_eq_false h2,decide_eq_false h3];exact ih
    ·rw[if_neg h]
     split
     ·rfl
     ·exact ih
 ·rw[if_neg ha];have hx:x∉aW m:=λh=>ha (by obtain⟨p,hp,e⟩:=aH.1 h;exact qc.2 ⟨p,hp,by simpa using e⟩)
  unfold dY;rw[List.find?_append];by_cases hy:y=x
  ·rw[if_pos hy];subst hy;have:=qG.2 hx;unfold dY at this;rw[Option.map_eq_none_iff]at this;rw[this];simp
  ·rw[if_neg hy];have h3: ¬x=y:=λe=>hy e.symm
   simp[h3]
def oK (m:List (κ×ν))(x y:κ):dY (dZ m x) y=if y=x then ai else dY m y:=by
 by_cases hy:y=x
 ·rw[if_pos hy,qG];subst hy;intro h;obtain⟨p,hp,e⟩:=aH.1 h;exact(fP.1 hp).2 e
 ·rw[if_neg hy]
  induction m with
  |nil=>rfl
  |cons a m ih=>
   unfold dZ at ih|-;rw[qg];by_cases h:a.1=x
   ·have h2: ¬a.1=y:=λe=>hy (e.symm.trans h)
    rw[decide_eq_true h];simp only[Bool.not_true,dP,if_false];rw[ih];unfold dY;rw[oj,decide_eq_false h2]
   ·rw[decide_eq_false h];simp only[Bool.not_false,if_true];unfold dY at ih|-;rw[oj,oj]
    split
    ·rfl
    ·exact ih
def NK (m:List (κ×ν))(x:κ)(v:ν):(hZ m x v).length<=m.length+1:=by unfold hZ;split<;>simp
def Y' (m:List (κ×ν))(x:κ):(dZ m x).length<=m.length:=jA _ _
def NH {m:List (κ×ν)}{x:κ}{v:ν}{p:κ×ν}(h:p∈hZ m x v):p=(x,v)\/(p∈m/\p.1≠x):=by
 unfold hZ at h
 split at h
 ·obtain⟨q,hq,e⟩:=aH.1 h
  split at e
  ·exact bm e.symm
  ·rename_i eb;subst e;exact bO ⟨hq,eb⟩
 ·rename_i ha
  rw[jh]at h;rcases h with h|h
  ·exact bO ⟨h,λe=>ha (qc.2 ⟨p,h,by simpa using e⟩)⟩
  ·exact bm (by simpa using h)
end
abbrev Hd:=Int×Int
abbrev kN:=List (Hd×Hd)
inductive Up (m:kN):Hd->Hd->Prop
 |one {a p:Hd}:dY m a=ae p->Up m a p
 |more {a p q:Hd}:dY m a=ae p->Up m p q->Up m a q
def AB (m:kN)(rk:Hd->Nat)(R:Nat):Prop:= ∀c p,dY m c=ae p->rk p<rk c/\rk c<=R
def pO (m:kN):Prop:= ∃rk R,AB m rk R
section
variable {m m':kN} {rk:Hd->Nat} {R:Nat} {a b c h p q x y:Hd}
def Up.aio (hr:AB m rk R)(hu:Up m a q):rk q<rk a:=by
 induction hu with
 |one h=>exact(hr _ _ h).1
 |more h _ ih=>have:=(hr _ _ h).1;omega
def Up.irrefl (ha:pO m): ¬Up m a a:=λh=>by obtain⟨rk,R,hr⟩:=ha;have:=h.aio hr;omega
def Up.trans (h1:Up m a b)(h2:Up m b c):Up m a c:=by
 induction h1 with
 |one h=>exact .more h h2
 |more h _ ih=>exact .more h (ih h2)
def Up.linear (h1:Up m a x): ∀{y},Up m a y->x=y\/Up m x y\/Up m y x:=by
 induction h1 with
 |one h=>
  intro y h2;cases h2 with
  |one h'=>rw[h]at h';exact bm (be h')
  |more h' h2=>rw[h]at h';cases be h';exact bO (bm h2)
 |more h h1 ih=>
  intro y h2;cases h2 with
  |one h'=>rw[h]at h';cases be h';exact bO (bO h1)
  |more h' h2=>rw[h]at h';cases be h';exact ih h2
def Up.none (hn:dY m a=ai): ¬Up m a x:=λh=>by
 cases h with
 |one h=>rw[hn]at h;cases h
 |more h _=>rw[hn]at h;cases h
def Up.mono (hs: ∀c p,dY m c=ae p->dY m' c=ae p)(h:Up m a x):Up m' a x:=by
 induction h with
 |one h=>exact .one (hs _ _ h)
 |more h _ ih=>exact .more (hs _ _ h) ih
def pO.sub (ha:pO m)(hs: ∀c p,dY m' c=ae p->dY m c=ae p):pO m':=by obtain⟨rk,R,hr⟩:=ha;exact⟨rk,R,λc p h=>hr c p (hs c p h)⟩
def pO.nil:pO []:=⟨λ_=>0,0,λc p h=>by simp[dY]at h⟩
def pO.del (ha:pO m)(c:Hd):pO (dZ m c):=ha.sub λx p h=>by
 rw[oK]at h
 split at h
 ·cases h
 ·exact h
def pO.put (ha:pO m)(eb:c≠p)(hnu: ¬Up m p c):pO (hZ m c p):=by
 obtain⟨rk,R,hr⟩:=ha
 classical
 have hp: ¬(p=c\/Up m p c):=λh=>by rcases h with h|h;exact eb h.symm;exact hnu h
 refine⟨λx=>if x=c\/Up m x c then rk x+(rk p+1)else rk x,R+rk c+(rk p+1),λx y rB=> ?_⟩;rw[ko]at rB;by_cases hx:x=c
 ·rw[if_pos hx]at rB;cases be rB;simp only;rw[if_pos (bm hx),if_neg hp,hx];exact⟨by omega,by omega⟩
 ·rw[if_neg hx]at rB;have h1:=hr x y rB;have ad9:(y=c\/Up m y c)↔(x=c\/Up m x c):=by
   constructor
   ·rintro(e|e)
    ·exact bO (.one (e▸rB))
    ·exact bO (.more rB e)
   ·rintro(e|e)
    ·exact absurd e hx
    ·cases e with
     |one e=>rw[rB]at e;exact bm (be e)
     |more e e2=>rw[rB]at e;cases be e;exact bO e2
  simp only[ad9]
  split
  ·exact⟨by omega,by omega⟩
  ·exact⟨by omega,by omega⟩
inductive mS (m:kN):Hd->List Hd->Prop
 |nil {h:Hd}:dY m h=ai->mS m h []
 |cons {h p:Hd} {xs:List Hd}:dY m h=ae p->mS m p xs->mS m h (p::xs)
def mS.exists (ha:pO m)(h:Hd): ∃xs,mS m h xs:=by
 obtain⟨rk,R,hr⟩:=ha;generalize hn:rk h=n
 induction n using mQ generalizing h with
 |_ n ih=>
  cases hm:dY m h with
  |none=>exact⟨[],.nil hm⟩
  |some p=>obtain⟨xs,hx⟩:=ih (rk p) (by have:=(hr _ _ hm).1;omega) p rfl;exact⟨p::xs,.cons hm hx⟩
def mS.mem {xs:List Hd}(hc:mS m h xs):x∈xs↔Up m h x:=by
 induction hc with
 |nil hn=>simp[Up.none hn]
 |cons hm _ ih=>
  rw[cj,ih];constructor
  ·rintro(rfl|e)
   ·exact .one hm
   ·exact .more hm e
  ·intro e;cases e with
   |one e=>rw[hm]at e;exact bm (be e).symm
   |more e e2=>rw[hm]at e;cases be e;exact bO e2
def wG {α:Type}[BEq α][LawfulBEq α]: ∀{l l':List α},l.Nodup->(∀x∈l,x∈l')->l.length<=l'.length
 | [],_,_,_=>by simp
 |a::l,l',hn,hs=>by
  obtain⟨h1,h2⟩:=List.nodup_cons.1 hn;have h3:=wG (l':=l'.erase a) h2 λx hx=>(List.mem_erase_of_ne (λe:x=a=>h1 (by rw[<-e];exact hx))).2 (hs x (mg _ hx))
  have h4:=List.length_erase_of_mem (hs a List.mem_cons_self);have h5:=List.length_pos_of_mem (hs a List.mem_cons_self);rw[aD];omega
def mS.get {xs:List Hd}(hc:mS m h xs):dY m h=xs.head?:=by
 cases hc with
 |nil hn=>exact hn
 |cons hm _=>exact hm
end
def Uh (a b:Hd):Bool:=decide (a.1<b.1)||(decide (a.1=b.1)&&decide (a.2<b.2))
def yX (a b:Hd):Bool:= !Uh b a
def Dl {a b:Hd}:yX a b=aw↔a.1<b.1\/a.1=b.1/\a.2<=b.2:=by
 unfold yX Uh;simp only[iT,Bool.or_eq_false_iff,decide_eq_false_iff_not,Bool.and_eq_false_iff];constructor
 ·rintro⟨h1,h2|h2⟩<;>omega
 ·intro h;refine⟨by omega,?_⟩;by_cases e:b.1=a.1
  ·exact bO (by omega)
  ·exact bm e
def IU (a b c:Hd)(h1:yX a b=aw)(h2:yX b c=aw):yX a c=aw:=by rw[Dl]at*;omega
def IT (a b:Hd):(yX a b||yX b a)=aw:=by rw[gi,Dl,Dl];omega
def zH {a b:Hd}(h1:yX a b=aw)(h2:yX b a=aw):a=b:=by rw[Dl]at*;exact Prod.ext (by omega) (by omega)
def BG {l l':List Hd}(hp:l.Perm l')(h:l.Pairwise λa b=>yX a b=aw)(h':l'.Pairwise λa b=>yX a b=aw):l=l':=List.Perm.eq_of_pairwise (λ_ _ _ _ h1 h2=>zH h1 h2) h h' hp
def nK (l:List Hd):(l.mergeSort yX).Pairwise λa b=>yX a b=aw:=List.pairwise_mergeSort IU IT l
def BE {l l':List Hd}(hp:l.Perm l'):l.mergeSort yX=l'.mergeSort yX:=BG ((gG l _).trans (hp.trans (gG l' _).symm)) (nK l) (nK l')
def wS {l l':List Hd}(hp:l'.Perm l)(h:l'.Pairwise λa b=>yX a b=aw):l'=l.mergeSort yX:=BG (hp.trans (gG l _).symm) h (nK l)
def Wy {α:Type}(key:α->Hd)(a b:α):Bool:=yX (key a) (key b)
def nW {α:Type}(key:α->Hd)(l:List α):(l.mergeSort (Wy key)).Pairwise λa b=>Wy key a b=aw:=List.pairwise_mergeSort (λa b c=>IU (key a) (key b) (key c)) (λa b=>IT (key a) (key b)) l
def lh {α:Type}(key:α->Hd){l l':List α}(hn: ∀a∈l,∀b∈l,key a=key b->a=b)(hp:l'.Perm l)(h:l'.Pairwise λa b=>Wy key a b=aw):l'=l.mergeSort (Wy key):=List.Perm.eq_of_pairwise (λa b ha hb h1 h2=>hn a (hp.subset ha) b ((gG l _).subset hb) (zH h1 h2)) h (nW key l) (hp.trans (gG l _).symm)
def jy (m:kN)(h:Hd):List Hd:=(m.filter λb=>decide (b.2=h)).map (·.1)
def kids (m:kN)(h:Hd):List Hd:=(jy m h).mergeSort yX
section
variable {m m':kN} {rk:Hd->Nat} {R:Nat} {a b c h p q x y:Hd}
def lX (hn:(aW m).Nodup):x∈kids m h↔dY m x=ae h:=by
 unfold kids jy;rw[List.mem_mergeSort,aH,nY hn];constructor
 ·rintro⟨b,hb,rfl⟩;rw[cm,decide_eq_true_eq]at hb;rw[<-hb.2];exact hb.1
 ·intro hm;exact⟨(x,h),cm.2 ⟨hm,by simp⟩,rfl⟩
def yC (hn:(aW m).Nodup)(h:Hd):(kids m h).Nodup:=(gG _ _).nodup_iff.2 (hn.sublist (List.filter_sublist.map _))
def Y0 (m:kN)(h:Hd):(kids m h).length<=m.length:=by unfold kids jy;rw[List.length_mergeSort,aL];exact jA _ _
def yR (m:kN):Nat->Hd->List Hd
 |0,_=>[]
 |n+1,h=>(kids m h).flatMap λc=>c::yR m n c
def qu {α β:Type}{f g:α->List β}: ∀{l:List α},(∀x∈l,f x=g x)->l.flatMap f=l.flatMap g
 | [],_=>rfl
 |a::l,h=>by rw[bN,bN,h a List.mem_cons_self,qu λx hx=>h x (mg _ hx)]
def ym (hn:(aW m).Nodup)(hr:AB m rk R): ∀(n n':Nat) (h:Hd),R-rk h<n->R-rk h<n'->yR m n h=yR m n' h
 |0,_,_,h1,_=>by omega
 |_,0,_,_,h2=>by omega
 |n+1,n'+1,h,h1,h2=>by
  unfold yR;refine qu λc hc=> ?_
  have:=hr _ _ ((lX hn).1 hc);rw[ym hn hr n n' c (by omega) (by omega)]
open Classical in
noncomputable def Kc (m:kN):Nat:=if h:pO m then(sY (Classical.choose_spec h))+1 else 0
noncomputable def under (m:kN)(h:Hd):List Hd:=yR m (Kc m) h
def Ke (ha:pO m): ∃rk R,AB m rk R/\Kc m=R+1:=by refine⟨sY ha,sY (Classical.choose_spec ha),Classical.choose_spec (Classical.choose_spec ha),?_⟩;unfold Kc;rw[dif_pos ha]
def VB (hn:(aW m).Nodup)(ha:pO m): ∃rk R,AB m rk R/\ ∀n h,R-rk h<n->yR m n h=under m h:=by obtain⟨rk,R,hr,hd⟩:=Ke ha;refine⟨rk,R,hr,λn h bJ=> ?_⟩;unfold under;rw[hd];exact ym hn hr _ _ h bJ (by omega)
def wW (hn:(aW m).Nodup)(ha:pO m)(h:Hd):under m h=(kids m h).flatMap λc=>c::under m c:=by
 obtain⟨rk,R,hr,hu⟩:=VB hn ha;rw[<-hu (R-rk h+1) h (by omega)]
 conv=>lhs;unfold yR
 refine qu λc hc=> ?_
 have:=hr _ _ ((lX hn).1 hc);rw[hu (R-rk h) c (by omega)]
def va (hn:(aW m).Nodup)(ha:pO m)(P:Hd->Prop)(step: ∀h,(∀c,dY m c=ae h->P c)->P h)(h:Hd):P h:=by
 obtain⟨rk,R,hr⟩:=ha;generalize hk:R-rk h=k
 induction k using mQ generalizing h with
 |_ k ih=>
  refine step h λc hc=> ?_
  have:=hr _ _ hc;exact ih (R-rk c) (by omega) c rfl
def Be (hn:(aW m).Nodup)(ha:pO m):x∈under m h↔Up m x h:=by
 refine va hn ha (λh=>x∈under m h↔Up m x h) (λh ih=> ?_) h;rw[wW hn ha,List.mem_flatMap];constructor
 ·rintro⟨c,hc,hx⟩;have hm:=(lX hn).1 hc;rcases cj.1 hx with rfl|hx
  ·exact .one hm
  ·exact((ih c hm).1 hx).trans (.one hm)
 ·intro hu;have: ∃c,dY m c=ae h/\(x=c\/Up m x c):=by
   clear ih
   induction hu with
   |one hm=>exact⟨_,hm,bm rfl⟩
   |more hm _ ih=>
    obtain⟨c,h1,h2|h2⟩:=ih
    ·exact⟨c,h1,bO (h2▸ .one hm)⟩
    ·exact⟨c,h1,bO (.more hm h2)⟩
  obtain⟨c,hm,hx⟩:=this;refine⟨c,(lX hn).2 hm,?_⟩;rcases hx with rfl|hx
  ·exact List.mem_cons_self
  ·exact mg _ ((ih c hm).2 hx)
def yc {α β:Type}{f:α->List β}: ∀{l:List α},l.Nodup->(∀x∈l,(f x).Nodup)->(∀x∈l,∀y∈l,x≠y-> ∀z,z∈f x->z∈f y->False)->(l.flatMap f).Nodup
 | [],_,_,_=>by simp
 |a::l,hn,h1,h2=>by obtain⟨ha,hl⟩:=List.nodup_cons.1 hn;rw[bN,List.nodup_append];refine⟨h1 a List.mem_cons_self,yc hl (λx hx=>h1 x (mg _ hx)) (λx hx y hy=>h2 x (mg _ hx) y (mg _ hy)),?_⟩;intro z hz z' hz' e;subst e;obtain⟨y,hy,hzy⟩:=List.mem_flatMap.1 hz';exact h2 a List.mem_cons_self y (mg _ hy) (λe=>ha (e▸hy)) z hz hzy
def O1 (hn:(aW m).Nodup)(ha:pO m)(h:Hd):(under m h).Nodup:=by
 refine va hn ha (λh=>(under m h).Nodup) (λh ih=> ?_) h;rw[wW hn ha];have key: ∀x z,z∈x::under m x->z=x\/Up m z x:=λx z hz=>by
  rcases cj.1 hz with e|e
  ·exact bm e
  ·exact bO ((Be hn ha).1 e)
 refine yc (yC hn h) (λc hc=> ?_) (λx hx y hy eb z h1 h2=> ?_)
 ·rw[List.nodup_cons];exact⟨λe=>Up.irrefl ha ((Be hn ha).1 e),ih c ((lX hn).1 hc)⟩
 ·have mx:=(lX hn).1 hx;have my:=(lX hn).1 hy;have apart: ∀u v:Hd,dY m u=ae h->dY m v=ae h-> ¬Up m u v:=λu v hu hv e=>by
   cases e with
   |one e=>rw[hu]at e;cases be e;exact Up.irrefl ha (.one hv)
   |more e e2=>rw[hu]at e;cases be e;exact Up.irrefl ha ((Up.one hv).trans e2)
  rcases key x z h1 with e1|e1<;>rcases key y z h2 with e2|e2
  ·exact eb (e1.symm.trans e2)
  ·rw[e1]at e2;exact apart x y mx my e2
  ·rw[e2]at e1;exact apart y x my mx e1
  ·rcases e1.linear e2 with e|e|e
   ·exact eb e
   ·exact apart x y mx my e
   ·exact apart y x my mx e
def BL (hn:(aW m).Nodup)(ha:pO m)(h:Hd):(under m h).length<=m.length:=by
 have:=wG (O1 hn ha h) (l':=aW m) λx hx=>by
  have hu:=(Be hn ha).1 hx;cases hu with
  |one h=>exact aH.2 ⟨_,rJ h,rfl⟩
  |more h _=>exact aH.2 ⟨_,rJ h,rfl⟩
 simpa[aW]using this
end
open Classical in
noncomputable def ik (m:kN)(c p:Hd):kN×Int:=if c=p\/Up m p c then(m,8)else(hZ m c p,0)
def fT (m:kN)(c:Hd):kN×Int:=if(dY m c).isSome then(dZ m c,0)else(m,5)
def o5 (m:kN)(h:Hd):kN:=m.filter λb=> !(decide (b.1=h)||decide (b.2=h))
def dU (m:kN):List (Hd×Hd):=m.mergeSort (Wy (·.1))
structure kg (m:kN):Prop where
 nodup:(aW m).Nodup
 yq:pO m
section
variable {m:kN} {c h p x y:Hd}
def kg.nil:kg []:=⟨List.nodup_nil,pO.nil⟩
def kg.zd (hm:kg m)(c p:Hd):kg (ik m c p).1:=by
 unfold ik
 split
 ·exact hm
 ·rename_i h
  exact⟨yG hm.nodup _ _,hm.yq.put (λe=>h (bm e)) λe=>h (bO e)⟩
def kg.loosen (hm:kg m)(c:Hd):kg (fT m c).1:=by
 unfold fT
 split
 ·exact⟨lW hm.nodup _,hm.yq.del c⟩
 ·exact hm
def yx (hn:(aW m).Nodup)(h:Hd):(aW (o5 m h)).Nodup:=hn.sublist (List.filter_sublist.map _)
def UG (hn:(aW m).Nodup)(h:Hd):dY (o5 m h) x=ae y↔dY m x=ae y/\x≠h/\y≠h:=by rw[nY (yx hn h),nY hn];unfold o5;rw[cm];simp
def kg.gone (hm:kg m)(h:Hd):kg (o5 m h):=⟨yx hm.nodup h,hm.yq.sub λ_ _ e=>((UG hm.nodup h).1 e).1⟩
def qV (hn:(aW m).Nodup): ∀a∈m,∀b∈m,a.1=b.1->a=b:=λa ha b hb e=>by have h1:=nI hn (x:=a.1) (v:=a.2) ha;have h2:=nI hn (x:=b.1) (v:=b.2) hb;rw[e,h2]at h1;exact Prod.ext e (be h1).symm
def UC {b:Hd×Hd}(hn:(aW m).Nodup):b∈dU m↔dY m b.1=ae b.2:=by unfold dU;rw[List.mem_mergeSort,nY hn]
def Ik (m:kN):(dU m).length=m.length:=by unfold dU;rw[List.length_mergeSort]
def D5 (hn:(aW m).Nodup)(h:Hd):dU (o5 m h)=(dU m).filter λb=> !(decide (b.1=h)||decide (b.2=h)):=by have hp:((dU m).filter λb=> !(decide (b.1=h)||decide (b.2=h))).Perm (o5 m h):=(gG m _).filter _;exact(lh (·.1) (qV (yx hn h)) hp ((nW (·.1) m).sublist List.filter_sublist)).symm
end
section
open Go.RowKit
def kinds (m:Nat):List Nat:=(bP 8).filter λk=>m.testBit k
def tz8 (b:Nat):Nat:=(kinds b).headD 8
def low (b:Nat):Nat:=b &&& (b-1)
def Qw: ∀b:Nat,b<256->b≠0->kinds b=tz8 b::kinds (low b)/\low b<b:=by
 have h: ∀b:Fin 256,b.val≠0->kinds b.val=tz8 b.val::kinds (low b.val)/\low b.val<b.val:=by decide+kernel
 exact λb hb=>h ⟨b,hb⟩
def Qx:kinds 0=[]:=by decide
def qF (m:Nat):(kinds m).length<=8:=by have:=jA (λk=>m.testBit k) (bP 8);simpa[kinds]using this
def jN (m k:Nat):k∈kinds m↔k<8/\m.testBit k=aw:=by simp[kinds]
def sk (m:Nat):(kinds m).Nodup:=List.nodup_range.sublist List.filter_sublist
def J1: ∀(m k:Nat),m<256->k<8->bits .and .i64 ((m:Int) / 2^k) 1=if m.testBit k then 1 else 0:=by
 have h: ∀(m:Fin 256) (k:Fin 8),bits .and .i64 ((m.val:Int) / 2^k.val) 1=if m.val.testBit k.val then 1 else 0:=by decide+kernel
 exact λm k hm hk=>h ⟨m,hm⟩ ⟨k,hk⟩
def aeC: ∀(m k:Nat),m<256->k<8->bits .or .i64 (m:Int) (wrap64 (2^k))=((m ||| 2^k:Nat):Int):=by
 have h: ∀(m:Fin 256) (k:Fin 8),bits .or .i64 (m.val:Int) (wrap64 (2^k.val))=((m.val ||| 2^k.val:Nat):Int):=by decide+kernel
 exact λm k hm hk=>h ⟨m,hm⟩ ⟨k,hk⟩
end
namespace Rel
open Go.Conc Go.ConcN
structure kN where
 own:Nat->Loc->Prop
 fr:Loc->Prop
 rd:Loc->Prop
 mine:Loc->Prop
 sh:Loc->Prop
structure kN.Apart (F:kN):Prop where
 own: ∀k k' l,F.own k l->F.own k' l->k=k'
 adb: ∀k l,F.own k l-> ¬F.fr l
 ownRd: ∀k l,F.own k l-> ¬F.rd l
 SY: ∀k l,F.own k l-> ¬F.mine l
 ownSh: ∀k l,F.own k l-> ¬F.sh l
 adV: ∀l,F.fr l-> ¬F.rd l
 adU: ∀l,F.fr l-> ¬F.mine l
 adW: ∀l,F.fr l-> ¬F.sh l
 ZH: ∀l,F.rd l-> ¬F.mine l
 rdSh: ∀l,F.rd l-> ¬F.sh l
 Ze: ∀l,F.mine l-> ¬F.sh l
structure ET (F:kN) (lo hi:Nat) (t:Trace):Prop where
 nr: ∀said,¬Race said t
 quiet:Quiet F.sh t
 own: ∀k,lo<=k->k<hi-> ∀l,F.own k l->Perm t k l
 fr0: ∀l,F.fr l->Perm t 0 l
 fr: ∀k,lo<=k->k<hi-> ∀l,F.fr l->Perm t k l
 rd0: ∀l,F.rd l->PermW t 0 l
 rd: ∀k,lo<=k->k<hi-> ∀l,F.rd l->PermW t k l
 mine: ∀l,F.mine l->Perm t 0 l
 gs: ∀(i:Nat) (op:MemOp),t[i]? =ae op->op.g<hi
def OkK (F:kN)(k:Nat)(op:MemOp):Prop:=op.g=k/\ ∀x,op.act.touch? =ae x->(F.sh x.loc/\x.kind≠ .plain/\x.kind≠ .said)\/F.own k x.loc\/(F.rd x.loc/\x.write=ay)
def OkM (F:kN)(op:MemOp):Prop:=op.g=0/\ ∀x,op.act.touch? =ae x->(F.sh x.loc/\x.kind≠ .plain)\/F.mine x.loc\/(F.rd x.loc/\x.write=ay)
section
variable {F:kN} {lo hi:Nat} {t u:Trace}
def ET.adF (A:F.Apart)(h:ET F lo hi t){k:Nat}(k1:lo<=k)(kj:k<hi)(hu: ∀op∈u,OkK F k op):ET F lo hi (t++u):=by
 have hg: ∀op∈u,op.g=k:=λop hop=>(hu op hop).1
 refine⟨λsaid=> ?_,h.quiet.app λop hop x hx hs=> ?_,λk' a b l hl=>(h.own k' a b l hl).app λop hop x hx e=> ?_,λl hl=>(h.fr0 l hl).app λop hop x hx e=> ?_,λk' a b l hl=>(h.fr k' a b l hl).app λop hop x hx e=> ?_,λl hl=>(h.rd0 l hl).app λop hop x hx e hw=> ?_,λk' a b l hl=>(h.rd k' a b l hl).app λop hop x hx e hw=> ?_,λl hl=>(h.mine l hl).app λop hop x hx e=> ?_,λi op gK=> ?_⟩
 ·refine noRace_append (h.nr said) hg (λi a ha op hop b hb hc=> ?_);rcases(hu op hop).2 b hb with⟨hs,hk,hn⟩|ho|⟨hr,hbw⟩
  ·exact h.quiet.known hs hk (λe=>absurd e hn) i a ha hc
  ·exact h.own k k1 kj b.loc ho i a ha hc.1
  ·exact h.rd k k1 kj b.loc hr i a ha hc.1 (hc.2.2.1.resolve_right (by simp[hbw]))
 ·rcases(hu op hop).2 x hx with⟨_,hk,hn⟩|ho|⟨hr,_⟩
  ·exact⟨hk,λe=>absurd e hn⟩
  ·exact absurd hs (A.ownSh k _ ho)
  ·exact absurd hs (A.rdSh _ hr)
 ·rcases(hu op hop).2 x hx with⟨hs,_⟩|ho|⟨hr,_⟩
  ·exact absurd (e▸hs) (A.ownSh k' l hl)
  ·rw[hg op hop];exact A.own k k' l (e▸ho) hl
  ·exact absurd (e▸hr) (A.ownRd k' l hl)
 ·rcases(hu op hop).2 x hx with⟨hs,_⟩|ho|⟨hr,_⟩
  ·exact absurd (e▸hs) (A.adW l hl)
  ·exact absurd hl (A.adb k l (e▸ho))
  ·exact absurd (e▸hr) (A.adV l hl)
 ·rcases(hu op hop).2 x hx with⟨hs,_⟩|ho|⟨hr,_⟩
  ·exact absurd (e▸hs) (A.adW l hl)
  ·exact absurd hl (A.adb k l (e▸ho))
  ·exact absurd (e▸hr) (A.adV l hl)
 ·rcases(hu op hop).2 x hx with⟨hs,_⟩|ho|⟨_,hr⟩
  ·exact absurd (e▸hs) (A.rdSh l hl)
  ·exact absurd hl (A.ownRd k l (e▸ho))
  ·rw[hr]at hw;cases hw
 ·rcases(hu op hop).2 x hx with⟨hs,_⟩|ho|⟨_,hr⟩
  ·exact absurd (e▸hs) (A.rdSh l hl)
  ·exact absurd hl (A.ownRd k l (e▸ho))
  ·rw[hr]at hw;cases hw
 ·rcases(hu op hop).2 x hx with⟨hs,_⟩|ho|⟨hr,_⟩
  ·exact absurd (e▸hs) (A.Ze l hl)
  ·exact absurd hl (A.SY k l (e▸ho))
  ·exact absurd hl (A.ZH l (e▸hr))
 ·rcases getElem?_append_cases gK with⟨_,gK⟩|⟨_,Wn⟩
  ·exact h.gs i op gK
  ·rw[hg op Wn];exact kj
def ET.afF (A:F.Apart)(h0:0<lo)(LR:lo<=hi)(h:ET F lo hi t)(hu: ∀op∈u,OkM F op):ET F lo hi (t++u):=by
 have hg: ∀op∈u,op.g=0:=λop hop=>(hu op hop).1
 refine⟨λsaid=> ?_,h.quiet.app λop hop x hx hs=> ?_,λk' a b l hl=>(h.own k' a b l hl).app λop hop x hx e=> ?_,λl hl=>(h.fr0 l hl).app λop hop x hx e=>hg op hop,λk' a b l hl=>(h.fr k' a b l hl).app λop hop x hx e=> ?_,λl hl=>(h.rd0 l hl).app λop hop x hx e hw=>hg op hop,λk' a b l hl=>(h.rd k' a b l hl).app λop hop x hx e hw=> ?_,λl hl=>(h.mine l hl).app λop hop x hx e=>hg op hop,λi op gK=> ?_⟩
 ·refine noRace_append (h.nr said) hg (λi a ha op hop b hb hc=> ?_);rcases(hu op hop).2 b hb with⟨hs,hk⟩|ho|⟨hr,hbw⟩
  ·exact h.quiet.known hs hk (λ_=>rfl) i a ha hc
  ·exact h.mine b.loc ho i a ha hc.1
  ·exact h.rd0 b.loc hr i a ha hc.1 (hc.2.2.1.resolve_right (by simp[hbw]))
 ·rcases(hu op hop).2 x hx with⟨_,hk⟩|ho|⟨hr,_⟩
  ·exact⟨hk,λ_=>hg op hop⟩
  ·exact absurd hs (A.Ze _ ho)
  ·exact absurd hs (A.rdSh _ hr)
 ·rcases(hu op hop).2 x hx with⟨hs,_⟩|ho|⟨hr,_⟩
  ·exact absurd (e▸hs) (A.ownSh k' l hl)
  ·exact absurd (e▸ho) (A.SY k' l hl)
  ·exact absurd (e▸hr) (A.ownRd k' l hl)
 ·rcases(hu op hop).2 x hx with⟨hs,_⟩|ho|⟨hr,_⟩
  ·exact absurd (e▸hs) (A.adW l hl)
  ·exact absurd (e▸ho) (A.adU l hl)
  ·exact absurd (e▸hr) (A.adV l hl)
 ·rcases(hu op hop).2 x hx with⟨hs,_⟩|ho|⟨_,hr⟩
  ·exact absurd (e▸hs) (A.rdSh l hl)
  ·exact absurd (e▸ho) (A.ZH l hl)
  ·rw[hr]at hw;cases hw
 ·rcases getElem?_append_cases gK with⟨_,gK⟩|⟨_,Wn⟩
  ·exact h.gs i op gK
  ·rw[hg op Wn];omega
def ET.mute (h:ET F lo hi t){g:Nat}(hgh:g<hi)(hg: ∀op∈u,op.g=g)(hn: ∀op∈u,op.act.touch? =ai):ET F lo hi (t++u):=by
 have no: ∀{P:Prop},∀op∈u,∀x,op.act.touch? =ae x->P:=λop hop x hx=>by rw[hn op hop]at hx;cases hx
 refine⟨λsaid=>noRace_append (h.nr said) hg (λi a ha op hop b hb hc=>no op hop b hb),h.quiet.app λop hop x hx hs=>no op hop x hx,λk' a b l hl=>(h.own k' a b l hl).app λop hop x hx e=>no op hop x hx,λl hl=>(h.fr0 l hl).app λop hop x hx e=>no op hop x hx,λk' a b l hl=>(h.fr k' a b l hl).app λop hop x hx e=>no op hop x hx,λl hl=>(h.rd0 l hl).app λop hop x hx e hw=>no op hop x hx,λk' a b l hl=>(h.rd k' a b l hl).app λop hop x hx e hw=>no op hop x hx,λl hl=>(h.mine l hl).app λop hop x hx e=>no op hop x hx,λi op gK=> ?_⟩;rcases getElem?_append_cases gK with⟨_,gK⟩|⟨_,Wn⟩
 ·exact h.gs i op gK
 ·rw[hg op Wn];exact hgh
def ta (t:Trace)(l:Loc):Prop:= ∀i a,touchAt t i=ae a->a.loc≠l
def ta.perm {l:Loc}(h:ta t l)(g:Nat):Perm t g l:=λi a ha e=>absurd e (h i a ha)
def ET.yw {F':kN}(h:ET F lo hi t)(hsh:F'.sh=F.sh)(jg: ∀k,lo<=k->k<hi-> ∀l,F'.own k l->F.own k l\/F.fr l\/ta t l)(oi: ∀l,F'.fr l->F.fr l)(Qf: ∀l,F'.rd l->F.rd l)(hm: ∀l,F'.mine l->F.mine l\/ta t l):ET F' lo hi t:=by
 refine⟨h.nr,by rw[hsh];exact h.quiet,λk a b l hl=> ?_,λl hl=>h.fr0 l (oi l hl),λk a b l hl=>h.fr k a b l (oi l hl),λl hl=>h.rd0 l (Qf l hl),λk a b l hl=>h.rd k a b l (Qf l hl),λl hl=> ?_,h.gs⟩
 ·rcases jg k a b l hl with x|x|x
  ·exact h.own k a b l x
  ·exact h.fr k a b l x
  ·exact x.perm k
 ·exact(hm l hl).elim (h.mine l) λx=>x.perm 0
def ET.fork (LR:lo<=hi)(h:ET F lo hi t){F':kN}(hsh:F'.sh=F.sh)(jg: ∀k,lo<=k->k<hi-> ∀l,F'.own k l->F.own k l)(Qb: ∀l,F'.own hi l->F.mine l)(oi: ∀l,F'.fr l->F.fr l)(Qf: ∀l,F'.rd l->F.rd l)(hm: ∀l,F'.mine l->F.mine l)(hhi:0<hi){x y:MemOp}(hx:x.g=0/\x.act=.go hi)(hy:y.g=hi/\y.act=.start)(h0:Deaf t 0=0):ET F' lo (hi+1) (t++ #[x,y]):=by
 have hk:Deaf t hi=0:=Deaf_absent λi op hi e=>by have:=h.gs i op hi;omega
 have yZ: ∀op∈ #[x,y],∀b,op.act.touch? =ae b->False:=by
  intro op hop b hb;simp only[qi,cj,jH,or_false]at hop;rcases hop with rfl|rfl
  ·rw[hx.2]at hb;cases hb
  ·rw[hy.2]at hb;cases hb
 have old: ∀{i:Nat} {a:Touch},touchAt (t++ #[x,y]) i=ae a->touchAt t i=ae a:=by
  intro i a ha;obtain⟨z,hz,hza⟩:=touch_of ha;rcases getElem?_append_cases hz with⟨_,hz'⟩|⟨_,hzu⟩
  ·rw[touchAt_of hz'];exact hza
  ·exact(yZ z hzu a hza).elim
 have ap: ∀{g:Nat} {l:Loc},Perm t g l->Perm (t++ #[x,y]) g l:=λhp=>hp.app λop hop b hb _=>(yZ op hop b hb).elim
 have apw: ∀{g:Nat} {l:Loc},PermW t g l->PermW (t++ #[x,y]) g l:=λhp=>hp.app λop hop b hb _ _=>(yZ op hop b hb).elim
 have ch: ∀{l:Loc},Perm t 0 l->Perm (t++ #[x,y]) hi l:=λhp i a ha e=>fork_knows hx hy h0 hk (hp i a (old ha) e)
 have chw: ∀{l:Loc},PermW t 0 l->PermW (t++ #[x,y]) hi l:=λhp i a ha e hw=>fork_knows hx hy h0 hk (hp i a (old ha) e hw)
 refine⟨λsaid=> ?_,by rw[hsh];exact h.quiet.app λop hop b hb _=>(yZ op hop b hb).elim,λk a b l hl=> ?_,λl hl=>ap (h.fr0 l (oi l hl)),λk a b l hl=> ?_,λl hl=>apw (h.rd0 l (Qf l hl)),λk a b l hl=> ?_,λl hl=>ap (h.mine l (hm l hl)),λi op gK=> ?_⟩
 ·have e:t++ #[x,y]=(t++ #[x])++ #[y]:=by apply oz;simp
  rw[e];refine noRace_append (g:=hi) (noRace_append (g:=0) (h.nr said) (λop hop=>by simp at hop;rw[hop];exact hx.1) (λi a _ op hop b hb _=>(yZ op (by simp at hop|-;exact .inl hop) b hb).elim)) (λop hop=>by simp at hop;rw[hop];exact hy.1) (λi a _ op hop b hb _=>(yZ op (by simp at hop|-;exact .inr hop) b hb).elim)
 ·rcases ec k hi with bJ|wq
  ·exact ap (h.own k a bJ l (jg k a bJ l hl))
  ·obtain rfl:k=hi:=by omega
   exact ch (h.mine l (Qb l hl))
 ·rcases ec k hi with bJ|wq
  ·exact ap (h.fr k a bJ l (oi l hl))
  ·obtain rfl:k=hi:=by omega
   exact ch (h.fr0 l (oi l hl))
 ·rcases ec k hi with bJ|wq
  ·exact apw (h.rd k a bJ l (Qf l hl))
  ·obtain rfl:k=hi:=by omega
   exact chw (h.rd0 l (Qf l hl))
 ·rcases getElem?_append_cases gK with⟨_,gK⟩|⟨_,Wn⟩
  ·exact Nat.lt_succ_of_lt (h.gs i op gK)
  ·simp only[qi,cj,jH,or_false]at Wn;rcases Wn with rfl|rfl
   ·rw[hx.1];omega
   ·rw[hy.1];omega
end
end Rel
namespace Rel
abbrev Ren:=Nat->Nat->Prop
structure Ren.Ok (P:aS) (π:Ren):Prop where
 fn: ∀a b c,π a b->π a c->b=c
 inj: ∀a b c,π a c->π b c->a=b
 X5: ∀a b,π a b->(a<P.globals.size↔b<P.globals.size)
structure jK where
 fn:bK->Prop
 code:Code->Prop
 X5:Nat->Prop
 mem:Addr->Option Int:=λ_=>ai
 ext:bK->Prop:=λ_=>False
instance:CoeFun jK λ_=>bK->Prop:=⟨jK.fn⟩
structure Ext (P:aS) (π bQ:Ren):Prop where
 le: ∀a b,π a b->bQ a b
 ok:Ren.Ok P bQ
def Ext.refl {P:aS}{π:Ren}(h:Ren.Ok P π):Ext P π π:=⟨λ_ _ x=>x,h⟩
def Ext.trans {P:aS}{a b c:Ren}(h:Ext P a b)(k:Ext P b c):Ext P a c:=⟨λ_ _ x=>k.le _ _ (h.le _ _ x),k.ok⟩
inductive gN {α β:Type} (R:α->β->Prop):Option α->Option β->Prop
 |none:gN R ai ai
 |some {a b}:R a b->gN R (ae a) (ae b)
def gN.mono {α β:Type}{R R':α->β->Prop}(h: ∀a b,R a b->R' a b): ∀{x y},gN R x y->gN R' x y
 |_,_,.none=>.none
 |_,_,.some x=>.some (h _ _ x)
structure je {α β:Type} (R:α->β->Prop) (x:Array α) (y:Array β):Prop where
 size:x.size=y.size
 at_: ∀(i:Nat) a b,x[i]? =ae a->y[i]? =ae b->R a b
inductive du {α β:Type} (R:α->β->Prop):List α->List β->Prop
 |nil:du R [] []
 |cons {a b l m}:R a b->du R l m->du R (a::l) (b::m)
structure dM (π:Ren) (a b:Addr):Prop where
 block:π a.block b.block
 off:b.off=a.off
 spot:b.spot=a.spot
inductive V0 (S:jK) (π:Ren):Fn->Fn->Prop
 |func {f}:S f->V0 S π (.func f) (.func f)
 |yield {l m}:π l m->V0 S π (.yield l) (.yield m)
inductive bx (S:jK) (π:Ren):ao->ao->Prop
 |bool (b):bx S π (.bool b) (.bool b)
 |int (k n):bx S π (.int k n) (.int k n)
 |string (s):bx S π (.string s) (.string s)
 |fR:bx S π (.pointer ai) (.pointer ai)
 |pointer {a b}:dM π a b->bx S π (.pointer (ae a)) (.pointer (ae b))
 |kE (l c):bx S π (.slice ai l c) (.slice ai l c)
 |slice {a b} (l c):dM π a b->bx S π (.slice (ae a) l c) (.slice (ae b) l c)
 |yD:bx S π (.map ai) (.map ai)
 |map {a b}:π a b->bx S π (.map (ae a)) (.map (ae b))
 |vW:bx S π (.chan ai) (.chan ai)
 |func {f g:Fn} {x x' y y':Array ao}:V0 S π f g->x.size=x'.size->(∀(i:Nat) a b,x[i]? =ae a->x'[i]? =ae b->bx S π a b)->y.size=y'.size->(∀(i:Nat) a b,y[i]? =ae a->y'[i]? =ae b->bx S π a b)->bx S π (.func f x y) (.func g x' y')
 |nilFunc:bx S π .nilFunc .nilFunc
 |iface (t) {v v'}:bx S π v v'->bx S π (.iface t v) (.iface t v')
 |nilIface:bx S π .nilIface .nilIface
 |agg {x x':Array ao}:x.size=x'.size->(∀(i:Nat) a b,x[i]? =ae a->x'[i]? =ae b->bx S π a b)->bx S π (.agg x) (.agg x')
 |tuple {x x':Array ao}:x.size=x'.size->(∀(i:Nat) a b,x[i]? =ae a->x'[i]? =ae b->bx S π a b)->bx S π (.tuple x) (.tuple x')
abbrev cR (S:jK)(π:Ren):Array ao->Array ao->Prop:=je (bx S π)
def dM.mono {P:aS}{π bQ:Ren}(h:Ext P π bQ){a b:Addr}(x:dM π a b):dM bQ a b:=⟨h.le _ _ x.block,x.off,x.spot⟩
def V0.mono {P:aS}{S:jK}{π bQ:Ren}(h:Ext P π bQ): ∀{a b:Fn},V0 S π a b->V0 S bQ a b
 |_,_,.func s=>.func s
 |_,_,.yield x=>.yield (h.le _ _ x)
def bx.mono {P:aS}{S:jK}{π bQ:Ren}(h:Ext P π bQ){v v':ao}(x:bx S π v v'):bx S bQ v v':=by
 induction x with
 |bool=>exact .bool _
 |int=>exact .int _ _
 |string=>exact .string _
 |fR=>exact .fR
 |pointer x=>exact .pointer (x.mono h)
 |kE=>exact .kE _ _
 |slice l c x=>exact .slice _ _ (x.mono h)
 |yD=>exact .yD
 |map x=>exact .map (h.le _ _ x)
 |vW=>exact .vW
 |func f s1 _ s2 _ i1 i2=>exact .func (f.mono h) s1 i1 s2 i2
 |nilFunc=>exact .nilFunc
 |iface t _ i=>exact .iface _ i
 |nilIface=>exact .nilIface
 |agg s _ i=>exact .agg s i
 |tuple s _ i=>exact .tuple s i
structure pP (S:jK) (π:Ren) (e e':MapEntry):Prop where
 key:bx S π e.key e'.key
 val:bx S π e.val e'.val
 born:e'.born=e.born
structure BV (S:jK) (π:Ren) (a b:Loop):Prop where
 state:b.state=a.state
 pending:b.pending=a.pending
 okP: ∀c,a.pending=ae c->S.code c
 fn:b.fn=a.fn
 tmps:cR S π a.tmps b.tmps
 params:b.params=a.params
 assign:b.assign=a.assign
 okA:S.code a.assign
 body:b.body=a.body
 okB:S.code a.body
 defers:π a.defers b.defers
inductive kV (S:jK) (π:Ren):Obj->Obj->Prop
 |loop {a b:Loop}:BV S π a b->kV S π (.loop a) (.loop b)
 |number {a b:Addr} (lost:Bool):dM π a b->kV S π (.number a lost) (.number b lost)
 |deferred (b:Bool):kV S π (.deferred (if b then ae []else ai)) (.deferred (if b then ae []else ai))
 |cells {c c'} (t fr):cR S π c c'->kV S π (.cells c t fr) (.cells c' t fr)
 |map {e e'} (k):je (pP S π) e e'->kV S π (.map e k) (.map e' k)
 |stringIter (s p):kV S π (.stringIter s p) (.stringIter s p)
 |mapIter {m m'} (since seen nf):gN π m m'->kV S π (.mapIter m since seen nf) (.mapIter m' since seen nf)
def _root_.Go.Halt.lost:Halt->Bool
 | .panic _| .stuck _=>aw
 | .unsupported (.initOrder _)=>ay
 | .unsupported _=>aw
 |_=>ay
def aC (P:aS)(S:jK){α β:Type}(Q:Ren->α->β->Prop):Sem α->Ren->Sem β->Prop
 | .pure a,π,s'=> ∃b,s'=.pure b/\Q π a b
 | .load m a k,π,s'=>m=.plain/\ ∃a' k',s'=.load .plain a' k'/\((dM π a a'/\ ∀v v',bx S π v v'->aC P S Q (k v) π (k' v'))\/(a'=a/\ ∃x,S.mem a=ae x/\aC P S Q (k (.int .i64 x)) π (k' (.int .i64 x))))
 | .store m a v k,π,s'=>m=.plain/\ ∃a' v' k',s'=.store .plain a' v' k'/\dM π a a'/\bx S π v v'/\aC P S Q k π k'
 | .new o k,π,s'=>(∃o' k',s'=.new o' k'/\kV S π o o'/\ ∀bQ r r',Ext P π bQ->bQ r r'->aC P S Q (k r) bQ (k' r'))\/ ∀r,∃h,k r=.halt h/\h.lost=aw
 | .shape r k,π,s'=> ∃r' k',s'=.shape r' k'/\π r r'/\ ∀x,aC P S Q (k x) π (k' x)
 | .freeze _ _ _,_,_=>False
 | .frozen a k,π,s'=> ∃a' k',s'=.frozen a' k'/\dM π a a'/\ ∀x,aC P S Q (k x) π (k' x)
 | .getObj r k,π,s'=> ∃r' k',s'=.getObj r' k'/\π r r'/\ ∀o o',kV S π o o'->aC P S Q (k o) π (k' o')
 | .setObj r o k,π,s'=> ∃r' o' k',s'=.setObj r' o' k'/\π r r'/\kV S π o o'/\aC P S Q k π k'
 | .choose q k,π,s'=> ∃k',s'=.choose q k'/\ ∀n,aC P S Q (k n) π (k' n)
 | .sys _ _,_,_=>False
 | .program k,π,s'=> ∃k',s'=.program k'/\aC P S Q (k P) π (k' P)
 | .mark m k,π,s'=>(m=.noRoom\/ ∃f,m=.extern f/\S.ext f)/\ ∃k',s'=.mark m k'/\aC P S Q k π k'
 | .halt h,_,_=>h.lost=aw
section
variable {P:aS} {S:jK}
def aC.bind {α β γ δ:Type}{Q:Ren->α->β->Prop}{Q':Ren->γ->δ->Prop}{k:α->Sem γ}{k':β->Sem δ}: ∀{s:Sem α} {π:Ren} {s':Sem β},Ren.Ok P π->aC P S Q s π s'->(∀bQ a b,Ext P π bQ->Q bQ a b->aC P S Q' (k a) bQ (k' b))->aC P S Q' (s >>= k) π (s' >>= k'):=by
 intro s
 induction s with
 |pure a=>rintro π _ ok ⟨b,rfl,h⟩ hk;exact hk π a b (Ext.refl ok) h
 |load m a k ih=>
  rintro π _ ok ⟨rfl,a',k',rfl,⟨h,h'⟩|⟨rfl,x,h,h'⟩⟩ hk
  ·exact⟨rfl,a',_,rfl,.inl ⟨h,λv v' hv=>ih v ok (h' v v' hv) hk⟩⟩
  ·exact⟨rfl,a',_,rfl,.inr ⟨rfl,x,h,ih _ ok h' hk⟩⟩
 |store m a v k ih=>rintro π _ ok ⟨rfl,a',v',k',rfl,h,h1,h2⟩ hk;exact⟨rfl,a',v',_,rfl,h,h1,ih ok h2 hk⟩
 |new o k ih=>
  rintro π _ ok (⟨o',k',rfl,h,h'⟩|hd) hk
  ·exact .inl ⟨o',_,rfl,h,λbQ r r' e hr=>ih r e.ok (h' bQ r r' e hr) λRL a b e'=>hk RL a b (e.trans e')⟩
  ·refine .inr λr=> ?_
   obtain⟨x,e,hl⟩:=hd r;refine⟨x,?_,hl⟩;show(k r).bind _=_;rw[e];rfl
 |shape r k ih=>rintro π _ ok ⟨r',k',rfl,h,h'⟩ hk;exact⟨r',_,rfl,h,λx=>ih x ok (h' x) hk⟩
 |freeze a n k ih=>rintro π _ ok h hk;exact h.elim
 |frozen a k ih=>rintro π _ ok ⟨r',k',rfl,h,h'⟩ hk;exact⟨r',_,rfl,h,λx=>ih x ok (h' x) hk⟩
 |getObj r k ih=>rintro π _ ok ⟨r',k',rfl,h,h'⟩ hk;exact⟨r',_,rfl,h,λo o' ho=>ih o ok (h' o o' ho) hk⟩
 |setObj r o k ih=>rintro π _ ok ⟨r',o',k',rfl,h,ho,h'⟩ hk;exact⟨r',o',_,rfl,h,ho,ih ok h' hk⟩
 |choose q k ih=>rintro π _ ok ⟨k',rfl,h⟩ hk;exact⟨_,rfl,λn=>ih n ok (h n) hk⟩
 |sys c k ih=>rintro π _ ok h hk;exact h.elim
 |program k ih=>rintro π _ ok ⟨k',rfl,h⟩ hk;exact⟨_,rfl,ih P ok h hk⟩
 |mark m k ih=>rintro π _ ok ⟨hm,k',rfl,h⟩ hk;exact⟨hm,_,rfl,ih ok h hk⟩
 |halt h=>intro π s' _ hl _;exact hl
def aC.mono {α β:Type}{Q Q':Ren->α->β->Prop}{s:Sem α}{π:Ren}{s':Sem β}(ok:Ren.Ok P π)(h:aC P S Q s π s')(hq: ∀bQ a b,Ext P π bQ->Q bQ a b->Q' bQ a b):aC P S Q' s π s':=by
 induction s generalizing π s' with
 |pure a=>obtain⟨b,rfl,h⟩:=h;exact⟨b,rfl,hq π a b (Ext.refl ok) h⟩
 |load m a k ih=>
  obtain⟨rfl,a',k',rfl,⟨h,h'⟩|⟨rfl,x,h,h'⟩⟩:=h
  ·exact⟨rfl,a',_,rfl,.inl ⟨h,λv v' hv=>ih v ok (h' v v' hv) hq⟩⟩
  ·exact⟨rfl,a',_,rfl,.inr ⟨rfl,x,h,ih _ ok h' hq⟩⟩
 |store m a v k ih=>obtain⟨rfl,a',v',k',rfl,h,h1,h2⟩:=h;exact⟨rfl,a',v',_,rfl,h,h1,ih ok h2 hq⟩
 |new o k ih=>
  rcases h with⟨o',k',rfl,h,h'⟩|hd
  ·exact .inl ⟨o',_,rfl,h,λbQ r r' e hr=>ih r e.ok (h' bQ r r' e hr) λRL a b e'=>hq RL a b (e.trans e')⟩
  ·exact .inr hd
 |shape r k ih=>obtain⟨r',k',rfl,h,h'⟩:=h;exact⟨r',_,rfl,h,λx=>ih x ok (h' x) hq⟩
 |freeze a n k ih=>exact h.elim
 |frozen a k ih=>obtain⟨r',k',rfl,h,h'⟩:=h;exact⟨r',_,rfl,h,λx=>ih x ok (h' x) hq⟩
 |getObj r k ih=>obtain⟨r',k',rfl,h,h'⟩:=h;exact⟨r',_,rfl,h,λo o' ho=>ih o ok (h' o o' ho) hq⟩
 |setObj r o k ih=>obtain⟨r',o',k',rfl,h,ho,h'⟩:=h;exact⟨r',o',_,rfl,h,ho,ih ok h' hq⟩
 |choose q k ih=>obtain⟨k',rfl,h⟩:=h;exact⟨_,rfl,λn=>ih n ok (h n) hq⟩
 |sys c k ih=>exact h.elim
 |program k ih=>obtain⟨k',rfl,h⟩:=h;exact⟨_,rfl,ih P ok h hq⟩
 |mark m k ih=>obtain⟨hm,k',rfl,h⟩:=h;exact⟨hm,_,rfl,ih ok h hq⟩
 |halt h'=>exact h
end
structure cz (P:aS) (S:jK) (π:Ren) (L R:ah):Prop where
 ok:Ren.Ok P π
 obj: ∀l r,π l r-> ∃o o',L.heap[l]? =ae o/\R.heap[r]? =ae o'/\kV S π o o'
 oE:P.globals.size<=L.heap.size
 uB:P.globals.size<=R.heap.size
 old: ∀a x,S.mem a=ae x->(∀r,¬π a.block r)/\(∀l,¬π l a.block)/\L.cell? a=ae (.int .i64 x)/\R.cell? a=ae (.int .i64 x)
def je.mono {α β:Type}{R R':α->β->Prop}{x:Array α}{y:Array β}(h:je R x y)(k: ∀a b,R a b->R' a b):je R' x y:=⟨h.size,λi a b ha hb=>k _ _ (h.at_ i a b ha hb)⟩
def je.get {α β:Type}{R:α->β->Prop}{x:Array α}{y:Array β}(h:je R x y){i:Nat}{a:α}(ha:x[i]? =ae a): ∃b,y[i]? =ae b/\R a b:=by
 have hi:i<y.size:=by rw[<-h.size];exact(aI.1 ha).1
 exact⟨y[i],aX hi,h.at_ i a _ ha (aX hi)⟩
def je.set {α β:Type}{R:α->β->Prop}{x:Array α}{y:Array β}(h:je R x y){i:Nat}{a:α}{b:β}(jM:R a b):je R (x.setIfInBounds i a) (y.setIfInBounds i b):=by
 refine⟨by simp[h.size],λj c d hc hd=> ?_⟩;by_cases M9:i=j
 ·subst M9;have hi:i<x.size:=by have:=(aI.1 hc).1;simpa using this
  rw[aU hi]at hc;rw[aU (by rw[<-h.size];exact hi)]at hd;obtain rfl:=be hc;obtain rfl:=be hd;exact jM
 ·rw[aK M9]at hc hd;exact h.at_ j c d hc hd
def pP.mono {P:aS}{S:jK}{π bQ:Ren}(h:Ext P π bQ){e e':MapEntry}(x:pP S π e e'):pP S bQ e e':=⟨x.key.mono h,x.val.mono h,x.born⟩
def kV.mono {P:aS}{S:jK}{π bQ:Ren}(h:Ext P π bQ): ∀{o o':Obj},kV S π o o'->kV S bQ o o'
 |_,_,.loop x=>.loop ⟨x.state,x.pending,x.okP,x.fn,x.tmps.mono λ_ _ y=>y.mono h,x.params,x.assign,x.okA,x.body,x.okB,h.le _ _ x.defers⟩
 |_,_,.number l x=>.number l (x.mono h)
 |_,_,.deferred b=>.deferred b
 |_,_,.cells t fr x=>.cells t fr (x.mono λ_ _ y=>y.mono h)
 |_,_,.map k x=>.map k (x.mono λ_ _ y=>y.mono h)
 |_,_,.stringIter s p=>.stringIter s p
 |_,_,.mapIter a b c x=>.mapIter a b c (x.mono λ_ _ y=>h.le _ _ y)
structure y7 (π bQ:Ren) (L R L' R':ah):Prop where
 tape:R'.tape=R.tape
 os:R'.os=R.os
 output:R'.output=R.output
 osL:L'.os=L.os
 xB:L'.output=L.output
 size:R.heap.size<=R'.heap.size
 Fw:L.heap.size<=L'.heap.size
 sizes:R'.heap.size+L.heap.size=R.heap.size+L'.heap.size
 rest: ∀r,r<R.heap.size->(∀l,¬π l r)->R'.heap[r]? =R.heap[r]?
 Oi: ∀l,l<L.heap.size->(∀r,¬π l r)->L'.heap[l]? =L.heap[l]?
 new: ∀l r,bQ l r->π l r\/(L.heap.size<=l/\R.heap.size<=r/\r+L.heap.size=l+R.heap.size)
 all: ∀l,L.heap.size<=l->l<L'.heap.size-> ∃r,bQ l r
 le: ∀l r,π l r->bQ l r
def y7.refl (π:Ren)(L R:ah):y7 π π L R L R:=⟨rfl,rfl,rfl,rfl,rfl,ax _,ax _,dA _ _▸rfl,λ_ _ _=>rfl,λ_ _ _=>rfl,λ_ _ h=>.inl h,λl h1 h2=>by omega,λ_ _ h=>h⟩
def y7.trans {π bQ RL:Ren}{L R L' R' L'' R'':ah}(h:y7 π bQ L R L' R')(k:y7 bQ RL L' R' L'' R''):y7 π RL L R L'' R'':=by
 have z1:=h.sizes;have z2:=k.sizes;refine⟨k.tape.trans h.tape,k.os.trans h.os,k.output.trans h.output,k.osL.trans h.osL,k.xB.trans h.xB,bM h.size k.size,bM h.Fw k.Fw,by omega,λr hr hn=> ?_,λl hl hn=> ?_,λl r YD=> ?_,λl h1 h2=> ?_,λl r x=>k.le _ _ (h.le _ _ x)⟩
 ·refine(k.rest r (cc hr h.size) λl hl=> ?_).trans (h.rest r hr hn);rcases h.new l r hl with x|x
  ·exact hn l x
  ·omega
 ·refine(k.Oi l (cc hl h.Fw) λr hr=> ?_).trans (h.Oi l hl hn);rcases h.new l r hr with x|x
  ·exact hn r x
  ·omega
 ·have:=h.size;have:=h.Fw;rcases k.new l r YD with x|x
  ·exact h.new l r x
  ·exact .inr ⟨by omega,by omega,by omega⟩
 ·rcases ec l L'.heap.size with bJ|wq
  ·obtain⟨r,hr⟩:=h.all l h1 bJ;exact⟨r,k.le _ _ hr⟩
  ·exact k.all l wq h2
inductive DN (S:jK) (π:Ren):Event->Prop
 |cell {l:Nat} {a:Addr} (wr:Bool):π l a.block->DN S π ⟨.cell a,wr,ay⟩
 |obj {l r:Nat} (wr:Bool):π l r->DN S π ⟨.obj r,wr,ay⟩
 |room:DN S π ⟨.mark .noRoom,ay,aw⟩
 |ext {f:bK}:S.ext f->DN S π ⟨.mark (.extern f),ay,aw⟩
 |old {a:Addr} {x:Int}:S.mem a=ae x->DN S π ⟨.cell a,ay,ay⟩
def DN.mono {P:aS}{S:jK}{π bQ:Ren}(h:Ext P π bQ): ∀{e:Event},DN S π e->DN S bQ e
 |_,.cell w x=>.cell w (h.le _ _ x)
 |_,.obj w x=>.obj w (h.le _ _ x)
 |_,.room=>.room
 |_,.ext h=>.ext h
 |_,.old h=>.old h
def nU {w w':ah}{a:Addr}(h:w'.heap[a.block]? =w.heap[a.block]?):w'.cell? a=w.cell? a:=by unfold c8;rw[h]
def zi {w:ah}{a:Addr}{v:ao}(h:w.cell? a=ae v):a.block<w.heap.size:=by
 unfold c8 at h;rcases ec a.block w.heap.size with bJ|wq
 ·exact bJ
 ·rw[iH wq]at h;cases h
section
variable {P:aS} {S:jK}
def cz.lt {π:Ren}{L R:ah}(h:cz P S π L R){l r:Nat}(x:π l r):l<L.heap.size/\r<R.heap.size:=by obtain⟨o,o',h1,h2,_⟩:=h.obj l r x;exact⟨(aI.1 h1).1,(aI.1 h2).1⟩
def cz.cell {π:Ren}{L R:ah}(h:cz P S π L R){a a':Addr}(x:dM π a a'): ∀v,L.cell? a=ae v-> ∃v',R.cell? a'=ae v'/\bx S π v v':=by
 intro v hv;obtain⟨o,o',h1,h2,h3⟩:=h.obj _ _ x.block;unfold c8 at hv|-;rw[h1]at hv;rw[h2,x.spot,x.off];cases h3 with
 |cells t fr hc=>
  simp only at hv|-
  split at hv
  ·cases hv
  ·rename_i hs
   rw[if_neg hs];exact hc.get hv
 |_=>cases hv
def cz.shape {π:Ren}{L R:ah}(h:cz P S π L R){l r:Nat}(x:π l r):R.shape? r=L.shape? l:=by
 obtain⟨o,o',h1,h2,h3⟩:=h.obj _ _ x;unfold World.shape?;rw[h1,h2];cases h3 with
 |cells t fr hc=>simp[hc.size]
 |_=>rfl
def cz.frozen {π:Ren}{L R:ah}(h:cz P S π L R){a a':Addr}(x:dM π a a'):R.frozen? a'=L.frozen? a:=by obtain⟨o,o',h1,h2,h3⟩:=h.obj _ _ x.block;unfold World.frozen?;rw[h1,h2,x.off];cases h3<;>rfl
def cz.setBlock {π:Ren}{L R:ah}(h:cz P S π L R){l r:Nat}(x:π l r){o o':Obj}(ho:kV S π o o'):cz P S π {L with heap:=L.heap.setIfInBounds l o} {R with heap:=R.heap.setIfInBounds r o'}:=by
 refine⟨h.ok,λm n hmn=> ?_,by simpa using h.oE,by simpa using h.uB,λa y hy=> ?_⟩
 rotate_left
 ·obtain⟨g1,g2,g3,g4⟩:=h.old a y hy;have n1:l≠a.block:=λe=>g1 r (e▸x)
  have n2:r≠a.block:=λe=>g2 l (e▸x)
  exact⟨g1,g2,(nU (aK n1)).trans g3,(nU (aK n2)).trans g4⟩
 obtain⟨p,p',h1,h2,h3⟩:=h.obj m n hmn;by_cases hm:l=m
 ·subst hm;have:=h.ok.fn _ _ _ x hmn;subst this;refine⟨o,o',?_,?_,ho⟩
  ·simp[aU (h.lt x).1]
  ·simp[aU (h.lt x).2]
 ·have hn:r≠n:=λe=>hm (h.ok.inj _ _ _ (e▸x) hmn)
  exact⟨p,p',by simpa[aK hm]using h1,by simpa[aK hn]using h2,h3⟩
def setCell_eq {w:ah}{a:Addr}{v:ao}{c:Array ao}{t:aA}{fr:Nat×Nat}(h:w.heap[a.block]? =ae (.cells c t fr)):w.setCell a v={w with heap:=w.heap.setIfInBounds a.block (.cells (if a.spot.isSome then c else c.setIfInBounds a.off v) t fr)}:=by
 have bJ:=(aI.1 h).1;have e:w.heap.modify a.block (λ| .cells c elem frozen=>.cells (if a.spot.isSome then c else c.setIfInBounds a.off v) elem frozen|o=>o)=w.heap.setIfInBounds a.block (.cells (if a.spot.isSome then c else c.setIfInBounds a.off v) t fr):=by
  apply Array.ext_getElem?;intro i;rw[bq];by_cases hi:a.block=i
  ·subst hi;rw[if_pos rfl,aU bJ,h]
   rfl
  ·rw[if_neg hi,aK hi]
 unfold dJ;exact congrArg (λhp=>({w with heap:=hp}:ah)) e
def cz.setCell {π:Ren}{L R:ah}(h:cz P S π L R){a a':Addr}(x:dM π a a'){v v':ao}(hv:bx S π v v'){u:ao}(hc:L.cell? a=ae u):cz P S π (L.setCell a v) (R.setCell a' v'):=by
 obtain⟨o,o',h1,h2,h3⟩:=h.obj _ _ x.block;cases h3 with
 |cells t fr hcc=>
  rw[setCell_eq h1,setCell_eq h2];refine h.setBlock x.block (.cells t fr ?_);rw[x.spot,x.off]
  split
  ·exact hcc
  ·exact hcc.set hv
 |_=>unfold c8 at hc;rw[h1]at hc;cases hc
def Ren.add (π:Ren)(l r:Nat):Ren:=λa b=>π a b\/(a=l/\b=r)
def cz.ext {π:Ren}{L R:ah}(h:cz P S π L R):Ext P π (π.add L.heap.size R.heap.size):=by
 refine⟨λ_ _ x=>.inl x,⟨λa b c hb hc=> ?_,λa b c ha hb=> ?_,λa b jM=> ?_⟩⟩
 rotate_right
 ·rcases jM with jM|⟨rfl,rfl⟩
  ·exact h.ok.X5 a b jM
  ·have:=h.oE;have:=h.uB;omega
 ·rcases hb with hb|⟨rfl,rfl⟩<;>rcases hc with hc|⟨vA,rfl⟩
  ·exact h.ok.fn _ _ _ hb hc
  ·have:=(h.lt hb).1;omega
  ·have:=(h.lt hc).1;omega
  ·rfl
 ·rcases ha with ha|⟨rfl,rfl⟩<;>rcases hb with hb|⟨rfl,lJ⟩
  ·exact h.ok.inj _ _ _ ha hb
  ·have:=(h.lt ha).2;omega
  ·have:=(h.lt hb).2;omega
  ·rfl
def cz.new {π:Ren}{L R:ah}(h:cz P S π L R){o o':Obj}(ho:kV S π o o'):cz P S (π.add L.heap.size R.heap.size) {L with heap:=L.heap.push o} {R with heap:=R.heap.push o'}:=by
 refine⟨h.ext.ok,λl r YD=> ?_,by have:=h.oE;simp;omega,by have:=h.uB;simp;omega,λa y hy=> ?_⟩
 rotate_left
 ·obtain⟨g1,g2,g3,g4⟩:=h.old a y hy;have l1:=zi g3;have l2:=zi g4;refine⟨λr hr=>hr.elim (g1 r) λe=>by omega,λl hl=>hl.elim (g2 l) λe=>by omega,(nU ?_).trans g3,(nU ?_).trans g4⟩
  ·show(L.heap.push o)[a.block]? =_;rw[mG,if_neg (by omega)]
  ·show(R.heap.push o')[a.block]? =_;rw[mG,if_neg (by omega)]
 rcases YD with YD|⟨rfl,rfl⟩
 ·obtain⟨p,p',h1,h2,h3⟩:=h.obj l r YD;have:=h.lt YD;exact⟨p,p',by simp[mG,show l≠L.heap.size by omega,h1],by simp[mG,show r≠R.heap.size by omega,h2],h3.mono h.ext⟩
 ·exact⟨o,o',by simp,by simp,ho.mono h.ext⟩
def cz.agV {π:Ren}{L R:ah}(h:cz P S π L R)(o:Obj):cz P S π {L with heap:=L.heap.push o} R:=by
 refine⟨h.ok,λl r YD=> ?_,by have:=h.oE;simp;omega,h.uB,λa y hy=> ?_⟩
 ·obtain⟨p,p',h1,h2,h3⟩:=h.obj l r YD;have:=h.lt YD;exact⟨p,p',by simp[mG,show l≠L.heap.size by omega,h1],h2,h3⟩
 ·obtain⟨g1,g2,g3,g4⟩:=h.old a y hy;have l1:=zi g3;refine⟨g1,g2,(nU ?_).trans g3,g4⟩;show(L.heap.push o)[a.block]? =_;rw[mG,if_neg (by omega)]
def aa2 {π:Ren}{L R:ah}{l r:Nat}(x:π l r)(o o':Obj):y7 π π L R {L with heap:=L.heap.setIfInBounds l o} {R with heap:=R.heap.setIfInBounds r o'}:=by
 refine⟨rfl,rfl,rfl,rfl,rfl,by simp,by simp,by simp[dA],λn _ hn=> ?_,λn _ hn=> ?_,λ_ _ h=>.inl h,λn h1 h2=>by simp at h2;omega,λ_ _ h=>h⟩
 ·have:r≠n:=λe=>hn l (e▸x)
  simp[aK this]
 ·have:l≠n:=λe=>hn r (e▸x)
  simp[aK this]
def MD {π:Ren}{L R:ah}{a a':Addr}(x:dM π a a')(v v':ao):y7 π π L R (L.setCell a v) (R.setCell a' v'):=by
 refine⟨rfl,rfl,rfl,rfl,rfl,by simp[dJ],by simp[dJ],by simp[dJ,dA],λn _ hn=> ?_,λn _ hn=> ?_,λ_ _ h=>.inl h,λn h1 h2=>by simp[dJ]at h2;omega,λ_ _ h=>h⟩
 ·have:a'.block≠n:=λe=>hn a.block (e▸x.block)
  simp[dJ,bq,this]
 ·have:a.block≠n:=λe=>hn a'.block (e▸x.block)
  simp[dJ,bq,this]
def RN (L R:ah)(d:Nat):Prop:= ∀i q,L.drawn+i<d->R.tape (R.drawn+i) q=L.tape (L.drawn+i) q
def xJ (P:aS)(S:jK){α β:Type}(Q:Ren->α->β->Prop)(π:Ren)(L R:ah)(s':Sem β)(lL:Array Event):Result α×Array Event->Prop
 |(.ok a L',_)=>L.drawn<=L'.drawn/\L'.tape=L.tape/\(RN L R L'.drawn-> ∃bQ b R' ev,Ext P π bQ/\s'.runT P R lL=(.ok b R',lL++ev)/\Q bQ a b/\cz P S bQ L' R'/\y7 π bQ L R L' R'/\R'.drawn+L.drawn=R.drawn+L'.drawn/\ ∀e∈ev,DN S bQ e)
 |(.halt h L',_)=>h.lost=aw/\ ∃bQ R',Ext P π bQ/\cz P S bQ L' R'
def xJ.step {α β:Type}{Q:Ren->α->β->Prop}{π fH:Ren}{L R L1 R1:ah}{s' k':Sem β}{lL Kh:Array Event}{res:Result α×Array Event}(hd:L1.drawn=L.drawn)(ht:L1.tape=L.tape)(hd':R1.drawn=R.drawn)(ht':R1.tape=R.tape)(e:Ext P π fH)(did:y7 π fH L R L1 R1)(jJ: ∀e∈Kh,DN S fH e)(cT:s'.runT P R lL=k'.runT P R1 (lL++Kh))(h:xJ P S Q fH L1 R1 k' (lL++Kh) res):xJ P S Q π L R s' lL res:=by
 obtain⟨r,es⟩:=res;cases r with
 |halt x _=>obtain⟨h1,bQ,R',e',hw⟩:=h;exact⟨h1,bQ,R',e.trans e',hw⟩
 |ok a L'=>
  obtain⟨h1,h2,h3⟩:=h;refine⟨by omega,h2.trans ht,λag=> ?_⟩;obtain⟨bQ,b,R',ev,e',hr,hq,hw,Hh,Yn,Uk⟩:=h3 (λi q hi=>by rw[hd',ht',hd,ht];exact ag i q (by omega));refine⟨bQ,b,R',Kh++ev,e.trans e',by rw[cT,hr,Array.append_assoc],hq,hw,did.trans Hh,by omega,λx hx=> ?_⟩;rcases o4.1 hx with hx|hx
  ·exact(jJ x hx).mono e'
  ·exact Uk x hx
def Cs {π:Ren}{L:ah}{o o':Obj}(h3:kV S π o o'){a:Addr}(h1:L.heap[a.block]? =ae o)(w:String):(L.noCell a w).lost=aw:=by unfold World.noCell;rw[h1];cases h3<;>rfl
def aC.run {α β:Type}{Q:Ren->α->β->Prop}: ∀{s:Sem α} {π:Ren} {s':Sem β} {L R:ah},aC P S Q s π s'->cz P S π L R-> ∀es lL:Array Event,xJ P S Q π L R s' lL (s.runT P L es):=by
 intro s
 induction s with
 |pure a=>rintro π _ L R ⟨b,rfl,h⟩ hw es lL;exact⟨ax _,rfl,λ_=>⟨π,b,R,#[],Ext.refl hw.ok,by simp[gw],h,hw,y7.refl _ _ _,rfl,by simp⟩⟩
 |load m a k ih=>
  rintro π _ L R ⟨rfl,a',k',rfl,hh⟩ hw es lL;rcases hh with⟨h,h'⟩|⟨rfl,x,h,h'⟩
  rotate_left
  ·obtain⟨_,_,g3,g4⟩:=hw.old _ x h;simp only[gw,g3];refine xJ.step (Kh:= #[⟨.cell a',ay,ay⟩]) rfl rfl rfl rfl (Ext.refl hw.ok) (y7.refl _ _ _) (by intro y hy;simp at hy;subst hy;exact .old h) ?_ (ih _ h' hw _ _);simp only[gw,g4];rfl
  simp only[gw];cases hc:L.cell? a with
  |none=>
   obtain⟨o,o',h1,h2,h3⟩:=hw.obj _ _ h.block;have hf:L.farLoad P a (sD== .atomic)=.error (L.noCell a "load: no such cell"):=by unfold World.farLoad;rw[h1];cases h3<;>rfl
   simp only[hf];exact⟨Cs h3 h1 _,π,R,Ext.refl hw.ok,hw⟩
  |some v=>obtain⟨v',Wj,hv⟩:=hw.cell h v hc;refine xJ.step (Kh:= #[⟨.cell a',ay,ay⟩]) rfl rfl rfl rfl (Ext.refl hw.ok) (y7.refl _ _ _) (by intro x hx;simp at hx;subst hx;exact .cell ay h.block) ?_ (ih v (h' v v' hv) hw _ _);simp only[gw,Wj];rfl
 |store m a v k ih=>
  rintro π _ L R ⟨rfl,a',v',k',rfl,h,hv,h'⟩ hw es lL;have main: ∀(eb:(∀c,v≠ .agg c)/\ ∀c,v≠ .tuple c),xJ P S Q π L R (.store sD a' v' k') lL ((Sem.store sD a v k).runT P L es):=by
   intro eb;have e1:(Sem.store sD a v k).runT P L es=match L.cell? a with
    |some _=>if L.frozen? a then(.halt (.unsupported (.unsafePointer "a write to bytes that a string shares")) L,es)else k.runT P (L.setCell a v) (es.push ⟨.cell a,aw,sD== .atomic⟩)
    |none=>match L.farStore P a v (sD== .atomic)with
     | .ok (w,Ls)=>k.runT P w (es++Ls.toArray.map (⟨.cell ·,aw,sD== .atomic⟩))
     | .error h=>(.halt h L,es):=by
    cases v<;>first|exact absurd rfl (eb.1 _)|exact absurd rfl (eb.2 _)|rfl
   have e2:(Sem.store sD a' v' k').runT P R lL=match R.cell? a' with
    |some _=>if R.frozen? a' then(.halt (.unsupported (.unsafePointer "a write to bytes that a string shares")) R,lL)else k'.runT P (R.setCell a' v') (lL.push ⟨.cell a',aw,sD== .atomic⟩)
    |none=>match R.farStore P a' v' (sD== .atomic)with
     | .ok (w,Ls)=>k'.runT P w (lL++Ls.toArray.map (⟨.cell ·,aw,sD== .atomic⟩))
     | .error h=>(.halt h R,lL):=by
    cases hv<;>first|exact absurd rfl (eb.1 _)|exact absurd rfl (eb.2 _)|rfl
   rw[e1];cases hc:L.cell? a with
   |none=>
    obtain⟨o,o',h1,h2,h3⟩:=hw.obj _ _ h.block;have hf:L.farStore P a v (sD== .atomic)=.error (L.noCell a "store: no such cell"):=by unfold World.farStore;rw[h1];cases h3<;>rfl
    simp only[hf];exact⟨Cs h3 h1 _,π,R,Ext.refl hw.ok,hw⟩
   |some u=>
    obtain⟨u',Wj,_⟩:=hw.cell h u hc;cases hfz:L.frozen? a with
    |true=>simp only[if_true];exact⟨rfl,π,R,Ext.refl hw.ok,hw⟩
    |false=>simp only[dP,if_false];refine xJ.step (Kh:= #[⟨.cell a',aw,ay⟩]) (L1:=L.setCell a v) (R1:=R.setCell a' v') rfl rfl rfl rfl (Ext.refl hw.ok) (MD h v v') (by intro x hx;simp at hx;subst hx;exact .cell aw h.block) ?_ (ih h' (hw.setCell h hv hc) _ _);rw[e2];simp only[Wj,hw.frozen h,hfz,dP,if_false];rfl
  by_cases h1: ∃c,v=.agg c
  ·obtain⟨c,rfl⟩:=h1;simp only[gw];exact⟨rfl,π,R,Ext.refl hw.ok,hw⟩
  by_cases h2: ∃c,v=.tuple c
  ·obtain⟨c,rfl⟩:=h2;simp only[gw];exact⟨rfl,π,R,Ext.refl hw.ok,hw⟩
  exact main ⟨λc e=>h1 ⟨c,e⟩,λc e=>h2 ⟨c,e⟩⟩
 |new o k ih=>
  rintro π _ L R (⟨o',k',rfl,h,h'⟩|hd) hw es lL
  rotate_left
  ·obtain⟨x,e,hl⟩:=hd L.heap.size;simp only[gw,e];exact⟨hl,π,R,Ext.refl hw.ok,hw.agV o⟩
  simp only[gw];refine xJ.step (Kh:= #[]) (L1:={L with heap:=L.heap.push o}) (R1:={R with heap:=R.heap.push o'}) rfl rfl rfl rfl hw.ext ⟨rfl,rfl,rfl,rfl,rfl,by simp,by simp,by simp;omega,λn hn _=>by show(R.heap.push o')[n]? =R.heap[n]?;rw[mG,if_neg (by omega)],λn hn _=>by show(L.heap.push o)[n]? =L.heap[n]?;rw[mG,if_neg (by omega)],λl r YD=> ?_,λl h1 h2=>⟨R.heap.size,.inr ⟨by simp at h2;omega,rfl⟩⟩,λ_ _ h=>.inl h⟩ (by simp) ?_ (ih L.heap.size (h' _ _ _ hw.ext (.inr ⟨rfl,rfl⟩)) (hw.new h) _ _)
  ·rcases YD with x|⟨rfl,rfl⟩
   ·exact .inl x
   ·exact .inr ⟨ax _,ax _,by omega⟩
  ·simp[gw]
 |shape r k ih=>rintro π _ L R ⟨r',k',rfl,h,h'⟩ hw es lL;have:=ih (L.shape? r) (h' _) hw es lL;simp only[gw];refine xJ.step (Kh:= #[]) rfl rfl rfl rfl (Ext.refl hw.ok) (y7.refl _ _ _) (by simp) ?_ (by simpa using this);simp[gw,hw.shape h]
 |freeze a n k ih=>intro π _ L R h;exact h.elim
 |frozen a k ih=>rintro π _ L R ⟨r',k',rfl,h,h'⟩ hw es lL;have:=ih (L.frozen? a) (h' _) hw es lL;simp only[gw];refine xJ.step (Kh:= #[]) rfl rfl rfl rfl (Ext.refl hw.ok) (y7.refl _ _ _) (by simp) ?_ (by simpa using this);simp[gw,hw.frozen h]
 |getObj r k ih=>
  rintro π _ L R ⟨r',k',rfl,h,h'⟩ hw es lL;obtain⟨o,o',h1,h2,h3⟩:=hw.obj _ _ h;have vG:o.isChan=ay/\o'.isChan=ay:=by cases h3<;>exact⟨rfl,rfl⟩
  have kP:(∃c t fr,o=.cells c t fr)\/((∀c t fr,o≠ .cells c t fr)/\ ∀c t fr,o'≠ .cells c t fr):=by
   cases h3 with
   |cells t fr _=>exact .inl ⟨_,_,_,rfl⟩
   |_=>exact .inr ⟨by simp,by simp⟩
  rcases kP with⟨c,t,fr,rfl⟩|⟨eb,aed⟩
  ·simp only[gw,h1];exact⟨rfl,π,R,Ext.refl hw.ok,hw⟩
  have eL:(Sem.getObj r k).runT P L es=(k o).runT P L (es.push ⟨.obj r,ay,ay⟩):=by simp only[gw,h1];cases o<;>first|exact absurd rfl (eb _ _ _)|rfl|exact absurd vG.1 (by simp[Obj.isChan])
  have eR:(Sem.getObj r' k').runT P R lL=(k' o').runT P R (lL++ #[⟨.obj r',ay,ay⟩]):=by simp only[gw,h2];cases o'<;>first|exact absurd rfl (aed _ _ _)|rfl|exact absurd vG.2 (by simp[Obj.isChan])
  rw[eL];exact xJ.step rfl rfl rfl rfl (Ext.refl hw.ok) (y7.refl _ _ _) (by intro x hx;simp at hx;subst hx;exact .obj ay h) eR (ih o (h' _ _ h3) hw _ _)
 |setObj r o k ih=>
  rintro π _ L R ⟨r',o',k',rfl,h,ho,h'⟩ hw es lL;obtain⟨p,p',h1,h2,h3⟩:=hw.obj _ _ h;have vG:o.isChan=ay/\o'.isChan=ay:=by cases ho<;>exact⟨rfl,rfl⟩
  have kP:(∃c t fr,p=.cells c t fr)\/((∀c t fr,p≠ .cells c t fr)/\ ∀c t fr,p'≠ .cells c t fr):=by
   cases h3 with
   |cells t fr _=>exact .inl ⟨_,_,_,rfl⟩
   |_=>exact .inr ⟨by simp,by simp⟩
  rcases kP with⟨c,t,fr,rfl⟩|⟨eb,aed⟩
  ·simp only[gw,h1];exact⟨rfl,π,R,Ext.refl hw.ok,hw⟩
  have eL:(Sem.setObj r o k).runT P L es=k.runT P {L with heap:=L.heap.setIfInBounds r o} (es.push ⟨.obj r,aw,ay⟩):=by
   simp only[gw,h1,vG.1]
   try(cases p<;>first|exact absurd rfl (eb _ _ _)|rfl)
  have eR:(Sem.setObj r' o' k').runT P R lL=k'.runT P {R with heap:=R.heap.setIfInBounds r' o'} (lL++ #[⟨.obj r',aw,ay⟩]):=by simp only[gw,h2,vG.2];cases p'<;>first|exact absurd rfl (aed _ _ _)|rfl
  rw[eL];exact xJ.step (Kh:= #[⟨.obj r',aw,ay⟩]) (L1:={L with heap:=L.heap.setIfInBounds r o}) (R1:={R with heap:=R.heap.setIfInBounds r' o'}) rfl rfl rfl rfl (Ext.refl hw.ok) (aa2 h o o') (by intro x hx;simp at hx;subst hx;exact .obj aw h) eR (ih h' (hw.setBlock h ho) _ _)
 |choose q k ih=>
  rintro π _ L R ⟨k',rfl,h⟩ hw es lL;simp only[gw];cases hqf:q.forced with
  |true=>simp only[if_true];refine xJ.step (Kh:= #[]) rfl rfl rfl rfl (Ext.refl hw.ok) (y7.refl _ _ _) (by simp) ?_ (ih _ (h 0) hw _ _);simp[gw,hqf]
  |false=>
   simp only[dP,if_false];have key: ∀R1:ah,cz P S π {L with drawn:=L.drawn+1} R1->_:=λR1 Uu=>ih _ (h (q.cut (L.tape L.drawn q))) Uu es lL
   have:=key {R with drawn:=R.drawn+1} ⟨hw.ok,hw.obj,hw.oE,hw.uB,hw.old⟩;revert this;generalize (k (q.cut (L.tape L.drawn q))).runT P {L with drawn:=L.drawn+1} es=res;intro this;obtain⟨r,es1⟩:=res;cases r with
   |halt x _=>exact this
   |ok a L'=>
    obtain⟨h1,h2,h3⟩:=this;simp only at h1 h2;refine⟨by omega,h2,λag=> ?_⟩;have ag0:=ag 0 q (by omega);simp only[lC]at ag0;obtain⟨bQ,b,R',ev,e',hr,hq,jY,Hh,Yn,Uk⟩:=h3 (λi q' hi=>by simp only at hi|-;have:=ag (i+1) q' (by omega);rw[show R.drawn+1+i=R.drawn+(i+1)by omega,show L.drawn+1+i=L.drawn+(i+1)by omega];exact this)
    simp only at Yn;refine⟨bQ,b,R',ev,e',?_,hq,jY,⟨Hh.tape,Hh.os,Hh.output,Hh.osL,Hh.xB,Hh.size,Hh.Fw,Hh.sizes,Hh.rest,Hh.Oi,Hh.new,Hh.all,Hh.le⟩,by omega,Uk⟩;simp only[gw,hqf,dP,if_false];rw[ag0];exact hr
 |sys c k ih=>intro π _ L R h;exact h.elim
 |program k ih=>rintro π _ L R ⟨k',rfl,h⟩ hw es lL;simp only[gw];refine xJ.step (Kh:= #[]) rfl rfl rfl rfl (Ext.refl hw.ok) (y7.refl _ _ _) (by simp) ?_ (ih _ h hw _ _);simp[gw]
 |mark m k ih=>
  rintro π _ L R ⟨hm,k',rfl,h⟩ hw es lL;simp only[gw];refine xJ.step (Kh:= #[⟨.mark m,ay,aw⟩]) rfl rfl rfl rfl (Ext.refl hw.ok) (y7.refl _ _ _) (by
   intro x hx;simp at hx;subst hx;rcases hm with rfl|⟨f,rfl,hf⟩
   ·exact .room
   ·exact .ext hf) ?_ (ih h hw _ _)
  simp only[gw];rfl
 |halt x=>intro π _ L R h hw es lL;exact⟨h,π,R,Ext.refl hw.ok,hw⟩
end
section
variable {P:aS} {S:jK}
abbrev mK {α:Type}:Ren->α->α->Prop:=λ_ a b=>a=b
abbrev VQ (S:jK):Ren->ao->ao->Prop:=λπ a b=>bx S π a b
abbrev VsQ (S:jK):Ren->Array ao->Array ao->Prop:=λπ a b=>cR S π a b
abbrev AQ:Ren->Addr->Addr->Prop:=λπ a b=>dM π a b
def aB {α β:Type}{Q:Ren->α->β->Prop}{π:Ren}{a:α}{b:β}(h:Q π a b):aC P S Q (Pure.pure a:Sem α) π (Pure.pure b:Sem β):=⟨b,rfl,h⟩
def n9 {α β:Type}{Q:Ren->α->β->Prop}{π:Ren}{w:String}{s':Sem β}:aC P S Q (stuck w:Sem α) π s':=rfl
def S5 {α β:Type}{Q:Ren->α->β->Prop}{π:Ren}{w:Unsupported}{s':Sem β}(hl:(Halt.unsupported w).lost=aw:=by rfl):aC P S Q (unsupported w:Sem α) π s':=hl
def gV {π:Ren}:aC P S (λ_ a b=>a=P/\b=P) program π program:=⟨_,rfl,_,rfl,rfl,rfl⟩
def pj {π:Ren}(q:Question):aC P S mK (choose q) π (choose q):=⟨_,rfl,λn=>⟨n,rfl,rfl⟩⟩
def ZD {π:Ren}{a a':Addr}(h:dM π a a'):aC P S (VQ S) (load a) π (load a'):=⟨rfl,_,_,rfl,.inl ⟨h,λ_ v' hv=>⟨v',rfl,hv⟩⟩⟩
def QV {π:Ren}{a:Addr}{x:Int}(h:S.mem a=ae x):aC P S (λ_ u v=>u=.int .i64 x/\v=.int .i64 x) (load a) π (load a):=⟨rfl,_,_,rfl,.inr ⟨rfl,x,h,⟨_,rfl,rfl,rfl⟩⟩⟩
def ab4 {π:Ren}{a a':Addr}{v v':ao}(h:dM π a a')(hv:bx S π v v'):aC P S mK (store a v) π (store a' v'):=⟨rfl,_,_,_,rfl,h,hv,(),rfl,rfl⟩
def Fb {π:Ren}{o o':Obj}(h:kV S π o o'):aC P S (λπ a b=>π a b) (newObj o) π (newObj o'):=.inl ⟨_,_,rfl,h,λ_ _ r' _ hr=>⟨r',rfl,hr⟩⟩
def oZ {π:Ren}{r r':Nat}(h:π r r'):aC P S mK (shape r) π (shape r'):=⟨_,_,rfl,h,λx=>⟨x,rfl,rfl⟩⟩
def wK {π:Ren}{a a':Addr}(h:dM π a a'):aC P S mK (frozen a) π (frozen a'):=⟨_,_,rfl,h,λx=>⟨x,rfl,rfl⟩⟩
def ju {π:Ren}{r r':Nat}(h:π r r'):aC P S (λπ a b=>kV S π a b) (getObj r) π (getObj r'):=⟨_,_,rfl,h,λ_ o' ho=>⟨o',rfl,ho⟩⟩
def mX {π:Ren}{r r':Nat}{o o':Obj}(h:π r r')(ho:kV S π o o'):aC P S mK (setObj r o) π (setObj r' o'):=⟨_,_,_,rfl,h,ho,(),rfl,rfl⟩
def fJ {π:Ren}(ok:Ren.Ok P π)(t:aA):aC P S (λ_ a b=>a=b/\P.info? t=ae a) (typeInfo t) π (typeInfo t):=by
 refine aC.bind ok gV λbQ a b e h=> ?_
 obtain⟨rfl,rfl⟩:=h;cases b.info? t with
 |none=>exact n9
 |some i=>exact aB ⟨rfl,rfl⟩
def bG {π:Ren}(ok:Ren.Ok P π)(t:aA):aC P S (λ_ a b=>a=b/\P.underlying t=ae a) (underlying t) π (underlying t):=by
 refine aC.bind ok gV λbQ a b e h=> ?_
 obtain⟨rfl,rfl⟩:=h;cases b.underlying t with
 |none=>exact n9
 |some i=>exact aB ⟨rfl,rfl⟩
def fZ {π:Ren}(ok:Ren.Ok P π)(t:aA):aC P S mK (sizeOf t) π (sizeOf t):=aC.bind ok (fJ ok t) λ_ a b _ h=>by obtain⟨rfl,_⟩:=h;exact aB rfl
def S3 {π:Ren}(ok:Ren.Ok P π)(t:aA):aC P S mK (isAgg t) π (isAgg t):=aC.bind ok (bG ok t) λ_ a b _ h=>by obtain⟨rfl,_⟩:=h;cases a<;>exact aB rfl
def dM.add {π:Ren}{a a':Addr}(h:dM π a a')(n:Nat):dM π (a.add n) (a'.add n):=by
 unfold Addr.add
 split
 ·exact h
 ·exact⟨h.block,by simp[h.off],rfl⟩
def je.push {α β:Type}{R:α->β->Prop}{x:Array α}{y:Array β}(h:je R x y){a:α}{b:β}(jM:R a b):je R (x.push a) (y.push b):=by
 refine⟨by simp[h.size],λi c d hc hd=> ?_⟩;rw[mG]at hc hd;rw[<-h.size]at hd
 split at hc
 ·rename_i hi
  rw[if_pos hi]at hd;obtain rfl:=be hc;obtain rfl:=be hd;exact jM
 ·rename_i hi
  rw[if_neg hi]at hd;exact h.at_ i c d hc hd
def C3 {π:Ren}(ok:Ren.Ok P π){a a':Addr}(h:dM π a a'): ∀(n i:Nat) (acc JY:Array ao),cR S π acc JY->aC P S (VsQ S) (loadCellsFrom a i n acc) π (loadCellsFrom a' i n JY):=by
 intro n
 induction n generalizing π with
 |zero=>intro i acc JY fE;exact aB fE
 |succ n ih=>intro i acc JY fE;exact aC.bind ok (ZD (h.add i)) λbQ v v' e hv=>ih e.ok (h.mono e) (i+1) _ _ ((fE.mono λ_ _ x=>x.mono e).push hv)
def Cz {π:Ren}(ok:Ren.Ok P π){a a':Addr}(h:dM π a a')(n:Nat):aC P S (VsQ S) (loadCells a n) π (loadCells a' n):=C3 ok h n 0 _ _ ⟨rfl,by simp⟩
def Ju {π:Ren}(ok:Ren.Ok P π)(t:aA){a a':Addr}(h:dM π a a'):aC P S (VQ S) (loadVar t a) π (loadVar t a'):=by
 refine aC.bind ok (S3 ok t) λbQ b b' e hb=> ?_
 subst hb;cases b with
 |true=>
  simp only[if_true];refine aC.bind e.ok (fZ e.ok t) λRL n n' e' hn=> ?_
  subst hn;refine aC.bind e'.ok (Cz e'.ok ((h.mono e).mono e') n) λll c c' e3 hc=>aB (.agg hc.size hc.at_)
 |false=>exact ZD (h.mono e)
def uX {π:Ren}(ok:Ren.Ok P π){a a':Addr}(h:dM π a a'): ∀{vs vs':List ao} (i:Nat),du (bx S π) vs vs'->aC P S mK (storeCells a vs i) π (storeCells a' vs' i):=by
 intro vs
 induction vs generalizing π with
 |nil=>intro vs' i hv;cases hv;exact aB rfl
 |cons v vs ih=>
  intro vs' i hv;cases hv with
  |cons hv hr=>
   exact aC.bind ok (ab4 (h.add i) hv) λbQ _ _ e _=>ih e.ok (h.mono e) (i+1) (by
    clear ih
    induction hr with
    |nil=>exact .nil
    |cons x _ y=>exact .cons (x.mono e) y)
def du.mO {α β:Type}{R:α->β->Prop}{x:Array α}{y:Array β}(h:je R x y):du R x.toList y.toList:=by
 obtain⟨x⟩:=x;obtain⟨y⟩:=y;have hs:=h.size;have ha:=h.at_;simp at hs ha|-;clear h
 induction x generalizing y with
 |nil=>cases y with
  |nil=>exact .nil
  |cons b m=>simp at hs
 |cons a l ih=>cases y with
  |nil=>simp at hs
  |cons b m=>refine .cons (ha 0 a b (by simp) (by simp)) (ih m (by simpa using hs) λi c d hc hd=>ha (i+1) c d (by simpa using hc) (by simpa using hd))
def bx.cells {π:Ren}{v v':ao}(h:bx S π v v'):cR S π v.cells v'.cells:=by
 have one: ∀{x y:ao},bx S π x y->cR S π #[x] #[y]:=λ{x y} rB=>⟨rfl,λi a b ha hb=>by
  have hi:i=0:=by have:=(aI.1 ha).1;simpa using this
  subst hi;simp at ha hb;subst ha;subst hb;exact rB⟩
 cases h with
 |agg s i=>exact⟨s,i⟩
 |_=>exact one (by constructor<;>assumption)
def Q0 {π:Ren}(ok:Ren.Ok P π)(t:aA){a a':Addr}(h:dM π a a'){v v':ao}(hv:bx S π v v'):aC P S mK (storeVar t a v) π (storeVar t a' v'):=by
 refine aC.bind ok (fZ ok t) λbQ n n' e hn=> ?_
 subst hn;have hc:=(hv.mono e).cells;rw[<-hc.size]
 split
 ·exact rfl
 ·exact uX e.ok (h.mono e) 0 (du.mO hc)
def z6 {π:Ren}(t:aA)(ok:Ren.Ok P π){c c':Array ao}(h:cR S π c c'):aC P S AQ (newRow t c) π (newRow t c'):=aC.bind ok (Fb (.cells t (0,0) h)) λ_ _ _ _ hr=>aB ⟨hr,rfl,rfl⟩
def Oc {π:Ren}(t:aA)(ok:Ren.Ok P π){v v':ao}(h:bx S π v v'):aC P S AQ (newVar t v) π (newVar t v'):=z6 t ok h.cells
def BS (S:jK)(v:ao):Prop:= ∀π,bx S π v v
def tc (P:aS)(S:jK):Prop:= ∀t i v,P.info? t=ae i->i.zero=ae v->BS S v
def lY {π:Ren}(hz:tc P S)(ok:Ren.Ok P π)(t:aA):aC P S (λ_ a b=>a=b/\BS S a) (zeroValue t) π (zeroValue t):=by
 refine aC.bind ok (fJ ok t) λbQ i i' e h=> ?_
 obtain⟨rfl,hi⟩:=h;cases hz':i.zero with
 |none=>exact S5
 |some v=>exact aB ⟨rfl,hz t i v hi hz'⟩
end
section
variable {P:aS} {S:jK}
def kx {α β:Type}{Q:Ren->α->β->Prop}{π:Ren}(ok:Ren.Ok P π)(x x':RuntimeError)(hx:(∀a b c d,x≠ .typeAssertion a b c d)/\x≠ .panicNil):aC P S Q (runtimePanic x:Sem α) π (runtimePanic x':Sem β):=by
 refine aC.bind ok gV λbQ a b e h=> ?_
 cases x with
 |typeAssertion=>exact absurd rfl (hx.1 _ _ _ _)
 |panicNil=>exact absurd rfl hx.2
 |_=>exact rfl
def jR {α β:Type}{Q:Ren->α->β->Prop}{π:Ren}(ok:Ren.Ok P π)(m:String):aC P S Q (runtimePanic (.error m):Sem α) π (runtimePanic (.error m):Sem β):=kx ok _ _ ⟨by simp,by simp⟩
def rQ {α β:Type}{Q:Ren->α->β->Prop}{π:Ren}(ok:Ren.Ok P π):aC P S Q (runtimePanic .nilDeref:Sem α) π (runtimePanic .nilDeref:Sem β):=kx ok _ _ ⟨by simp,by simp⟩
def lA {α β:Type}{Q:Ren->α->β->Prop}{π:Ren}(ok:Ren.Ok P π)(k:IntKind)(i y:Int)(c:BoundsCode):aC P S Q (boundsPanic k i y c:Sem α) π (boundsPanic k i y c:Sem β):=by
 unfold boundsPanic
 split
 ·refine aC.bind (Q:=mK) ok ?_ λbQ a b e h=>by subst h;exact kx e.ok _ _ ⟨by simp,by simp⟩
  exact aC.bind ok (pj _) λbQ a b e h=>by subst h;exact aB rfl
 ·exact aC.bind (Q:=mK) ok (aB rfl) λbQ a b e h=>by subst h;exact kx e.ok _ _ ⟨by simp,by simp⟩
def tW {π:Ren}{v v':ao}(h:bx S π v v'):aC P S mK (asIntOf v) π (asIntOf v'):=by cases h<;>first|exact aB rfl|exact S5|exact n9
def zX {π:Ren}(ok:Ren.Ok P π){v v':ao}(h:bx S π v v'):aC P S mK (asInt v) π (asInt v'):=aC.bind ok (tW h) λ_ a b _ h=>by subst h;exact aB rfl
def E4 {π:Ren}{v v':ao}(h:bx S π v v'):aC P S mK (asBool v) π (asBool v'):=by cases h<;>first|exact aB rfl|exact n9
def abT {π:Ren}{v v':ao}(h:bx S π v v'):aC P S (VsQ S) (asAgg v) π (asAgg v'):=by
 cases h with
 |agg s i=>exact aB ⟨s,i⟩
 |_=>exact n9
def N4 {π:Ren}(ok:Ren.Ok P π){v v':ao}(h:bx S π v v'):aC P S AQ (asAddr v) π (asAddr v'):=by
 cases h with
 |pointer x=>exact aB x
 |fR=>exact rQ ok
 |_=>exact n9
def rR {π:Ren}{v v':ao}(h:bx S π v v'):aC P S AQ (Instr.sureAddr v) π (Instr.sureAddr v'):=by
 cases h with
 |pointer x=>exact aB x
 |_=>exact n9
def N8 {π:Ren}(ok:Ren.Ok P π)(t:aA){v v':ao}(h:bx S π v v'):aC P S (VQ S) (eh t v) π (eh t v'):=aC.bind ok (rR h) λ_ _ _ e ha=>Ju e.ok t ha
def Vb {π:Ren}(ok:Ren.Ok P π)(t:aA){v v' x x':ao}(h:bx S π v v')(hx:bx S π x x'):aC P S mK (eZ t v x) π (eZ t v' x'):=aC.bind ok (rR h) λ_ _ _ e ha=>Q0 e.ok t ha (hx.mono e)
def agW {π:Ren}(ok:Ren.Ok P π)(t:aA){v v':ao}(h:bx S π v v'):aC P S (VQ S) (Instr.box t v) π (Instr.box t v'):=aC.bind ok (Oc t ok h) λ_ _ _ _ ha=>aB (.pointer ha)
def abS {π:Ren}(hz:tc P S)(ok:Ren.Ok P π)(t:aA):aC P S (VQ S) (Instr.alloc t aw (.tuple #[])) π (Instr.alloc t aw (.tuple #[])):=by
 refine aC.bind ok (lY hz ok t) λbQ a b e h=> ?_
 obtain⟨rfl,h⟩:=h;exact aC.bind e.ok (Oc t e.ok (h bQ)) λ_ _ _ _ ha=>aB (.pointer ha)
def Od {π:Ren}(ok:Ren.Ok P π){r r':Nat}(h:π r r'):aC P S (λ_ a b=>a=ai/\b=ai) (viewAt r) π (viewAt r'):=by
 unfold viewAt;refine aC.bind ok (oZ h) λbQ a b e hx=> ?_
 subst hx;cases a with
 |some x=>exact aB ⟨rfl,rfl⟩
 |none=>
  refine aC.bind e.ok (ju (e.le _ _ h)) λbQ a b e ho=> ?_
  cases ho<;>exact aB ⟨rfl,rfl⟩
def Fc {π:Ren}(ok:Ren.Ok P π){a a':Addr}(h:dM π a a'):aC P S mK (noView a) π (noView a'):=by
 unfold noView;refine aC.bind ok (Od ok h.block) λbQ x y e hx=> ?_
 obtain⟨rfl,rfl⟩:=hx;exact aB rfl
def rP {π:Ren}(ok:Ren.Ok P π){a a':Addr}(h:dM π a a'):aC P S mK (byteOf a) π (byteOf a'):=by
 unfold byteOf;rw[h.spot,h.off];cases a.spot with
 |some s=>exact aB rfl
 |none=>
  refine aC.bind ok gV λfH p p' e1 hp=> ?_
  obtain⟨rfl,rfl⟩:=hp;refine aC.bind e1.ok (Fc e1.ok (h.mono e1)) λjD _ _ e2 _=> ?_
  refine aC.bind e2.ok (oZ ((h.mono e1).mono e2).block) λll x y e3 hx=> ?_
  subst hx;cases x with
  |none=>exact n9
  |some x=>
   simp only
   split
   ·exact aB rfl
   ·split
    ·exact aB rfl
    ·exact n9
def ZG {π:Ren}(ok:Ren.Ok P π){a a':Addr}(h:dM π a a')(n m:Nat):aC P S AQ (partAt a n m) π (partAt a' n m):=by
 unfold partAt;refine aC.bind ok (rP ok h) λfH x y e1 hx=> ?_
 subst hx;have h1:dM fH {block:=a.block,off:=a.off+n} {block:=a'.block,off:=a'.off+n}:=⟨(h.mono e1).block,by simp[h.off],rfl⟩;refine aC.bind e1.ok (rP e1.ok h1) λjD x' y' e2 hx=> ?_
 subst hx
 split
 ·exact aB (h1.mono e2)
 ·exact aB ⟨(h1.mono e2).block,(h1.mono e2).off,rfl⟩
def K7 {π:Ren}(ok:Ren.Ok P π){a a':Addr}(h:dM π a a')(f:Field):aC P S AQ (fieldPlace a f) π (fieldPlace a' f):=by
 unfold fieldPlace;refine aC.bind ok (fZ ok _) λfH x y e1 hx=> ?_
 subst hx
 split
 ·exact ZG e1.ok (h.mono e1) _ _
 ·exact aB ((h.mono e1).add _)
def U7 {π:Ren}(ok:Ren.Ok P π)(s:aA){v v':ao}(h:bx S π v v')(f:Nat):aC P S (VQ S) (Instr.fieldAt s v f) π (Instr.fieldAt s v' f):=by
 unfold Instr.fieldAt;refine aC.bind ok (bG ok s) λfH x y e1 hx=> ?_
 obtain⟨rfl,_⟩:=hx
 split
 ·split
  ·refine aC.bind e1.ok (rR (h.mono e1)) λjD a a' e2 ha=> ?_
   exact aC.bind e2.ok (K7 e2.ok ha _) λll b b' e3 hb=>aB (.pointer hb)
  ·exact n9
 ·exact n9
end
section
variable {P:aS} {S:jK}
def xt (t:aA)(k:IntKind)(i:Int)(x:Option Addr×Nat×aA):Sem ao:=do
 let(base,len,elem):=x
 let aiu:=len<=1&&(match<-underlying t with| .array ..=>aw|_=>ay)
 match base with
 |some a=>
  if 0<=i/\i<len then pure (.pointer (ae (a.add (i.toNat*(<-sizeOf elem)))))
  else if aiu then unsupported (.noEntry "op/indexAddr.an index out of range at an array of length 0 or 1 (ledger 616)")
  else boundsPanic k i len .index
 |none=>boundsPanic k i 0 .index
def Bq {π:Ren}(ok:Ren.Ok P π)(t:aA)(k:IntKind)(n:Int){o o':Option Addr}(h:gN (dM π) o o')(l:Nat)(el:aA):aC P S (VQ S) (xt t k n (o,l,el)) π (xt t k n (o',l,el)):=by
 unfold xt;refine aC.bind ok (bG ok t) λvJ d d' e4 hd=> ?_
 obtain⟨rfl,_⟩:=hd;cases h with
 |none=>exact lA e4.ok _ _ _ _
 |some ha=>
  simp only
  split
  ·exact aC.bind e4.ok (fZ e4.ok _) λLK s s' e5 hs=>by subst hs;exact aB (.pointer (((ha.mono e4).mono e5).add _))
  ·split<;>(split<;>first|exact rfl|exact lA e4.ok _ _ _ _)
def Js {π:Ren}(ok:Ren.Ok P π)(t:aA){x x' i i':ao}(hx:bx S π x x')(hi:bx S π i i'):aC P S (VQ S) (Instr.indexAt t x i) π (Instr.indexAt t x' i'):=by
 unfold Instr.indexAt;refine aC.bind ok (tW hi) λfH a b e1 h=> ?_
 subst h;obtain⟨k,n⟩:=a;simp only;refine aC.bind e1.ok (bG e1.ok t) λjD d d' e2 hd=> ?_
 obtain⟨rfl,_⟩:=hd;have Hl:=(hx.mono e1).mono e2;cases d with
 |array l el=>simp only;exact aC.bind e2.ok (rR Hl) λll a a' e3 ha=>Bq e3.ok t k n (.some ha) l el
 |slice el=>
  cases Hl with
  |kE l c=>exact Bq e2.ok t k n .none l el
  |slice l c ha=>exact Bq e2.ok t k n (.some ha) l el
  |_=>exact rfl
 |_=>cases Hl<;>exact rfl
def La {π:Ren}(ok:Ren.Ok P π){x x':ao}(h:bx S π x x')(y:Nat)(c:BoundsCode):aC P S mK (Instr.sliceBound x y c) π (Instr.sliceBound x' y c):=by
 unfold Instr.sliceBound;refine aC.bind ok (tW h) λfH a b e1 h=> ?_
 subst h;obtain⟨k,i⟩:=a;simp only
 split
 ·exact aB rfl
 ·exact lA e1.ok _ _ _ _
def Hs {α:Type}{Q:Ren->α->α->Prop}{π:Ren}(ok:Ren.Ok P π){x x':ao}(h:bx S π x x')(y:Nat)(c:BoundsCode){k k':Nat->Sem α}(hk: ∀bQ n,Ext P π bQ->aC P S Q (k n) bQ (k' n)):aC P S Q (Instr.sliceBound x y c >>= k) π (Instr.sliceBound x' y c >>= k'):=aC.bind ok (La ok h y c) λbQ a b e h=>by subst h;exact hk bQ a e
def mY {π:Ren}(ok:Ren.Ok P π)(b:Bool)(len cap:Nat){lo lo' hi gK mx mx':Option ao}(hl:gN (bx S π) lo lo')(hh:gN (bx S π) hi gK)(hm:gN (bx S π) mx mx'):aC P S mK (Instr.sliceBounds b len cap lo hi mx) π (Instr.sliceBounds b len cap lo' gK mx'):=by
 unfold Instr.sliceBounds;cases hm with
 |none=>cases hh with
  |none=>cases hl with
   |none=>exact aB rfl
   |some x=>exact Hs ok x _ _ λ_ _ _=>aB rfl
  |some y=>cases hl with
   |none=>exact Hs ok y _ _ λ_ _ _=>aB rfl
   |some x=>exact Hs ok y _ _ λ_ _ e=>Hs e.ok (x.mono e) _ _ λ_ _ _=>aB rfl
 |some z=>cases hh with
  |none=>exact Hs ok z _ _ λ_ _ _=>rfl
  |some y=>cases hl with
   |none=>exact Hs ok z _ _ λ_ _ e=>Hs e.ok (y.mono e) _ _ λ_ _ _=>aB rfl
   |some x=>exact Hs ok z _ _ λ_ _ e=>Hs e.ok (y.mono e) _ _ λ_ _ e'=>Hs e'.ok ((x.mono e).mono e') _ _ λ_ _ _=>aB rfl
def ab3 {π:Ren}(ok:Ren.Ok P π)(t:aA){x x':ao}(hx:bx S π x x'){lo lo' hi gK mx mx':Option ao}(hl:gN (bx S π) lo lo')(hh:gN (bx S π) hi gK)(hm:gN (bx S π) mx mx'):aC P S (VQ S) (Instr.slice t x lo hi mx) π (Instr.slice t x' lo' gK mx'):=by
 unfold Instr.slice;refine aC.bind ok (bG ok t) λfH d d' e1 hd=> ?_
 obtain⟨rfl,_⟩:=hd;have hx1:=hx.mono e1;have o8:=hl.mono λ_ _ x=>bx.mono e1 x
 have hh1:=hh.mono λ_ _ x=>bx.mono e1 x
 have hm1:=hm.mono λ_ _ x=>bx.mono e1 x
 cases d with
 |string=>
  cases hx1 with
  |string s=>
   simp only;cases hm with
   |some=>exact rfl
   |none=>exact aC.bind e1.ok (mY e1.ok _ _ _ o8 hh1 .none) λ_ a b e h=>by subst h;exact aB (.string _)
  |_=>exact rfl
 |slice el=>
  cases hx1 with
  |kE l c=>
   simp only;refine aC.bind e1.ok (mY e1.ok _ _ _ o8 hh1 hm1) λjD a b e2 h=> ?_
   subst h;refine aC.bind e2.ok (fZ e2.ok _) λll n n' e3 h=> ?_
   subst h;obtain⟨l,h,m⟩:=a;simp only[Option.map_none,ite_self];exact aB (.kE _ _)
  |slice l c ha=>
   simp only;refine aC.bind e1.ok (mY e1.ok _ _ _ o8 hh1 hm1) λjD a b e2 h=> ?_
   subst h;refine aC.bind e2.ok (fZ e2.ok _) λll n n' e3 h=> ?_
   subst h;obtain⟨l,h,m⟩:=a;simp only
   split
   ·exact aB (.slice _ _ ((ha.mono e2).mono e3))
   ·exact aB (.slice _ _ (((ha.mono e2).mono e3).add _))
  |_=>exact rfl
 |pointer arr=>
  simp only;refine aC.bind e1.ok (N4 e1.ok hx1) λjD a a' e2 ha=> ?_
  refine aC.bind e2.ok (bG e2.ok arr) λll d d' e3 hd=> ?_
  obtain⟨rfl,_⟩:=hd;cases d with
  |array n el=>
   have e13:=e2.trans e3;refine aC.bind e3.ok (mY e3.ok _ _ _ (o8.mono λ_ _ x=>bx.mono e13 x) (hh1.mono λ_ _ x=>bx.mono e13 x) (hm1.mono λ_ _ x=>bx.mono e13 x)) λvJ b b' e4 h=> ?_
   subst h;refine aC.bind e4.ok (fZ e4.ok _) λLK n n' e5 h=> ?_
   subst h;obtain⟨l,h,m⟩:=b;have ha5:=((ha.mono e3).mono e4).mono e5;simp only
   split
   ·exact aB (.slice _ _ ha5)
   ·exact aB (.slice _ _ (ha5.add _))
  |_=>exact rfl
 |_=>cases hx1<;>exact rfl
def Va {π:Ren}(ok:Ren.Ok P π)(t:aA){x x':ao}(hx:bx S π x x'){lo lo' hi gK mx mx':Option ao}(hl:gN (bx S π) lo lo')(hh:gN (bx S π) hi gK)(hm:gN (bx S π) mx mx'):aC P S (VQ S) (Instr.sliceAt t x lo hi mx) π (Instr.sliceAt t x' lo' gK mx'):=by
 unfold Instr.sliceAt;refine aC.bind ok (bG ok t) λfH d d' e1 hd=> ?_
 obtain⟨rfl,_⟩:=hd;have o8:=hl.mono λ_ _ x=>bx.mono e1 x
 have hh1:=hh.mono λ_ _ x=>bx.mono e1 x
 have hm1:=hm.mono λ_ _ x=>bx.mono e1 x
 cases d with
 |array n el=>
  simp only;refine aC.bind e1.ok (rR (hx.mono e1)) λjD a a' e2 ha=> ?_
  refine aC.bind e2.ok (mY e2.ok _ _ _ (o8.mono λ_ _ x=>bx.mono e2 x) (hh1.mono λ_ _ x=>bx.mono e2 x) (hm1.mono λ_ _ x=>bx.mono e2 x)) λvJ b b' e4 h=> ?_
  subst h;refine aC.bind e4.ok (fZ e4.ok _) λLK n n' e5 h=> ?_
  subst h;obtain⟨l,h,m⟩:=b;have ha5:=(ha.mono e4).mono e5;simp only
  split
  ·exact aB (.slice _ _ ha5)
  ·exact aB (.slice _ _ (ha5.add _))
 |_=>exact ab3 e1.ok t (hx.mono e1) o8 hh1 hm1
end
section
variable {P:aS} {S:jK}
def je.extract {α β:Type}{R:α->β->Prop}{x:Array α}{y:Array β}(h:je R x y)(a b:Nat):je R (x.extract a b) (y.extract a b):=by
 refine⟨by simp[h.size],λi c d hc hd=> ?_⟩;rw[Array.getElem?_extract]at hc hd;rw[<-h.size]at hd
 split at hc
 ·rename_i hi
  rw[if_pos hi]at hd;exact h.at_ _ c d hc hd
 ·cases hc
def pT {π:Ren}(ok:Ren.Ok P π)(t:aA){c c':Array ao}(h:cR S π c c')(off:Nat):aC P S (VQ S) (part t c off) π (part t c' off):=by
 unfold part;refine aC.bind ok (S3 ok t) λfH b b' e1 hb=> ?_
 subst hb;have h1:cR S fH c c':=h.mono λ_ _ x=>x.mono e1
 cases b with
 |true=>
  simp only[if_true];refine aC.bind e1.ok (fZ e1.ok t) λjD n n' e2 hn=> ?_
  subst hn;have:=(h1.extract off (off+n)).mono λ_ _ x=>bx.mono e2 x
  exact aB (.agg this.size this.at_)
 |false=>
  simp only[dP,if_false];cases hc:c[off]? with
  |none=>exact rfl
  |some v=>obtain⟨v',Wj,hv⟩:=h1.get hc;rw[Wj];exact aB hv
def abY {π:Ren}(ok:Ren.Ok P π)(t:aA){x x':ao}(h:bx S π x x')(f:Nat):aC P S (VQ S) (Instr.field t x f) π (Instr.field t x' f):=by
 unfold Instr.field;refine aC.bind ok (bG ok t) λfH d d' e1 hd=> ?_
 obtain⟨rfl,_⟩:=hd;cases d with
 |struct fields=>
  simp only;cases fields[f]? with
  |none=>exact rfl
  |some fl=>exact aC.bind e1.ok (abT (h.mono e1)) λjD a a' e2 ha=>pT e2.ok _ ha _
 |_=>exact rfl
def abZ {π:Ren}(ok:Ren.Ok P π)(t:aA){x x' i i':ao}(hx:bx S π x x')(hi:bx S π i i'):aC P S (VQ S) (Instr.index t x i) π (Instr.index t x' i'):=by
 unfold Instr.index;refine aC.bind ok (tW hi) λfH a b e1 h=> ?_
 subst h;obtain⟨k,n⟩:=a;simp only;refine aC.bind e1.ok (bG e1.ok t) λjD d d' e2 hd=> ?_
 obtain⟨rfl,_⟩:=hd;have Hl:=(hx.mono e1).mono e2;cases d with
 |array l el=>
  cases Hl with
  |agg s ii=>
   simp only
   split
   ·exact aC.bind e2.ok (fZ e2.ok _) λll m m' e3 hm=>by subst hm;exact pT e3.ok _ (je.mono ⟨s,ii⟩ λ_ _ x=>bx.mono e3 x) _
   ·exact lA e2.ok _ _ _ _
  |_=>exact rfl
 |string=>
  cases Hl with
  |string s=>
   simp only
   split
   ·exact aB (.int _ _)
   ·exact lA e2.ok _ _ _ _
  |_=>exact rfl
 |_=>cases Hl<;>exact rfl
def U6 {π:Ren}{x x':ao}(h:bx S π x x')(i:Nat):aC P S (VQ S) (Instr.extract x i) π (Instr.extract x' i):=by
 unfold Instr.extract;cases h with
 |tuple s ii=>
  rename_i x y
  simp only;cases hc:x[i]? with
  |none=>exact rfl
  |some v=>obtain⟨v',Wj,hv⟩:=je.get (R:=bx S π) ⟨s,ii⟩ hc;rw[Wj];exact aB hv
 |_=>exact rfl
end
end Rel
section
open Go.RowKit
def FI (X:BitVec 64):IntKind.i64.wrap (X.toNat:Int)=X.toInt:=by
 have h:=X.isLt;rw[IntKind.wrap_i64,BitVec.toInt_eq_toNat_cond]
 split<;>omega
def Mn (a b:Int):bits .and .i64 a b=(BitVec.ofInt 64 a &&& BitVec.ofInt 64 b).toInt:=FI _
def aaS (a b:Int):bits .or .i64 a b=(BitVec.ofInt 64 a ||| BitVec.ofInt 64 b).toInt:=FI _
def lU (m a b c:Int):Bool:=(bits .and .i64 m a==a)&&(bits .and .i64 m b==0)&&(c==0||bits .and .i64 m c !=0)
def Fits (a:Int):Prop:= -9223372036854775808<=a/\a<=9223372036854775807
def and_zero (m:Int):bits .and .i64 m 0=0:=by rw[Mn];simp
def parts {m a b c:Int}:lU m a b c=(lU m a 0 0&&lU m 0 b 0&&lU m 0 0 c):=by simp[lU,and_zero]
def KI (m:Int):lU m 0 0 0=aw:=by simp[lU,and_zero]
structure aQ where
 k:Int
 v:List Int
def aQ.list (b:aQ):List Int:=b.k::b.v
structure Query where
 qx:Int
 nt:Int
 any:Int
def Query.list (q:Query):List Int:=[q.qx,q.nt,q.any]
structure Sys where
 q:Query
 read:Int
 write:Int
 act:Int
 n:Int
def Sys.list (s:Sys):List Int:=[s.q.qx,s.q.nt,s.q.any,s.read,s.write,s.act,s.n]
def cY (m:Int):Bool:=decide (0<=m)&&decide (m<=255)
def lG (b:aQ)(j:Nat):Int:=if b.k.toNat.testBit j=ay/\b.v.getD j 0≠0 then 4 else if b.v.getD j 0< -1000000000\/1000000000<b.v.getD j 0 then 1 else 0
def iM:List Int->Int
 | []=>0
 |e::r=>if e=0 then iM r else e
def bI (b:aQ):Int:=if cY b.k then iM ((bP 8).map (lG b))else 1
def kr (q:Query):Int:=if cY q.qx&&cY q.nt&&cY q.any then 0 else 1
def fa (s:Sys):Int:=
 if kr s.q≠0 then kr s.q
 else if !(cY s.read)|| !(cY s.write)||decide (s.act<1)||decide (3<s.act)||decide (s.n< -1000000)||decide (1000000<s.n)then 1
 else if(decide (s.act=3)&&decide (s.n≠0))||(decide (s.act≠2)&&decide (s.read≠0))then 4 else 0
def fO (m:Int)(q:Query):Bool:=lU m q.qx q.nt q.any
def vj (l r:List Int)(h: ∀e∈l,e=0):iM (l++r)=iM r:=by
 induction l with
 |nil=>rfl
 |cons a l ih=>rw[dF,iM,if_pos (h a (by simp)),ih λe he=>h e (by simp[he])]
def B2 (b:aQ)(j:Nat)(hj:j<8)(hs:cY b.k=aw)(h0: ∀i,i<j->lG b i=0)(he:lG b j≠0):bI b=lG b j:=by unfold bI;rw[if_pos hs,show(8:Nat)=j+(1+(7-j))from by omega,List.range_add,ey,vj _ _ (by simpa using h0),dA 1,List.range_succ_eq_map];simp[iM,he]
def sG (b:aQ)(hs:cY b.k=aw)(h0: ∀i,i<8->lG b i=0):bI b=0:=by unfold bI;rw[if_pos hs];have:=vj ((bP 8).map (lG b)) [] (by simpa using h0);rw[ew]at this;exact this
def mU (b:aQ)(h:bI b=0):(0<=b.k/\b.k<=255)/\ ∀j,j<8->(b.k.toNat.testBit j=ay->b.v.getD j 0=0)/\ -1000000000<=b.v.getD j 0/\b.v.getD j 0<=1000000000:=by
 have hs:cY b.k=aw:=by
  unfold bI at h;split at h
  ·assumption
  ·simp at h
 refine⟨by simpa[cY]using hs,?_⟩;have xN: ∀j,j<8->lG b j=0:=by
  intro j
  induction j using mQ with
  |ind j ih=>
   intro hj;by_cases he:lG b j=0
   ·exact he
   ·have:=B2 b j hj hs (λi hi=>ih i hi (by omega)) he;exact absurd (this.symm.trans h) he
 intro j hj;have hv:=xN j hj;unfold lG at hv
 split at hv
 ·simp at hv
 ·rename_i h1
  split at hv
  ·simp at hv
  ·rename_i h2
   refine⟨λhb=> ?_,by omega⟩;by_cases hz:b.v.getD j 0=0
   ·exact hz
   ·exact absurd ⟨hb,hz⟩ h1
def Xt (b:aQ)(hk:0<=b.k/\b.k<=255)(h: ∀j,j<8->(b.k.toNat.testBit j=ay->b.v.getD j 0=0)/\ -1000000000<=b.v.getD j 0/\b.v.getD j 0<=1000000000):bI b=0:=by
 refine sG b (by simpa[cY]using hk) λj hj=> ?_
 obtain⟨h1,h2,h3⟩:=h j hj;unfold lG;rw[if_neg (λhh=>hh.2 (h1 hh.1)),if_neg (by omega)]
def CU (n:Int):Int:=if n< -1000000000 then-1000000000 else if 1000000000<n then 1000000000 else n
def wl (b:aQ)(s:Sys):List Nat:=kinds (b.k.toNat &&& s.write.toNat)
def rl (b:aQ)(s:Sys):List Nat:=kinds (b.k.toNat &&& s.read.toNat)
def oe (b:aQ)(s:Sys)(l:List Nat):Int:=l.foldl (λa k=>a+b.v.getD k 0) s.n
def jq (b:aQ)(s:Sys)(l:List Nat)(i:Nat):Int:=if s.act=1 then CU (b.v.getD (l.getD i 0) 0+s.n)else if s.act=2 then CU (oe b s (rl b s))else b.v.getD (l.getD ((i+1) % l.length) 0) 0
def rO (f:Nat->Int)(l:List Nat)(v:List Int):Nat->List Int
 |0=>v
 |i+1=>(rO f l v i).set (l.getD i 0) (f i)
def cD (b:aQ)(s:Sys):aQ:=if fO b.k s.q then⟨b.k,rO (jq b s (wl b s)) (wl b s) b.v (wl b s).length⟩else b
def oP:aQ:=⟨0,[0,0,0,0,0,0,0,0]⟩
def zS (f:Nat->Int)(l:List Nat)(v:List Int)(i:Nat):(rO f l v i).length=v.length:=by
 induction i with
 |zero=>rfl
 |succ i ih=>simp[rO,ih]
def oV {l:List Nat}{j:Nat}(h:j<l.length):l.getD j 0=l[j]:=by simp[bB,aq h]
def wj (v:List Int)(i k:Nat)(x:Int):(v.set i x).getD k 0=if i=k/\k<v.length then x else v.getD k 0:=by
 simp only[bB,fh];by_cases h:i=k
 ·subst h;by_cases h2:i<v.length
  ·simp[h2]
  ·simp[h2]
 ·simp[h]
def SV (f:Nat->Int)(l:List Nat)(v:List Int)(hn:l.Nodup): ∀i,i<=l.length-> ∀j,j<i->l.getD j 0<v.length->(rO f l v i).getD (l.getD j 0) 0=f j:=by
 intro i
 induction i with
 |zero=>intro _ j hj;omega
 |succ i ih=>
  intro hi j hj hv;unfold rO;rw[wj,zS];by_cases Wp:j=i
  ·subst Wp;rw[if_pos ⟨rfl,hv⟩]
  ·rw[if_neg]
   ·exact ih (by omega) j (by omega) hv
   ·rintro⟨e,_⟩;rw[oV (show i<l.length by omega),oV (show j<l.length by omega)]at e;exact(lO.1 (List.nodup_iff_pairwise_ne.1 hn) j i (by omega) (by omega) (by omega)) e.symm
def NV (f:Nat->Int)(l:List Nat)(v:List Int)(k:Nat)(hk:k∉l): ∀i,i<=l.length->(rO f l v i).getD k 0=v.getD k 0:=by
 intro i
 induction i with
 |zero=>intro _;rfl
 |succ i ih=>
  intro hi;unfold rO;rw[wj,if_neg]
  ·exact ih (by omega)
  ·rintro⟨e,_⟩;rw[oV (show i<l.length by omega)]at e;exact hk (e▸bg _)
def zP {l:List Nat}{k:Nat}(h:k∈l): ∃j,j<l.length/\l.getD j 0=k:=by obtain⟨j,hj,e⟩:=dK.1 h;exact⟨j,hj,by simp[bB,aq hj,e]⟩
def oT (b:aQ)(s:Sys):(cD b s).k=b.k:=by unfold cD;split<;>rfl
def fX (b:aQ)(s:Sys):(cD b s).v.length=b.v.length:=by unfold cD;split<;>simp[zS]
def aam (b:aQ)(s:Sys):(wl b s).Nodup:=sk _
def nz (b:aQ)(s:Sys)(k:Nat):k∈wl b s↔k<8/\b.k.toNat.testBit k=aw/\s.write.toNat.testBit k=aw:=by unfold wl;rw[jN,Nat.testBit_and,aG]
def gS (b:aQ)(s:Sys)(k:Nat)(hk:k∉wl b s):(cD b s).v.getD k 0=b.v.getD k 0:=by
 unfold cD
 split
 ·exact NV _ _ _ _ hk _ (ax _)
 ·rfl
def qY (b:aQ)(s:Sys)(hb:b.v.length=8)(hq:fO b.k s.q=aw)(j:Nat)(hj:j<(wl b s).length):(cD b s).v.getD ((wl b s).getD j 0) 0=jq b s (wl b s) j:=by
 unfold cD;rw[if_pos hq];refine SV _ _ _ (aam b s) _ (ax _) j hj ?_;have hm:(wl b s).getD j 0∈wl b s:=by simp[bB,aq hj]
 have:=((nz b s _).1 hm).1;omega
def D8 (n:Int): -1000000000<=CU n/\CU n<=1000000000:=by unfold CU;split<;>(try split)<;>omega
def zt (b:aQ)(s:Sys)(hb:b.v.length=8)(he:bI b=0):bI (cD b s)=0:=by
 obtain⟨hk,hv⟩:=mU b he;refine Xt _ (by rw[oT];exact hk) λj hj=> ?_
 rw[oT];by_cases hm:fO b.k s.q=aw/\j∈wl b s
 ·have hq:=hm.1;have hm:=hm.2;obtain⟨i,hi,M9⟩:=zP hm;have vl:=qY b s hb hq i hi;rw[M9]at vl;have nm:=((nz b s j).1 hm).2.1;refine⟨λh=>absurd (nm.symm.trans h) (by simp),?_⟩;rw[vl];unfold jq
  split
  ·exact D8 _
  ·split
   ·exact D8 _
   ·have bJ:(i+1) % (wl b s).length<(wl b s).length:=Nat.mod_lt _ (by omega);have hm2:(wl b s).getD ((i+1) % (wl b s).length) 0∈wl b s:=by simp[bB,aq bJ]
    exact(hv _ ((nz b s _).1 hm2).1).2
 ·have vl:(cD b s).v.getD j 0=b.v.getD j 0:=by
   by_cases hq:fO b.k s.q=aw
   ·exact gS b s j λh=>hm ⟨hq,h⟩
   ·unfold cD;rw[if_neg hq]
  rw[vl];exact hv j hj
def KG: ∀a b:Int,0<=a/\a<=255->0<=b/\b<=255->bits .and .i64 a b=((a.toNat &&& b.toNat:Nat):Int)/\a.toNat &&& b.toNat<256:=by
 have h: ∀a b:Fin 256,bits .and .i64 (a.val:Int) (b.val:Int)=((a.val &&& b.val:Nat):Int)/\a.val &&& b.val<256:=by
  intro a b;have ha:=a.isLt;have hb:=b.isLt;have bJ:a.val &&& b.val<256:=Nat.lt_of_le_of_lt Nat.and_le_left ha;refine⟨?_,bJ⟩;rw[Mn];have e1: ∀x:Nat,x<256->BitVec.ofInt 64 (x:Int)=BitVec.ofNat 64 x:=λx _=>by rw[BitVec.ofInt_natCast]
  rw[e1 _ ha,e1 _ hb,<-BitVec.ofNat_and,BitVec.toInt_eq_toNat_cond,BitVec.toNat_ofNat,Nat.mod_eq_of_lt (by omega)];rw[if_pos (by omega)]
 intro a b ha hb;have:=h ⟨a.toNat,by omega⟩ ⟨b.toNat,by omega⟩;simp only[Int.toNat_of_nonneg ha.1,Int.toNat_of_nonneg hb.1]at this;exact this
def gQ (s t:Sys):Bool:=bits .or .i64 (bits .and .i64 s.write (bits .or .i64 t.read t.write)) (bits .and .i64 t.write s.read) !=0
def OW {x:Nat}(h:x<256):(BitVec.ofNat 64 x).toInt=(x:Int):=by rw[BitVec.toInt_eq_toNat_cond,BitVec.toNat_ofNat,Nat.mod_eq_of_lt (by omega),if_pos (by omega)]
def Ct {a:Int}(h:0<=a/\a<=255):BitVec.ofInt 64 a=BitVec.ofNat 64 a.toNat:=by have:=BitVec.ofInt_natCast 64 a.toNat;rwa[Int.toNat_of_nonneg h.1]at this
def ada (a b:Int)(ha:0<=a/\a<=255)(hb:0<=b/\b<=255):bits .or .i64 a b=((a.toNat ||| b.toNat:Nat):Int)/\a.toNat ||| b.toNat<256:=by have bJ:a.toNat ||| b.toNat<2^8:=Nat.or_lt_two_pow (by omega) (by omega);refine⟨?_,bJ⟩;rw[aaS,Ct ha,Ct hb,<-BitVec.ofNat_or,OW bJ]
def xh {s t:Sys}(h1:cY s.read=aw)(h2:cY s.write=aw)(h3:cY t.read=aw)(h4:cY t.write=aw):gQ s t=aw↔ ∃k,k<8/\((s.write.toNat.testBit k=aw/\(t.read.toNat.testBit k=aw\/t.write.toNat.testBit k=aw))\/(t.write.toNat.testBit k=aw/\s.read.toNat.testBit k=aw)):=by
 simp only[cY,aG,decide_eq_true_eq]at h1 h2 h3 h4;obtain⟨e1,l1⟩:=ada _ _ h3 h4;obtain⟨e2,l2⟩:=KG s.write ((t.read.toNat ||| t.write.toNat:Nat):Int) h2 (by omega);obtain⟨e3,l3⟩:=KG t.write s.read h4 h1;unfold gQ;rw[e1,e2,e3];obtain⟨e4,l4⟩:=ada ((s.write.toNat &&& ((t.read.toNat ||| t.write.toNat:Nat):Int).toNat:Nat):Int) ((t.write.toNat &&& s.read.toNat:Nat):Int) (by omega) (by omega);rw[e4];simp only[fw]at*;generalize hX:(s.write.toNat &&& (t.read.toNat ||| t.write.toNat)) ||| (t.write.toNat &&& s.read.toNat)=X at*;have nm: ∀k,X.testBit k=((s.write.toNat.testBit k&&(t.read.toNat.testBit k||t.write.toNat.testBit k))||(t.write.toNat.testBit k&&s.read.toNat.testBit k)):=by intro k;rw[<-hX];simp[Nat.testBit_or,Nat.testBit_and]
 constructor
 ·intro h;have eb:X≠0:=by intro h0;rw[h0]at h;simp at h
  obtain⟨k,hk⟩:=Nat.exists_testBit_of_ne_zero eb;refine⟨k,?_,?_⟩
  ·apply Decidable.byContradiction;intro tD;have bJ:X<2^k:=cc l4 (bM (by decide:256<=2^8) (Nat.pow_le_pow_right (by omega) (by omega)));rw[Nat.testBit_lt_two_pow bJ]at hk;exact absurd hk (by simp)
  ·rw[nm]at hk;simpa using hk
 ·rintro⟨k,_,hk⟩;have Cg:X.testBit k=aw:=by rw[nm];simpa using hk
  have eb:X≠0:=by intro h0;rw[h0]at Cg;simp at Cg
  simp;omega
def PO {s t:Sys}(h1:cY s.read=aw)(h2:cY s.write=aw)(h3:cY t.read=aw)(h4:cY t.write=aw):gQ t s=gQ s t:=by
 have a:=xh h1 h2 h3 h4;have b:=xh h3 h4 h1 h2;rw[l8,a,b];constructor
 ·rintro⟨k,hk,h⟩;refine⟨k,hk,?_⟩;rcases h with⟨h,h'|h'⟩|⟨h,h'⟩
  ·exact bO ⟨h,h'⟩
  ·exact bm ⟨h',bO h⟩
  ·exact bm ⟨h,bm h'⟩
 ·rintro⟨k,hk,h⟩;refine⟨k,hk,?_⟩;rcases h with⟨h,h'|h'⟩|⟨h,h'⟩
  ·exact bO ⟨h,h'⟩
  ·exact bm ⟨h',bO h⟩
  ·exact bm ⟨h,bm h'⟩
def Ii {a b:aQ}(hk:a.k=b.k)(ha:a.v.length=8)(hb:b.v.length=8)(h: ∀k,k<8->a.v.getD k 0=b.v.getD k 0):a=b:=by
 cases a with|mk ak av=>cases b with|mk bk bv=>
 simp only at hk ha hb h;subst hk;congr 1;apply List.ext_getElem (by omega);intro i h1 h2;have:=h i (by omega);simpa[bB,aq h1,aq h2]using this
def Ib {b b':aQ}(h:b'.k=b.k)(s:Sys):wl b' s=wl b s:=by unfold wl;rw[h]
def aip {b b':aQ}(h:b'.k=b.k)(s:Sys):rl b' s=rl b s:=by unfold rl;rw[h]
def uT {b b':aQ}{s:Sys}{l:List Nat}{i:Nat}(hk:b'.k=b.k)(hi:i<l.length)(h1: ∀k∈l,b'.v.getD k 0=b.v.getD k 0)(h2:s.act=2-> ∀k∈rl b s,b'.v.getD k 0=b.v.getD k 0):jq b' s l i=jq b s l i:=by
 have hm: ∀j,j<l.length->l.getD j 0∈l:=λj hj=>by simp[bB,aq hj]
 unfold jq
 split
 ·rw[h1 _ (hm i hi)]
 ·split
  ·rename_i h
   rw[aip hk];have: ∀(l:List Nat) (a:Int),(∀k∈l,b'.v.getD k 0=b.v.getD k 0)->l.foldl (λa k=>a+b'.v.getD k 0) a=l.foldl (λa k=>a+b.v.getD k 0) a:=by
    intro l
    induction l with
    |nil=>intro a _;rfl
    |cons k l ih=>intro a h;rw[l9,l9,h k (by simp),ih _ λq hq=>h q (by simp[hq])]
   unfold oe;rw[this _ _ (h2 h)]
  ·exact h1 _ (hm _ (Nat.mod_lt _ (by omega)))
def QF (b:aQ)(s:Sys)(k:Nat):k∈rl b s↔k<8/\b.k.toNat.testBit k=aw/\s.read.toNat.testBit k=aw:=by unfold rl;rw[jN,Nat.testBit_and,aG]
def apart (b:aQ)(s t:Sys)(hb:b.v.length=8)(h1:cY s.read=aw)(h2:cY s.write=aw)(h3:cY t.read=aw)(h4:cY t.write=aw)(hc:gQ s t=ay):cD (cD b s) t=cD (cD b t) s:=by
 have C1: ∀k,k<8-> ¬((s.write.toNat.testBit k=aw/\(t.read.toNat.testBit k=aw\/t.write.toNat.testBit k=aw))\/(t.write.toNat.testBit k=aw/\s.read.toNat.testBit k=aw)):=by intro k hk h;have:=(xh h1 h2 h3 h4).2 ⟨k,hk,h⟩;rw[hc]at this;exact absurd this (by simp)
 have hsk:(cD b s).k=b.k:=oT b s;have Qi:(cD b t).k=b.k:=oT b t;by_cases hqs:fO b.k s.q=aw
 ·by_cases hqt:fO b.k t.q=aw
  ·refine Ii (by rw[oT,hsk,oT,Qi]) (by rw[fX,fX,hb]) (by rw[fX,fX,hb]) λk hk=> ?_
   by_cases sW:k∈wl b s
   ·have hkt:k∉wl b t:=λh=>by have a:=(nz _ _ _).1 sW;have c:=(nz _ _ _).1 h;exact C1 k hk (bm ⟨a.2.2,bO c.2.2⟩)
    obtain⟨j,hj,yy⟩:=zP sW;rw[gS (cD b s) t k (by rw[Ib hsk];exact hkt)];have a:=qY b s hb hqs j hj;have c:=qY (cD b t) s (by rw[fX,hb]) (by rw[Qi];exact hqs) j (by rw[Ib Qi];exact hj);rw[Ib Qi,yy]at c;rw[yy]at a;rw[a,c];refine(uT Qi hj (λi hi=>gS b t i λh=> ?_) (λ_ i hi=>gS b t i λh=> ?_)).symm
    ·have a:=(nz _ _ _).1 hi;have c:=(nz _ _ _).1 h;exact C1 i a.1 (bm ⟨a.2.2,bO c.2.2⟩)
    ·have a:=(QF _ _ _).1 hi;have c:=(nz _ _ _).1 h;exact C1 i a.1 (bO ⟨c.2.2,a.2.2⟩)
   ·rw[gS (cD b t) s k (by rw[Ib Qi];exact sW)];by_cases hkt:k∈wl b t
    ·obtain⟨j,hj,yy⟩:=zP hkt;have a:=qY b t hb hqt j hj;have c:=qY (cD b s) t (by rw[fX,hb]) (by rw[hsk];exact hqt) j (by rw[Ib hsk];exact hj);rw[Ib hsk,yy]at c;rw[yy]at a;rw[a,c];refine uT hsk hj (λi hi=>gS b s i λh=> ?_) (λ_ i hi=>gS b s i λh=> ?_)
     ·have a:=(nz _ _ _).1 hi;have c:=(nz _ _ _).1 h;exact C1 i a.1 (bm ⟨c.2.2,bO a.2.2⟩)
     ·have a:=(QF _ _ _).1 hi;have c:=(nz _ _ _).1 h;exact C1 i a.1 (bm ⟨c.2.2,bm a.2.2⟩)
    ·rw[gS (cD b s) t k (by rw[Ib hsk];exact hkt),gS b s k sW,gS b t k hkt]
  ·have e: ∀b':aQ,b'.k=b.k->cD b' t=b':=λb' h=>by unfold cD;rw[h,if_neg hqt]
   rw[e _ hsk,e b rfl]
 ·have e: ∀b':aQ,b'.k=b.k->cD b' s=b':=λb' h=>by unfold cD;rw[h,if_neg hqs]
  rw[e _ Qi,e b rfl]
end
abbrev eE:=Hd×List Int
structure nM where
 at_:Hd
 old:List Int
 now:List Int
def toaQ (b:List Int):aQ:=⟨b.getD 0 0,b.drop 1⟩
def mJ:List Int:=[-1,0,0,0,0,0,0,0,0]
def kQ:List Int:=[0,0,0,0,0,0,0,0,0]
def uY (r:eE):Bool:=decide (0<=r.1.1)&&decide (r.1.1<=59)&&decide (0<=r.1.2)&&decide (r.1.2<=1000000)&&decide (bI (toaQ r.2)=0)
def j7:Option Int->List eE->Bool
 |_,[]=>aw
 |prev,r::l=>uY r&&(match prev with|none=>aw|some p=>decide (p<r.1.1))&&j7 (ae r.1.1) l
def lj (l:List eE):Bool:=j7 ai l&&decide (l.length<=60)
def ofD (l:List eE):List eE:=l.foldl (λm r=>hZ m r.1 r.2) []
def iz (m:List eE)(h:Hd):List Int:=(dY m h).getD mJ
def vR (x y:List eE):List eE:=y.foldl (λm r=>hZ m r.1 r.2) x
def dj (m:List eE):List Hd:=(aW m).mergeSort yX
def Im (x y:List eE)(h:Hd):nM:=⟨h,iz x h,iz y h⟩
def Mw (c:nM):Bool:= !decide (c.old=c.now)
def iB (x y:List eE):List nM:=((dj (vR x y)).map (Im x y)).filter Mw
def lq (m:List eE)(c:nM):Except Int (List eE):=if c.old=c.now then .error 4 else if iz m c.at_≠c.old then .error 5 else if c.now=mJ then .ok (dZ m c.at_)else .ok (hZ m c.at_ c.now)
def qT:List eE->List nM->Except Int (List eE)
 |m,[]=>.ok m
 |m,c::cs=>match lq m c with| .error e=>.error e| .ok m'=>qT m' cs
def rowsOf (m:List eE):List eE:=(dj m).map λh=>(h,(dY m h).getD kQ)
def jk (a b:List eE):List nM×Int:=if lj a&&lj b then(iB a b,0)else([],4)
def lE (l:List eE)(c:List nM):List eE×Int:=
 if lj l=ay then([],4)else if 120<c.length then([],2)else
  match qT l c with
  | .error e=>([],e)
  | .ok m=>if lj (rowsOf m)then(rowsOf m,0)else([],4)
def su (c:nM):nM:=⟨c.at_,c.now,c.old⟩
def xP (c:List nM):List nM:=c.reverse.map su
section
variable {m m' x y a b:List eE} {h h':Hd} {cs ds:List nM}
def uQ: ∀{l:List eE} {p:Option Int},j7 p l=aw->(∀r∈l,uY r=aw)/\l.Pairwise (λr s=>r.1.1<s.1.1)/\ ∀q,p=ae q-> ∀r∈l,q<r.1.1
 | [],_,_=>⟨by simp,List.Pairwise.nil,by simp⟩
 |r::l,p,hm=>by
  unfold j7 at hm;simp only[aG]at hm;obtain⟨⟨h1,h2⟩,h3⟩:=hm;obtain⟨g1,g2,g3⟩:=uQ h3;refine⟨λs hs=> ?_,List.pairwise_cons.2 ⟨g3 _ rfl,g2⟩,λq hq s hs=> ?_⟩
  ·rcases cj.1 hs with rfl|hs
   ·exact h1
   ·exact g1 s hs
  ·subst hq;simp only[decide_eq_true_eq]at h2;rcases cj.1 hs with rfl|hs
   ·exact h2
   ·have:=g3 _ rfl s hs;omega
def mB (hm:lj a=aw):(∀r∈a,uY r=aw)/\a.Pairwise (λr s=>r.1.1<s.1.1)/\a.length<=60:=by unfold lj at hm;rw[aG,decide_eq_true_eq]at hm;exact⟨(uQ hm.1).1,(uQ hm.1).2.1,hm.2⟩
def ED (hp:a.Pairwise (λr s=>r.1.1<s.1.1)):(aW a).Nodup:=by unfold aW;rw[List.Nodup,List.pairwise_map];exact hp.imp λ{r s} h e=>by rw[e]at h;omega
def Ny (hp:a.Pairwise (λr s=>r.1.1<s.1.1)):(aW a).Pairwise (λp q=>yX p q=aw):=by unfold aW;rw[List.pairwise_map];exact hp.imp λ{r s} h=>by unfold yX Uh;simp;omega
def Eg: ∀{l m:List eE},(aW (m++l)).Nodup->l.foldl (λm r=>hZ m r.1 r.2) m=m++l
 | [],m,_=>by simp
 |r::l,m,hn=>by
  have h1:r.1∉aW m:=by unfold aW at hn|-;rw[ey,List.nodup_append]at hn;exact λhm=>hn.2.2 _ hm r.1 (by simp) rfl
  have h2:hZ m r.1 r.2=m++[r]:=by unfold hZ;rw[if_neg];intro ha;obtain⟨p,hp,e⟩:=qc.1 ha;exact h1 (aH.2 ⟨p,hp,by simpa using e⟩)
  rw[l9,h2,Eg (by rw[cx];exact hn),cx,List.singleton_append]
def QH (hm:lj a=aw):ofD a=a:=by unfold ofD;rw[Eg (by simpa using ED (mB hm).2.1),cy]
def Clean (m:List eE):Prop:= ∀h b,dY m h=ae b->b≠mJ
def EJ (hm:lj a=aw):Clean a:=λh b hb e=>by have h1:=(mB hm).1 _ (rJ hb);subst e;unfold uY at h1;simp only[aG,decide_eq_true_eq]at h1;have:=(mU _ h1.2).1;simp[toaQ,mJ]at this
def lV (hm:lj a=aw):(aW a).Nodup:=ED (mB hm).2.1
def Ip (hc:Clean m)(h:Hd):dY m h=if iz m h=mJ then ai else ae (iz m h):=by
 unfold iz;cases e:dY m h with
 |none=>simp
 |some b=>simp[hc h b e]
def abe (h1:Clean x)(h2:Clean y)(he: ∀h,iz x h=iz y h)(h:Hd):dY x h=dY y h:=by rw[Ip h1,Ip h2,he]
def mem_keys (m:List eE)(h:Hd):h∈aW m↔dY m h≠ai:=by rw[Ne,qG,Classical.not_not]
def wU (hn:(aW m).Nodup)(hn':(aW m').Nodup)(he: ∀h,h∈aW m↔h∈aW m'):dj m=dj m':=by unfold dj;exact BE ((List.perm_ext_iff_of_nodup hn hn').2 he)
def Vi (hb:lj b=aw)(hn:(aW m).Nodup)(he: ∀h,dY m h=dY b h):rowsOf m=b:=by
 have h1:dj m=aW b:=by rw[wU hn (lV hb) λh=>by rw[mem_keys,mem_keys,he]];exact(wS (qK _) (Ny (mB hb).2.1)).symm
 unfold rowsOf;rw[h1];unfold aW;rw[List.map_map]
 conv=>rhs;rw[<-List.map_id b]
 apply dx;rintro⟨h,v⟩ hr;simp only[Function.comp,id];rw[he,nI (lV hb) hr];rfl
def De (f:Hd->List Int)(h:Hd)(v:List Int):Hd->List Int:=λk=>if k=h then v else f k
def tq:(Hd->List Int)->List nM->Prop
 |_,[]=>True
 |f,c::cs=>c.old≠c.now/\f c.at_=c.old/\tq (De f c.at_ c.now) cs
def we:(Hd->List Int)->List nM->(Hd->List Int)
 |f,[]=>f
 |f,c::cs=>we (De f c.at_ c.now) cs
def zB: ∀{cs:List nM} {f:Hd->List Int},tq f (cs++ds)↔tq f cs/\tq (we f cs) ds
 | [],f=>by simp[tq,we]
 |c::cs,f=>by
  rw[dF,tq,tq,we,zB];constructor
  ·rintro⟨h1,h2,h3,h4⟩;exact⟨⟨h1,h2,h3⟩,h4⟩
  ·rintro⟨⟨h1,h2,h3⟩,h4⟩;exact⟨h1,h2,h3,h4⟩
def Ce: ∀{cs:List nM} {f:Hd->List Int},we f (cs++ds)=we (we f cs) ds
 | [],f=>rfl
 |c::cs,f=>by rw[dF,we,we,Ce]
def Ux (c:nM)(cs:List nM):xP (c::cs)=xP cs++[su c]:=by simp[xP]
def Nv: ∀{cs:List nM} {f:Hd->List Int},tq f cs->tq (we f cs) (xP cs)/\we (we f cs) (xP cs)=f
 | [],f,_=>⟨trivial,rfl⟩
 |c::cs,f,⟨h1,h2,h3⟩=>by
  obtain⟨g1,g2⟩:=Nv h3;rw[Ux,zB,Ce,we,g2];refine⟨⟨g1,λe=>h1 e.symm,by simp[De,su],trivial⟩,?_⟩;funext k;show De (De f c.at_ c.now) c.at_ c.old k=f k;unfold De;by_cases e:k=c.at_
  ·rw[if_pos e,e,h2]
  ·rw[if_neg e,if_neg e]
def J3 {c:nM}(hc:Clean m)(hn:(aW m).Nodup)(h1:c.old≠c.now)(h2:iz m c.at_=c.old): ∃m',lq m c=.ok m'/\Clean m'/\(aW m').Nodup/\iz m'=De (iz m) c.at_ c.now:=by
 unfold lq;rw[if_neg h1,if_neg (λe=>e h2)];by_cases e:c.now=mJ
 ·rw[if_pos e];refine⟨_,rfl,λh b hb=> ?_,lW hn _,?_⟩
  ·rw[oK]at hb
   split at hb
   ·cases hb
   ·exact hc h b hb
  ·funext k;unfold De iz;rw[oK]
   split
   ·rw[e];rfl
   ·rfl
 ·rw[if_neg e];refine⟨_,rfl,λh b hb=> ?_,yG hn _ _,?_⟩
  ·rw[ko]at hb
   split at hb
   ·cases be hb;exact e
   ·exact hc h b hb
  ·funext k;unfold De iz;rw[ko]
   split<;>rfl
def Ig: ∀{cs:List nM} {m:List eE},Clean m->(aW m).Nodup->tq (iz m) cs-> ∃m',qT m cs=.ok m'/\Clean m'/\(aW m').Nodup/\iz m'=we (iz m) cs
 | [],m,hc,hn,_=>⟨m,rfl,hc,hn,rfl⟩
 |c::cs,m,hc,hn,⟨h1,h2,h3⟩=>by
  obtain⟨m1,g1,g2,g3,g4⟩:=J3 hc hn h1 h2;obtain⟨m2,k1,k2,k3,k4⟩:=Ig g2 g3 (cs:=cs) (by rw[g4];exact h3);refine⟨m2,?_,k2,k3,?_⟩
  ·unfold qT;rw[g1];exact k1
  ·rw[k4,g4];rfl
def Ih (ha:lj a=aw)(hb:lj b=aw)(hl:cs.length<=120)(hf:tq (iz a) cs)(he:we (iz a) cs=iz b):lE a cs=(b,0):=by obtain⟨m,h1,h2,h3,h4⟩:=Ig (EJ ha) (lV ha) hf;have h5:rowsOf m=b:=Vi hb h3 (abe h2 (EJ hb) λh=>by rw[h4,he]);unfold lE;rw[if_neg (by simp[ha]),if_neg (by omega),h1];simp only;rw[h5,if_pos hb]
def BZ (hn:(aW x).Nodup): ∀{y:List eE},(aW (vR x y)).Nodup:=by
 intro y;unfold vR
 induction y generalizing x with
 |nil=>exact hn
 |cons r y ih=>exact ih (yG hn _ _)
def Bd {h:Hd}: ∀{y x:List eE},h∈aW (vR x y)↔h∈aW x\/h∈aW y
 | [],x=>by simp[vR,aW]
 |r::y,x=>by
  have:= @Bd h y (hZ x r.1 r.2);unfold vR at this|-;rw[l9,this,uS];unfold aW;simp only[eN,cj];by_cases e:r.1∈List.map (λx=>x.fst) x
  ·rw[if_pos e];constructor
   ·rintro(h|h);exact bm h;exact bO (bO h)
   ·rintro(h|h|h);exact bm h;exact bm (by rw[h];exact e);exact bO h
  ·rw[if_neg e];simp only[jh,eO];constructor
   ·rintro((h|h)|h);exact bm h;exact bO (bm h);exact bO (bO h)
   ·rintro(h|h|h);exact bm (bm h);exact bm (bO h);exact bO h
def AE: ∀{y x:List eE},(vR x y).length<=x.length+y.length
 | [],x=>by simp[vR]
 |r::y,x=>by have h1:=AE (y:=y) (x:=hZ x r.1 r.2);have h2:=NK x r.1 r.2;unfold vR at h1|-;rw[l9,aD];omega
def mem_sorted:h∈dj m↔h∈aW m:=by unfold dj;exact List.mem_mergeSort
def Vw (hn:(aW m).Nodup):(dj m).Pairwise λp q=>Uh p q=aw:=by
 have h1:(dj m).Pairwise λp q=>yX p q=aw:=nK _
 have h2:(dj m).Nodup:=(gG _ _).nodup_iff.2 hn;exact h1.and h2|>.imp λ{p q} ⟨h,eb⟩=>by
  unfold yX Uh at*;obtain⟨p1,p2⟩:=p;obtain⟨q1,q2⟩:=q;simp only[iT,Bool.or_eq_false_iff,Bool.and_eq_false_iff,decide_eq_false_iff_not,gi,aG,decide_eq_true_eq]at*;have: ¬(p1=q1/\p2=q2):=λe=>eb (Prod.ext e.1 e.2)
  omega
end
section
variable {m m' x y a b:List eE} {h h':Hd} {cs ds:List nM}
def Se: ∀{cs:List nM} {f g:Hd->List Int},cs.Pairwise (λc d=>c.at_≠d.at_)->(∀c∈cs,c.old≠c.now/\f c.at_=c.old/\g c.at_=c.now)->(∀k,(∀c∈cs,c.at_≠k)->f k=g k)->tq f cs/\we f cs=g
 | [],f,g,_,_,h3=>⟨trivial,funext λk=>h3 k (by simp)⟩
 |c::cs,f,g,h1,h2,h3=>by
  obtain⟨p1,p2⟩:=List.pairwise_cons.1 h1;obtain⟨c1,c2,c3⟩:=h2 c (by simp);have ih:=Se (cs:=cs) (f:=De f c.at_ c.now) (g:=g) p2 (λd hd=>by
   obtain⟨d1,d2,d3⟩:=h2 d (by simp[hd]);refine⟨d1,?_,d3⟩;unfold De;rw[if_neg (λe=>p1 d hd e.symm),d2]) (λk hk=>by
   unfold De;by_cases e:k=c.at_
   ·rw[if_pos e,e,c3]
   ·rw[if_neg e];exact h3 k λd hd=>by rcases cj.1 hd with rfl|hd;exact λe'=>e e'.symm;exact hk d hd)
  exact⟨⟨c1,c2,ih.1⟩,ih.2⟩
def Cp {c:nM}(hc:c∈iB x y):c=Im x y c.at_/\c.old≠c.now/\c.at_∈dj (vR x y):=by unfold iB at hc;rw[cm]at hc;obtain⟨h1,h2⟩:=hc;obtain⟨k,hk,rfl⟩:=aH.1 h1;unfold Mw at h2;exact⟨rfl,by simpa using h2,hk⟩
def PH (hn:(aW x).Nodup):(iB x y).Pairwise λc d=>Uh c.at_ d.at_=aw:=by unfold iB;refine List.Pairwise.filter _ ?_;rw[List.pairwise_map];exact Vw (BZ hn)
def P8 (a:Hd):Uh a a=ay:=by unfold Uh;simp
def Mj (k:Hd)(hk:iz x k≠iz y k): ∃c∈iB x y,c.at_=k:=by
 refine⟨Im x y k,?_,rfl⟩;unfold iB;rw[cm];refine⟨aH.2 ⟨k,?_,rfl⟩,by unfold Mw Im;simp only[iT,decide_eq_false_iff_not];exact hk⟩;rw[mem_sorted,Bd,mem_keys,mem_keys];refine gH λC1=>hk ?_
 have h1:dY x k=ai:=gH λe=>C1 (bm e)
 have h2:dY y k=ai:=gH λe=>C1 (bO e)
 unfold iz;rw[h1,h2]
def uA (hn:(aW x).Nodup):tq (iz x) (iB x y)/\we (iz x) (iB x y)=iz y:=by
 refine Se ((PH hn).imp λ{c d} h e=> ?_) (λc hc=> ?_) λk hk=> ?_
 ·rw[e,P8]at h;cases h
 ·obtain⟨h1,h2,_⟩:=Cp hc;refine⟨h2,?_,?_⟩
  ·conv=>rhs;rw[h1]
   rfl
  ·conv=>rhs;rw[h1]
   rfl
 ·refine gH λe=> ?_
  obtain⟨c,hc,he⟩:=Mj k e;exact hk c hc he
def rS (m:List eE):(dj m).length=m.length:=by unfold dj aW;rw[List.length_mergeSort,aL]
def Ml:(iB x y).length<=x.length+y.length:=by have h1:=AE (x:=x) (y:=y);unfold iB;refine bM (jA _ _) ?_;rw[aL,rS];exact h1
def vT (ha:lj a=aw)(hb:lj b=aw):(iB a b).length<=120:=by have:=Ml (x:=a) (y:=b);have:=(mB ha).2.2;have:=(mB hb).2.2;omega
def YU (cs:List nM):(xP cs).length=cs.length:=by simp[xP]
def PU (ha:lj a=aw)(hb:lj b=aw):lE a (iB a b)=(b,0):=Ih ha hb (vT ha hb) (uA (lV ha)).1 (uA (lV ha)).2
def TX (ha:lj a=aw)(hb:lj b=aw):lE b (xP (iB a b))=(a,0):=by obtain⟨h1,h2⟩:=uA (x:=a) (y:=b) (lV ha);obtain⟨h3,h4⟩:=Nv h1;rw[h2]at h3 h4;exact Ih hb ha (by rw[YU];exact vT ha hb) h3 h4
end
end Go.Proofs.YtknejlcijdngoaaGreat
