/- Several texts in one, made short by a program of mine. -/
import Derived.Test.YtknejlcijdngoaaGreatEQ7
import Derived.Conc.LeavingOf
set_option linter.unusedVariables false
set_option linter.unusedSimpArgs false
set_option linter.unusedSectionVars false
set_option maxHeartbeats 16000000
set_option maxRecDepth 100000
open Array renaming all_eq_true→eK,getD_eq_getD_getElem?→bF,getElem?_eq_getElem→aX,getElem?_eq_some_iff→aL,getElem?_modify→bw,getElem?_setIfInBounds_ne→aO,getElem?_setIfInBounds_self_of_lt→aW,replicate_succ→dR,replicate_zero→dS
open Bool renaming and_eq_true→aM,false_eq_true→e9,not_eq_true'→oa,or_eq_true→iU,false→aw,true→aA
open Go renaming Frame→bm,FuncId→bQ,Operand→cw,Program→aS,TypeId→aF,Value→aq,World→ah
open Go.Act renaming eval→bV
open Go.Frame renaming enter→fu
open Go.Instr renaming buildSlice→fh
open Go.Lib renaming hid→af
open Go.Region renaming ready→gO,wanted→bu
open Go.Value renaming cells→iy,int→aZ,oneCell'→jm,slice→dZ
open Go.World renaming cell?→c8,cell?_of_block→c9,setCell→dA,size_alloc→cQ
open Go.World.ownsRow renaming lt→lq
open List renaming any_eq_true→kB,append_assoc→dn,append_nil→eN,append_toArray→ec,cons_append→dJ,eq_nil_of_length_eq_zero→gg,flatMap_append→eI,flatMap_cons→cM,foldl_append→oc,getD→bp,getD_eq_getElem?_getD→bq,getElem?_eq_getElem→ao,getElem?_eq_some_iff→bH,getElem?_map→dK,getElem_mem→aU,length_append→bM,length_cons→aj,length_nil→ax,length_take→dW,map_append→dX,mem_append→iV,mem_cons→cy,mem_filter→cu,mem_iff_getElem→dp,mem_map→aN,mem_of_mem_take→oY,mem_range→mD,mem_singleton→eC,nil_append→cL,not_mem_nil→jo,pairwise_iff_getElem→jc,push_toArray→eX,range→aG,replicate→bZ,set_append_right→nP,size_toArray→au,take_append_drop→nQ,take_length→cD,take_of_length_le→cI,take_succ_eq_append_getElem→aR
open List.Perm renaming refl→pW,swap→cB
open List.range renaming loop→aB
open Nat renaming add_comm→dt,add_mul→k8,add_sub_cancel_left→ki,add_zero→kW,le_refl→az,le_trans→bP,lt_of_lt_of_le→bX,mul_le_mul_right→il,one_mul→jR,strongRecOn→l7,zero_add→aC,zero_le→bS
open Option renaming getD_some→bI,map_eq_some_iff→aK,map_some→eY,none→ai,some→ae
open Option.some renaming inj→aY,injEq→dz
open Or renaming inl→br,inr→bR
namespace Go.Proofs.YtknejlcijdngoaaGreat
section
open Rel
open Go.Conc Go.ConcN
open Go.ConcR (Payload WgAt)
open Go.RowKit
noncomputable def sn (S:jy)(Pb:Nat)(xs:List cz)(ss:List Sys):N2:=⟨λb=>b=Pb,λi a=>a=⟨Pb,i,ai⟩,λi w=>w.cell? ⟨Pb,i,ai⟩=ae (.slice ai 0 0),jpB S Pb xs ss⟩
theorem IG (S:jy)(Pb:Nat)(xs:List cz)(ss:List Sys):(sn S Pb xs ss).Ok:=by
 refine⟨λi a h=>by have:a=⟨Pb,i,ai⟩:=h;rw[this];rfl,λi i' a h h'=> ?_,λo w aD i hk hc h=> ?_,λw aD i hc h=>(hc _ rfl).trans h,λo o' w i ho h=> ?_⟩
 ·have e:a=⟨Pb,i,ai⟩:=h;have e':a=⟨Pb,i',ai⟩:=h';rw[e]at e';injection e'
 ·obtain⟨v,h1,h2⟩:=h;exact⟨v,(hc _ rfl).trans h1,h2.keep hk⟩
 ·obtain⟨v,h1,V,h2,h3⟩:=h;exact⟨v,h1,V,λr hr=>ho r (h2 r hr),h3⟩
structure BRd (φ:Ph) (wp:ah) (B4 B7 B5 Pb:Nat) (xs:List cz) (ss:List Sys) (pq B9:aq):Prop where
 r4:φ.od B4
 c4:wp.cell? ⟨B4,0,ai⟩=ae pq
 r7:φ.od B7
 c7:wp.cell? ⟨B7,0,ai⟩=ae (.slice (ae ⟨Pb,0,ai⟩) ss.length ss.length)
 r5:φ.od B5
 c5:wp.cell? ⟨B5,0,ai⟩=ae B9
 rows: ∃A c,pq=.slice A xs.length c/\ ∀j (h:j<xs.length),∃g,A=ae ⟨g,0,ai⟩/\φ.od g/\row? wp g (j *11) 11=ae (ints xs[j].list)
 sys: ∃A c,B9=.slice A ss.length c/\ ∀j (h:j<ss.length),∃g,A=ae ⟨g,0,ai⟩/\φ.od g/\row? wp g (j *7) 7=ae (ints ss[j].list)
 pb:fz wp Pb=ae (100,ss.length,0,0)
 okB: ∀r∈xs,bK r.b=0/\r.b.v.length=8
 okS: ∀s∈ss,eQ s=0
 len:xs.length<=60
 lens:ss.length<=20
def cU (bd:bQ->List Tmp)(old:Nat)(U:List Tmp):fR:={cfg bd old with bad:=XX U}
theorem Cb (bd:bQ->List Tmp)(old:Nat)(U:List Tmp):(cU bd old U).Fits Tryz.prog:=let h:=K3 bd old;⟨h.fn,h.int,h.zero,h.elem,h.flat⟩
theorem wC {w w':ah}{g:Nat}(h:w'.heap[g]? =w.heap[g]?)(o n:Nat):row? w' g o n=row? w g o n:=by unfold row?;rw[h]
theorem xW {w:ah}{g o n:Nat}{cs:Array aq}(h:row? w g o n=ae cs): ∀j,j<n->(w.cell? ⟨g,o+j,ai⟩).isSome:=by
 intro j hj;unfold row? at h;unfold c8;cases hg:w.heap[g]? with
 |none=>rw[hg]at h;cases h
 |some ob=>
  rw[hg]at h;cases ob with
  |cells c e f=>
   simp only at h⊢
   split at h
   ·simp;omega
   ·cases h
  |_=>cases h
noncomputable def wi:Code:=match Tryz.f92.body with|some (.seq _ (.block _ (.loop x)))=>x|_=>.skip
section
variable {φ:Ph} {wp:ah} {bd:bQ->List Tmp} {old:Nat} {B4 B7 B5 Pb b1 C p:Nat} {fv:aq} {xs:List cz} {ss:List Sys} {pq B9:aq}
structure JS (φ:Ph) (S:jy) (wp:ah) (b1 C Pb:Nat) (fv:aq) (p:Nat) (xs:List cz) (s:Sys) (H0:Nat->Prop) (ov:Prop) (j:Nat) (γ:Gh) (w:ah) (V:Nat->Prop) (cv sv:aq):Prop where
 mb:MB φ S wp b1 C fv p γ w V
 held: ∀q,γ.held q↔H0 q
 over:γ.over=ov
 cell:w.cell? ⟨Pb,p,ai⟩=ae cv
 rel:bx S (only V) sv sv
 own:w.ownsRow 0 48 9 sv j ((xs.take j).flatMap λr=>N9 (cq r.b s))
theorem Az {S:jy}{π:Ren}(l:List Int):bx S π (.agg (ints l)) (.agg (ints l)):=(Dz (S:=S) (ints l) λx hx=>by simp[ints]at hx;obtain⟨n,_,rfl⟩:=hx;exact⟨_,_,rfl⟩).1 π
theorem Jw {w:ah}{e:aF}{size n:Nat}{v:aq}{xs:List aq}(h:w.ownsRow 0 e size v n xs): ∀r,v.ownBlock=ae r->r<w.heap.size:=λr hr=>(lq h r hr).2
theorem Wc {w:ah}{g:Nat}{t:aF}{cs:Array aq}(h:dq w g t cs)(n:Nat)(hn:n<=cs.size):fits w g 0 n=aA:=by unfold fits;unfold dq at h;rw[h];simpa using hn
section
variable {S:jy} {s:Sys} {H0:Nat->Prop} {ov:Prop} {j:Nat} {γ γ':Gh} {w aD w':ah} {V V':Nat->Prop} {cv sv:aq}
theorem JS.rely (O:φ.Ok)(ry:φ.jl p ⟨Pb,p,ai⟩)(h:JS φ S wp b1 C Pb fv p xs s H0 ov j γ w V cv sv)(r:φ.eP γ w aD):JS φ S wp b1 C Pb fv p xs s H0 ov j γ aD V cv sv:=⟨h.mb.rely O r,h.held,h.over,(r.cell p _ h.mb.hp ry).trans h.cell,h.rel,wz h.rel h.own λx hx=>r.own x (h.mb.vo x hx).1⟩
theorem JS.val (O:φ.Ok)(ry:φ.jl p ⟨Pb,p,ai⟩)(bE: ∀r,φ.od r\/φ.CB r\/r=φ.Wg->r<wp.heap.size)(h:JS φ S wp b1 C Pb fv p xs s H0 ov j γ w V cv sv)(h1: ∀r,V r->V' r)(h2: ∀r,V' r->V r\/(w.heap.size<=r/\r<w'.heap.size))(h3:ck φ.P S (only V') w' w')(h4: ∀r,r<w.heap.size-> ¬V r->w'.heap[r]? =w.heap[r]?)(h5:w.heap.size<=w'.heap.size)(h6: ∀r,sv.ownBlock=ae r->w'.heap[r]? =w.heap[r]?):JS φ S wp b1 C Pb fv p xs s H0 ov j (γ.grow w w') w' V' cv sv:=by
 have tj:=O.mK p _ ry;have hs:=h.mb.size;refine⟨h.mb.val O bE h1 h2 h3 h4 h5,h.held,h.over,(c9 (h4 Pb (by have:=bE Pb (.inr (.inl tj));omega) λhv=>(h.mb.cb Pb (h.mb.vo Pb hv).1).1 tj)).trans h.cell,h.rel.mono (P:=φ.P) ⟨λ_ _ x=>⟨x.1,h1 _ x.2⟩,Cn⟩,?_⟩;refine⟨h.own.1,?_⟩;rcases h.own.2 with h0|⟨g,cap,cur,e,hb,hg,r⟩
 ·exact .inl h0
 ·exact .inr ⟨g,cap,cur,e,hb,(h6 g (by rw[e];rfl)).trans hg,r⟩
theorem JS.lone (O:φ.Ok)(ry:φ.jl p ⟨Pb,p,ai⟩)(bE: ∀r,φ.od r\/φ.CB r\/r=φ.Wg->r<wp.heap.size)(h:JS φ S wp b1 C Pb fv p xs s H0 ov j γ w V cv sv)(h1: ∀r,γ.own r->γ'.own r)(h2:γ'.held=γ.held)(h2':γ'.over=γ.over)(h3: ∀r,γ'.own r->γ.own r\/(w.heap.size<=r/\r<w'.heap.size))(hk:Kept φ γ γ.own w w'):JS φ S wp b1 C Pb fv p xs s H0 ov j γ' w' V cv sv:=⟨h.mb.lone O bE h1 h2 h3 hk,λq=>by rw[h2];exact h.held q,h2'.trans h.over,(hk.cell p _ h.mb.hp ry).trans h.cell,h.rel,wz h.rel h.own λx hx=>hk.st x (h.mb.vo x hx).1⟩
end
theorem J1 (parts:Array (Nat×aq)):fh 100 1 parts=j4 100 parts:=rfl
theorem Ah (w:ah)(cs:Array aq)(h:cs.size=9):(fh 100 1 #[(0,.agg cs)]).run Tryz.prog w=.ok (.slice (ae ⟨w.heap.size,0,ai⟩) 1 1) (w.alloc (.cells cs 48)):=by rw[J1,lS w _ _ 9 (bZ 9 (aZ .i64 0)).toArray cs Tryz.underlying100 (by kernel_rfl) (by kernel_rfl) rfl (by decide) (by decide),if_pos h]
end
end
section
open Rel
open Go.Conc Go.ConcN
open Go.ConcR (Payload WgAt)
open Go.RowKit
theorem yp:(Tryz.prog.info? 48).map (λi=>(i.zero,i.size,i.bytes))=ae (ae (.agg (ints [0,0,0,0,0,0,0,0,0])),9,72):=by kernel_rfl
theorem Wi {w:ah}{b o:Nat}{u:aq}(h:w.cell? ⟨b,o,ai⟩=ae u)(v:aq):(w.setCell ⟨b,o,ai⟩ v).cell? ⟨b,o,ai⟩=ae v:=by
 unfold c8 at h⊢;unfold dA;simp only[bw];cases hg:w.heap[b]? with
 |none=>rw[hg]at h;cases h
 |some ob=>
  rw[hg]at h;cases ob with
  |cells c e f=>simp at h;simp only[eY,if_true,Option.isSome_none,e9,if_false,ite_true,ite_false];exact aW (aL.1 h).1
  |_=>cases h
theorem AU {w:ah}{a a':Addr}(dQ:a'≠a)(hs:a.spot=ai)(v:aq):(w.setCell a v).cell? a'=w.cell? a':=by
 unfold c8 dA;simp only[bw];by_cases hb:a.block=a'.block
 ·rw[if_pos hb];cases hg:w.heap[a'.block]? with
  |none=>rfl
  |some ob=>
   cases ob with
   |cells c e f=>
    simp only[eY,hs];cases NP:a'.spot with
    |some x=>rfl
    |none=>
     have:a.off≠a'.off:=λe=>dQ (by obtain⟨_,_,_⟩:=a;obtain⟨_,_,_⟩:=a';simp only at hb e hs NP;subst hb e hs NP;rfl)
     simp[aO this]
   |_=>rfl
 ·rw[if_neg hb]
theorem Gx (w:ah)(a:Addr)(v:aq)(b:Nat):fz (w.setCell a v) b=fz w b:=by
 unfold fz dA;simp only[bw];by_cases hb:a.block=b
 ·rw[if_pos hb];cases hg:w.heap[b]? with
  |none=>rfl
  |some ob=>
   cases ob with
   |cells c e f=>
    simp only[eY]
    split<;>simp
   |_=>rfl
 ·rw[if_neg hb]
theorem I0 {w:ah}{b n:Nat}{e:aF}(h:fz w b=ae (e,n,0,0))(o:Nat):w.frozen? ⟨b,o,ai⟩=aw:=by
 unfold fz at h;unfold World.frozen?;simp only;cases hg:w.heap[b]? with
 |none=>rfl
 |some ob=>
  rw[hg]at h;cases ob with
  |cells c t fr=>obtain⟨lo,hi⟩:=fr;simp only[dz,Prod.mk.injEq]at h;obtain⟨_,_,h3,h4⟩:=h;simp[h3,h4]
  |_=>rfl
theorem SQ {φ:Ph}{γ:Gh}{w:ah}{Pb p:Nat}{v:aq}{es:Array Event}(tj:φ.CB Pb)(ry: ∀ad,φ.jl p ad->ad=⟨Pb,p,ai⟩)(hh:γ.held p)(hj:φ.jl p ⟨Pb,p,ai⟩)(jq: ∀e∈es,e=⟨.cell ⟨Pb,p,ai⟩,aA,aw⟩):φ.BD γ w (w.setCell ⟨Pb,p,ai⟩ v) es:=by refine⟨λb hb hn hc=>Below.heap_setCell w _ _ b λe=>hc (e▸tj),λa _ hn=>AU (λe=>hn p hh (by rw[e];exact hj)) rfl v,λb _=>Gx _ _ _ _,by simp,rfl,rfl,rfl,λe he=> ?_⟩;rw[jq e he];exact .inr ⟨rfl,Pb,rfl,.inr (.inl ⟨p,_,hh,hj,rfl⟩)⟩
theorem MB.aas {φ:Ph}{S:jy}{wp w:ah}{b1 C p Pb:Nat}{fv:aq}{γ:Gh}{V:Nat->Prop}(O:φ.Ok)(h:MB φ S wp b1 C fv p γ w V)(tj:φ.CB Pb)(hj:φ.jl p ⟨Pb,p,ai⟩)(v:aq):MB φ S wp b1 C fv p γ (w.setCell ⟨Pb,p,ai⟩ v) V:=by
 have FD: ∀b,b≠Pb->(w.setCell ⟨Pb,p,ai⟩ v).heap[b]? =w.heap[b]?:=λb hb=>Below.heap_setCell w _ _ b hb
 have own: ∀b,γ.own b->b≠Pb:=λb hb e=>(h.cb b hb).1 (e▸tj)
 refine⟨h.o1,h.oC,(c9 (FD b1 (own b1 h.o1))).trans h.c1,(FD C (own C h.oC)).trans h.cC,λb hb=>(FD b λe=>O.Wh Pb tj (e▸hb)).trans (h.rd b hb),λb hb=>(Gx _ _ _ _).trans (h.pay b hb),?_,λx hx=> ?_,by simpa using h.size,h.hp,h.vo,h.vh.sX (by simp) (λx hx=>FD x (own x (h.vo x hx).1)) (λa x hx=>by rw[h.nom a]at hx;cases hx),λi hi hn=> ?_,h.nom⟩
 ·obtain⟨st,sm,hl⟩:=h.live;exact⟨st,sm,(FD φ.Wg λe=>O.UW (e▸tj)).trans hl⟩
 ·simpa using h.cb x hx
 ·exact O.jp _ w _ i (λb hb=>FD b (own b hb.1)) (λa ha=>AU (λe=>hn (O.Dj i p a ha (by rw[e];exact hj))) rfl v) (h.FN i hi hn)
end
section
open Rel
open Go.Conc Go.ConcN
open Go.ConcR (Payload WgAt)
open Go.RowKit
theorem TW {ops:Array Oper}{L:Array Bool}{i:Nat}(h:i∈gO .any ops L):i<ops.size/\L.getD i aA=aw/\ ∀o,ops[i]? =ae o-> ∀e∈o.after,Region.binds .any e=aA->L.getD e.on aw=aA:=by
 unfold gO at h;obtain⟨hr,hp⟩:=cu.1 h;refine⟨mD.1 hr,?_,λo ho e he hb=> ?_⟩
 ·simp only[aM,oa]at hp;exact hp.1
 ·rw[ho]at hp;simp only[eY,bI,aM]at hp;obtain⟨k,hk,rfl⟩:=Array.mem_iff_getElem.1 he;have:=eK.1 hp.2 k hk;simp only[iU,oa]at this;rcases this with h1|h1
  ·rw[hb]at h1;cases h1
  ·exact h1
theorem fy {L:Array Bool}{i j:Nat}{d:Bool}(h:i≠j):(L.setIfInBounds i aA).getD j d=L.getD j d:=by rw[bF,aO h,<-bF]
theorem un {L:Array Bool}{i j:Nat}{d b:Bool}(dQ:i≠j)(h:(L.setIfInBounds i aA).getD j d=b):L.getD j d=b:=by rwa[fy dQ]at h
theorem Eb {L:Array Bool}{i:Nat}{d:Bool}(h:i<L.size):(L.setIfInBounds i aA).getD i d=aA:=by rw[bF,aW h];rfl
theorem aaI {L:Array Bool}{i:Nat}(hi:i<L.size)(h:L.getD i aA=aw):L.getD i aw=aw:=by rw[bF,aX hi]at h⊢;exact h
noncomputable def JQ:Array Oper:=match wi with| .seq _ (.seq _ (.seq (.block _ (.seq _ (.region _ ops _))) _))=>ops|_=> #[]
structure DI (φ:Ph) (S:jy) (wp:ah) (b1 C Pb:Nat) (fv:aq) (p:Nat) (xs:List cz) (ss:List Sys) (hp:p<ss.length) (H0:Nat->Prop) (ov:Prop) (j:Nat) (hj:j<xs.length) (rb gs:Nat) (sv B9:aq) (L:Array Bool) (γ:Gh) (w:ah) (V:Nat->Prop) (jj:Nat) (cv pv rK qY qZ oI oJ oK oL oM oO oP oQ oS oT oU oH oV:aq):Prop where
 js:JS φ S wp b1 C Pb fv p xs ss[p] H0 ov jj γ w V cv pv
 sN:V rb
 box:dq w rb 50 (ints (xs[j]).list)
 KW:L.getD 14 aw=aw->jj=j/\pv=sv
 Kq:L.getD 14 aw=aA->jj=j+1/\pv=oH
 Ks:L.getD 16 aw=aw->cv=sv
 wI:L.getD 16 aw=aA->cv=oH
 xc:L.getD 16 aw=aA->L.getD 5 aw=aA/\L.getD 14 aw=aA
 new:L.getD 13 aw=aA->L.getD 14 aw=aw-> ∃nb,oU=.slice (ae ⟨nb,0,ai⟩) 1 1/\V nb/\dq w nb 48 (ints (cq xs[j].b ss[p]).list)
 d0:L.getD 0 aw=aA->rK=(.slice (ae ⟨Pb,0,ai⟩) ss.length ss.length)
 d1:L.getD 1 aw=aA->qY=(.int .i64 p)
 d2:L.getD 2 aw=aA->qZ=(.slice (ae ⟨Pb,0,ai⟩) ss.length ss.length)
 d3:L.getD 3 aw=aA->oI=(.int .i64 p)
 d4:L.getD 4 aw=aA->oJ=(.pointer (ae ⟨Pb,p,ai⟩))
 d5:L.getD 5 aw=aA->oK=sv
 d6:L.getD 6 aw=aA->oL=(.pointer (ae ⟨rb,2,ai⟩))
 d7:L.getD 7 aw=aA->oM=(.agg (ints xs[j].b.list))
 d8:L.getD 8 aw=aA->oO=B9
 d9:L.getD 9 aw=aA->oP=(.int .i64 p)
 d10:L.getD 10 aw=aA->oQ=(.pointer (ae ⟨gs,p *7,ai⟩))
 d11:L.getD 11 aw=aA->oS=(.agg (ints ss[p].list))
 d12:L.getD 12 aw=aA->oT=(.agg (ints (cq xs[j].b ss[p]).list))
 d15:L.getD 15 aw=aA->oV=(.pointer (ae ⟨Pb,p,ai⟩))
section
variable {φ:Ph} {wp:ah} {bd:bQ->List Tmp} {old:Nat} {B4 B7 B5 Pb b1 C p:Nat} {fv:aq} {xs:List cz} {ss:List Sys} {pq B9:aq}
theorem O1 (O:φ.Ok)(hP:φ.P=Tryz.prog)(bE: ∀r,φ.od r\/φ.CB r\/r=φ.Wg->r<wp.heap.size)(ry: ∀ad,φ.jl p ad↔ad=⟨Pb,p,ai⟩)(hR:BRd φ wp B4 B7 B5 Pb xs ss pq B9)(hp:p<ss.length){H0:Nat->Prop}{ov:Prop}{j:Nat}(hj:j<xs.length){rb:Nat}{sv x4 x5 KC Ir It AF:aq}{cs:List bm}{k:List Item}{id:Nat}(K: ∀γ w V rK qY qZ oI oJ oK oL oM oO oP oQ oS oT oU oH oV sv',JS φ (cfg bd old).sig wp b1 C Pb fv p xs ss[p] H0 ov (j+1) γ w V sv' sv'->φ.WT γ (G ((base 92).at ⟨#[.int .i64 p,.pointer (ae ⟨B4,0,ai⟩),.pointer (ae ⟨B7,0,ai⟩),.pointer (ae ⟨B5,0,ai⟩),x4,x5,.pointer (ae ⟨rb,0,ai⟩),pq,.int .i64 xs.length,.int .i64 j,KC,Ir,It,rK,qY,qZ,oI,oJ,oK,oL,oM,oO,oP,oQ,oS,oT,oU,oH,oV,AF],[]⟩ k) cs) w)(γ:Gh)(w:ah)(V:Nat->Prop)(rK qY qZ oI oJ oK oL oM oO oP oQ oS oT oU oH oV:aq)(h:JS φ (cfg bd old).sig wp b1 C Pb fv p xs ss[p] H0 ov j γ w V sv sv)(sN:V rb)(hB:dq w rb 50 (ints (xs[j]).list))(dQ: ∀r,sv.ownBlock=ae r->r<rb):φ.WT γ (G ((base 92).at ⟨#[.int .i64 p,.pointer (ae ⟨B4,0,ai⟩),.pointer (ae ⟨B7,0,ai⟩),.pointer (ae ⟨B5,0,ai⟩),x4,x5,.pointer (ae ⟨rb,0,ai⟩),pq,.int .i64 xs.length,.int .i64 j,KC,Ir,It,rK,qY,qZ,oI,oJ,oK,oL,oM,oO,oP,oQ,oS,oT,oU,oH,oV,AF],[]⟩ (.code (.region id JQ aA)::k)) cs) w:=by
 obtain⟨As,cS,hsv,af8⟩:=hR.sys;obtain⟨gs,rfl,adD,af5⟩:=af8 p hp;clear af8;subst hsv;have hpI:(p:Int)<ss.length:=by omega
 have afU:=hR.lens;have U0:=(hR.okB xs[j] (aU hj)).2;have NN:=(hR.okB xs[j] (aU hj)).1;have hse:=hR.okS ss[p] (aU hp);have hl9:(cq xs[j].b ss[p]).list.length=9:=by simp[aQ.list,fM,U0]
 have ahJ:xs[j].b.list.length=9:=by simp[aQ.list,U0]
 refine Ph.WT.drawn O (by rw[hP];kernel_rfl) λn=> ?_
 unfold Region.linearise;have De:JQ.size=17:=by kernel_rfl
 have Xn:Mq JQ=aA:=by kernel_rfl
 simp only[JQ,wi,Tryz.f92]at De Xn⊢;refine Ph.WT.V1 (φ:=φ) (b:=base 92) (k:=k) (cs:=cs)
  (λL a w γ=>L.size=17/\ ∃(V:Nat->Prop) (jj:Nat) (cv pv rK qY qZ oI oJ oK oL oM oO oP oQ oS oT oU oH oV:aq),a=⟨#[.int .i64 p,.pointer (ae ⟨B4,0,ai⟩),.pointer (ae ⟨B7,0,ai⟩),.pointer (ae ⟨B5,0,ai⟩),x4,x5,.pointer (ae ⟨rb,0,ai⟩),pq,.int .i64 xs.length,.int .i64 j,KC,Ir,It,rK,qY,qZ,oI,oJ,oK,oL,oM,oO,oP,oQ,oS,oT,oU,oH,oV,AF],[]⟩/\DI φ (cfg bd old).sig wp b1 C Pb fv p xs ss hp H0 ov j hj rb gs sv (.slice (ae ⟨gs,0,ai⟩) ss.length cS) L γ w V jj cv pv rK qY qZ oI oJ oK oL oM oO oP oQ oS oT oU oH oV)
  ?_ ?_ _ _ _ _ _ _ (by simp) (bP List.countP_le_length (by simp)) ?_
 ·rintro L a w γ ⟨km,V,jj,cv,pv,rK,qY,qZ,oI,oJ,oK,oL,oM,oO,oP,oQ,oS,oT,oU,oH,oV,rfl,h⟩ S7;have wJ:=FT Xn (km.trans De.symm) S7;rw[De]at wJ;have t14:L.getD 14 aw=aA:=by have:=wJ 14 (by omega);rw[bF,aX (by omega)]at this⊢;exact this
  have t16:L.getD 16 aw=aA:=by have:=wJ 16 (by omega);rw[bF,aX (by omega)]at this⊢;exact this
  have U5:=h.js;rw[(h.Kq t14).1,(h.Kq t14).2,h.wI t16]at U5;refine mO O ?_;exact K _ _ _ rK qY qZ oI oJ oK oL oM oO oP oQ oS oT oU oH oV _ U5
 ·rintro L a w γ km ⟨-,V,jj,cv,pv,rK,qY,qZ,oI,oJ,oK,oL,oM,oO,oP,oQ,oS,oT,oU,oH,oV,rfl,h⟩ i hi rest Kx;obtain⟨afM,Ck,uB⟩:=TW hi;rw[De]at afM;have hff:=aaI (by rw[km,De];exact afM:i<L.size) Ck;have hLs:L.size=17:=km.trans De;have sP:(L.setIfInBounds i aA).size=17:=by simpa using hLs
  clear hi Ck;rcases(by omega:i=0\/i=1\/i=2\/i=3\/i=4\/i=5\/i=6\/i=7\/i=8\/i=9\/i=10\/i=11\/i=12\/i=13\/i=14\/i=15\/i=16)with rfl|rfl|rfl|rfl|rfl|rfl|rfl|rfl|rfl|rfl|rfl|rfl|rfl|rfl|rfl|rfl|rfl
  ·have hc: ∀aD,φ.eP γ w aD->aD.cell? ⟨B7,0,ai⟩=ae (.slice (ae ⟨Pb,0,ai⟩) ss.length ss.length):=λaD dh=>(c9 ((dh.rd B7 hR.r7).trans (h.js.mb.rd B7 hR.r7))).trans hR.c7
   refine rJ O (.slice (ae ⟨Pb,0,ai⟩) ss.length ss.length) (ad:=⟨B7,0,ai⟩) rfl rfl (by simp[base]) (.inr hR.r7) (λaD dh=>by have hc:=hc aD dh;rw[hP];go_simp) (λaD dh e he=>by have hc:=hc aD dh;rw[hP]at he;simp[go_sem, *]at he;exact he) ?_;refine Kx _ _ _ ⟨sP,V,jj,cv,pv,_,qY,qZ,oI,oJ,oK,oL,oM,oO,oP,oQ,oS,oT,oU,oH,oV,rfl,⟨h.js,h.sN,h.box,λhh=>h.KW (un (by decide) hh),λhh=>h.Kq (un (by decide) hh),λhh=>h.Ks (un (by decide) hh),λhh=>h.wI (un (by decide) hh),λhh=>⟨(fy (by decide)).trans (h.xc (un (by decide) hh)).1,(fy (by decide)).trans (h.xc (un (by decide) hh)).2⟩,λh1 h2=>h.new (un (by decide) h1) (un (by decide) h2),λ_=>rfl,λhh=>h.d1 (un (by decide) hh),λhh=>h.d2 (un (by decide) hh),λhh=>h.d3 (un (by decide) hh),λhh=>h.d4 (un (by decide) hh),λhh=>h.d5 (un (by decide) hh),λhh=>h.d6 (un (by decide) hh),λhh=>h.d7 (un (by decide) hh),λhh=>h.d8 (un (by decide) hh),λhh=>h.d9 (un (by decide) hh),λhh=>h.d10 (un (by decide) hh),λhh=>h.d11 (un (by decide) hh),λhh=>h.d12 (un (by decide) hh),λhh=>h.d15 (un (by decide) hh)⟩⟩
  ·refine lH O (.int .i64 p) rfl rfl (by simp[base]) (λw _=>by rw[hP];go_simp) (λw _=>by rw[hP];simp[go_sem, *]) ?_;refine Kx _ _ _ ⟨sP,V,jj,cv,pv,rK,_,qZ,oI,oJ,oK,oL,oM,oO,oP,oQ,oS,oT,oU,oH,oV,rfl,⟨h.js,h.sN,h.box,λhh=>h.KW (un (by decide) hh),λhh=>h.Kq (un (by decide) hh),λhh=>h.Ks (un (by decide) hh),λhh=>h.wI (un (by decide) hh),λhh=>⟨(fy (by decide)).trans (h.xc (un (by decide) hh)).1,(fy (by decide)).trans (h.xc (un (by decide) hh)).2⟩,λh1 h2=>h.new (un (by decide) h1) (un (by decide) h2),λhh=>h.d0 (un (by decide) hh),λ_=>rfl,λhh=>h.d2 (un (by decide) hh),λhh=>h.d3 (un (by decide) hh),λhh=>h.d4 (un (by decide) hh),λhh=>h.d5 (un (by decide) hh),λhh=>h.d6 (un (by decide) hh),λhh=>h.d7 (un (by decide) hh),λhh=>h.d8 (un (by decide) hh),λhh=>h.d9 (un (by decide) hh),λhh=>h.d10 (un (by decide) hh),λhh=>h.d11 (un (by decide) hh),λhh=>h.d12 (un (by decide) hh),λhh=>h.d15 (un (by decide) hh)⟩⟩
  ·have hc: ∀aD,φ.eP γ w aD->aD.cell? ⟨B7,0,ai⟩=ae (.slice (ae ⟨Pb,0,ai⟩) ss.length ss.length):=λaD dh=>(c9 ((dh.rd B7 hR.r7).trans (h.js.mb.rd B7 hR.r7))).trans hR.c7
   refine rJ O (.slice (ae ⟨Pb,0,ai⟩) ss.length ss.length) (ad:=⟨B7,0,ai⟩) rfl rfl (by simp[base]) (.inr hR.r7) (λaD dh=>by have hc:=hc aD dh;rw[hP];go_simp) (λaD dh e he=>by have hc:=hc aD dh;rw[hP]at he;simp[go_sem, *]at he;exact he) ?_;refine Kx _ _ _ ⟨sP,V,jj,cv,pv,rK,qY,_,oI,oJ,oK,oL,oM,oO,oP,oQ,oS,oT,oU,oH,oV,rfl,⟨h.js,h.sN,h.box,λhh=>h.KW (un (by decide) hh),λhh=>h.Kq (un (by decide) hh),λhh=>h.Ks (un (by decide) hh),λhh=>h.wI (un (by decide) hh),λhh=>⟨(fy (by decide)).trans (h.xc (un (by decide) hh)).1,(fy (by decide)).trans (h.xc (un (by decide) hh)).2⟩,λh1 h2=>h.new (un (by decide) h1) (un (by decide) h2),λhh=>h.d0 (un (by decide) hh),λhh=>h.d1 (un (by decide) hh),λ_=>rfl,λhh=>h.d3 (un (by decide) hh),λhh=>h.d4 (un (by decide) hh),λhh=>h.d5 (un (by decide) hh),λhh=>h.d6 (un (by decide) hh),λhh=>h.d7 (un (by decide) hh),λhh=>h.d8 (un (by decide) hh),λhh=>h.d9 (un (by decide) hh),λhh=>h.d10 (un (by decide) hh),λhh=>h.d11 (un (by decide) hh),λhh=>h.d12 (un (by decide) hh),λhh=>h.d15 (un (by decide) hh)⟩⟩
  ·refine lH O (.int .i64 p) rfl rfl (by simp[base]) (λw _=>by rw[hP];go_simp) (λw _=>by rw[hP];simp[go_sem, *]) ?_;refine Kx _ _ _ ⟨sP,V,jj,cv,pv,rK,qY,qZ,_,oJ,oK,oL,oM,oO,oP,oQ,oS,oT,oU,oH,oV,rfl,⟨h.js,h.sN,h.box,λhh=>h.KW (un (by decide) hh),λhh=>h.Kq (un (by decide) hh),λhh=>h.Ks (un (by decide) hh),λhh=>h.wI (un (by decide) hh),λhh=>⟨(fy (by decide)).trans (h.xc (un (by decide) hh)).1,(fy (by decide)).trans (h.xc (un (by decide) hh)).2⟩,λh1 h2=>h.new (un (by decide) h1) (un (by decide) h2),λhh=>h.d0 (un (by decide) hh),λhh=>h.d1 (un (by decide) hh),λhh=>h.d2 (un (by decide) hh),λ_=>rfl,λhh=>h.d4 (un (by decide) hh),λhh=>h.d5 (un (by decide) hh),λhh=>h.d6 (un (by decide) hh),λhh=>h.d7 (un (by decide) hh),λhh=>h.d8 (un (by decide) hh),λhh=>h.d9 (un (by decide) hh),λhh=>h.d10 (un (by decide) hh),λhh=>h.d11 (un (by decide) hh),λhh=>h.d12 (un (by decide) hh),λhh=>h.d15 (un (by decide) hh)⟩⟩
  ·obtain rfl:=h.d2 (uB _ rfl ⟨2,.data⟩ (by simp) rfl);obtain rfl:=h.d3 (uB _ rfl ⟨3,.data⟩ (by simp) rfl);refine lH O (.pointer (ae ⟨Pb,p,ai⟩)) rfl rfl (by simp[base]) (λw _=>by rw[hP];go_simp) (λw _=>by rw[hP];simp[go_sem, *]) ?_;refine Kx _ _ _ ⟨sP,V,jj,cv,pv,rK,qY,_,_,_,oK,oL,oM,oO,oP,oQ,oS,oT,oU,oH,oV,rfl,⟨h.js,h.sN,h.box,λhh=>h.KW (un (by decide) hh),λhh=>h.Kq (un (by decide) hh),λhh=>h.Ks (un (by decide) hh),λhh=>h.wI (un (by decide) hh),λhh=>⟨(fy (by decide)).trans (h.xc (un (by decide) hh)).1,(fy (by decide)).trans (h.xc (un (by decide) hh)).2⟩,λh1 h2=>h.new (un (by decide) h1) (un (by decide) h2),λhh=>h.d0 (un (by decide) hh),λhh=>h.d1 (un (by decide) hh),λhh=>h.d2 (un (by decide) hh),λhh=>h.d3 (un (by decide) hh),λ_=>rfl,λhh=>h.d5 (un (by decide) hh),λhh=>h.d6 (un (by decide) hh),λhh=>h.d7 (un (by decide) hh),λhh=>h.d8 (un (by decide) hh),λhh=>h.d9 (un (by decide) hh),λhh=>h.d10 (un (by decide) hh),λhh=>h.d11 (un (by decide) hh),λhh=>h.d12 (un (by decide) hh),λhh=>h.d15 (un (by decide) hh)⟩⟩
  ·obtain rfl:=h.d4 (uB _ rfl ⟨4,.data⟩ (by simp) rfl);have WZ:L.getD 16 aw=aw:=by
    cases WZ:L.getD 16 aw with
    |false=>rfl
    |true=>rw[(h.xc WZ).1]at hff;cases hff
   have hcv:=h.Ks WZ;have hc: ∀aD,φ.eP γ w aD->aD.cell? ⟨Pb,p,ai⟩=ae sv:=λaD dh=>by rw[<-hcv];exact(h.js.rely O ((ry _).2 rfl) dh).cell
   refine .pure O sv rfl rfl (by simp[base]) (λaD dh=>by have hc:=hc aD dh;rw[hP];go_simp) (λaD dh e he=>by have hc:=hc aD dh;rw[hP]at he;simp[go_sem, *]at he;subst he;exact .inr ⟨rfl,Pb,rfl,.inr (.inl ⟨p,⟨Pb,p,ai⟩,h.js.mb.hp,(ry _).2 rfl,rfl⟩)⟩) ?_
   refine Kx _ _ _ ⟨sP,V,jj,cv,pv,rK,qY,qZ,oI,_,_,oL,oM,oO,oP,oQ,oS,oT,oU,oH,oV,rfl,⟨h.js,h.sN,h.box,λhh=>h.KW (un (by decide) hh),λhh=>h.Kq (un (by decide) hh),λhh=>h.Ks (un (by decide) hh),λhh=>h.wI (un (by decide) hh),λhh=>⟨Eb (by omega),(fy (by decide)).trans (h.xc (un (by decide) hh)).2⟩,λh1 h2=>h.new (un (by decide) h1) (un (by decide) h2),λhh=>h.d0 (un (by decide) hh),λhh=>h.d1 (un (by decide) hh),λhh=>h.d2 (un (by decide) hh),λhh=>h.d3 (un (by decide) hh),λhh=>h.d4 (un (by decide) hh),λ_=>rfl,λhh=>h.d6 (un (by decide) hh),λhh=>h.d7 (un (by decide) hh),λhh=>h.d8 (un (by decide) hh),λhh=>h.d9 (un (by decide) hh),λhh=>h.d10 (un (by decide) hh),λhh=>h.d11 (un (by decide) hh),λhh=>h.d12 (un (by decide) hh),λhh=>h.d15 (un (by decide) hh)⟩⟩
  ·refine lH O (.pointer (ae ⟨rb,2,ai⟩)) rfl rfl (by simp[base]) (λw _=>by rw[hP];go_simp) (λw _=>by rw[hP];simp[go_sem, *]) ?_;refine Kx _ _ _ ⟨sP,V,jj,cv,pv,rK,qY,qZ,oI,oJ,oK,_,oM,oO,oP,oQ,oS,oT,oU,oH,oV,rfl,⟨h.js,h.sN,h.box,λhh=>h.KW (un (by decide) hh),λhh=>h.Kq (un (by decide) hh),λhh=>h.Ks (un (by decide) hh),λhh=>h.wI (un (by decide) hh),λhh=>⟨(fy (by decide)).trans (h.xc (un (by decide) hh)).1,(fy (by decide)).trans (h.xc (un (by decide) hh)).2⟩,λh1 h2=>h.new (un (by decide) h1) (un (by decide) h2),λhh=>h.d0 (un (by decide) hh),λhh=>h.d1 (un (by decide) hh),λhh=>h.d2 (un (by decide) hh),λhh=>h.d3 (un (by decide) hh),λhh=>h.d4 (un (by decide) hh),λhh=>h.d5 (un (by decide) hh),λ_=>rfl,λhh=>h.d7 (un (by decide) hh),λhh=>h.d8 (un (by decide) hh),λhh=>h.d9 (un (by decide) hh),λhh=>h.d10 (un (by decide) hh),λhh=>h.d11 (un (by decide) hh),λhh=>h.d12 (un (by decide) hh),λhh=>h.d15 (un (by decide) hh)⟩⟩
  ·obtain rfl:=h.d6 (uB _ rfl ⟨6,.data⟩ (by simp) rfl);have hr: ∀aD,φ.eP γ w aD->row? aD rb 2 9=ae (ints xs[j].b.list):=λaD dh=>by rw[dq.eb ((dh.own rb (h.js.mb.vo rb h.sN).1).trans h.box) 2 9 (by simp[cz.list,ahJ])];show ae (ints (xs[j].b.list.take 9))=_;rw[cI (by omega)]
   refine .pure O (.agg (ints xs[j].b.list)) rfl rfl (by simp[base]) (λaD dh=>by have hr:=hr aD dh;rw[hP];go_simp) (λaD dh e he=>by rw[hP]at he;obtain⟨ad,rfl,tP⟩:=qk (P:=Tryz.prog) (t:=48) (g:=rb) (o:=2) (n:=9) Tryz.underlying48 (by kernel_rfl) (xW (hr aD dh)) e (by simpa[execOp,bV]using he);exact .inr ⟨rfl,ad.block,rfl,.inl (tP▸(h.js.mb.vo rb h.sN).1)⟩) ?_
   refine Kx _ _ _ ⟨sP,V,jj,cv,pv,rK,qY,qZ,oI,oJ,oK,_,_,oO,oP,oQ,oS,oT,oU,oH,oV,rfl,⟨h.js,h.sN,h.box,λhh=>h.KW (un (by decide) hh),λhh=>h.Kq (un (by decide) hh),λhh=>h.Ks (un (by decide) hh),λhh=>h.wI (un (by decide) hh),λhh=>⟨(fy (by decide)).trans (h.xc (un (by decide) hh)).1,(fy (by decide)).trans (h.xc (un (by decide) hh)).2⟩,λh1 h2=>h.new (un (by decide) h1) (un (by decide) h2),λhh=>h.d0 (un (by decide) hh),λhh=>h.d1 (un (by decide) hh),λhh=>h.d2 (un (by decide) hh),λhh=>h.d3 (un (by decide) hh),λhh=>h.d4 (un (by decide) hh),λhh=>h.d5 (un (by decide) hh),λhh=>h.d6 (un (by decide) hh),λ_=>rfl,λhh=>h.d8 (un (by decide) hh),λhh=>h.d9 (un (by decide) hh),λhh=>h.d10 (un (by decide) hh),λhh=>h.d11 (un (by decide) hh),λhh=>h.d12 (un (by decide) hh),λhh=>h.d15 (un (by decide) hh)⟩⟩
  ·have hc: ∀aD,φ.eP γ w aD->aD.cell? ⟨B5,0,ai⟩=ae (.slice (ae ⟨gs,0,ai⟩) ss.length cS):=λaD dh=>(c9 ((dh.rd B5 hR.r5).trans (h.js.mb.rd B5 hR.r5))).trans hR.c5
   refine rJ O (.slice (ae ⟨gs,0,ai⟩) ss.length cS) (ad:=⟨B5,0,ai⟩) rfl rfl (by simp[base]) (.inr hR.r5) (λaD dh=>by have hc:=hc aD dh;rw[hP];go_simp) (λaD dh e he=>by have hc:=hc aD dh;rw[hP]at he;simp[go_sem, *]at he;exact he) ?_;refine Kx _ _ _ ⟨sP,V,jj,cv,pv,rK,qY,qZ,oI,oJ,oK,oL,oM,_,oP,oQ,oS,oT,oU,oH,oV,rfl,⟨h.js,h.sN,h.box,λhh=>h.KW (un (by decide) hh),λhh=>h.Kq (un (by decide) hh),λhh=>h.Ks (un (by decide) hh),λhh=>h.wI (un (by decide) hh),λhh=>⟨(fy (by decide)).trans (h.xc (un (by decide) hh)).1,(fy (by decide)).trans (h.xc (un (by decide) hh)).2⟩,λh1 h2=>h.new (un (by decide) h1) (un (by decide) h2),λhh=>h.d0 (un (by decide) hh),λhh=>h.d1 (un (by decide) hh),λhh=>h.d2 (un (by decide) hh),λhh=>h.d3 (un (by decide) hh),λhh=>h.d4 (un (by decide) hh),λhh=>h.d5 (un (by decide) hh),λhh=>h.d6 (un (by decide) hh),λhh=>h.d7 (un (by decide) hh),λ_=>rfl,λhh=>h.d9 (un (by decide) hh),λhh=>h.d10 (un (by decide) hh),λhh=>h.d11 (un (by decide) hh),λhh=>h.d12 (un (by decide) hh),λhh=>h.d15 (un (by decide) hh)⟩⟩
  ·refine lH O (.int .i64 p) rfl rfl (by simp[base]) (λw _=>by rw[hP];go_simp) (λw _=>by rw[hP];simp[go_sem, *]) ?_;refine Kx _ _ _ ⟨sP,V,jj,cv,pv,rK,qY,qZ,oI,oJ,oK,oL,oM,oO,_,oQ,oS,oT,oU,oH,oV,rfl,⟨h.js,h.sN,h.box,λhh=>h.KW (un (by decide) hh),λhh=>h.Kq (un (by decide) hh),λhh=>h.Ks (un (by decide) hh),λhh=>h.wI (un (by decide) hh),λhh=>⟨(fy (by decide)).trans (h.xc (un (by decide) hh)).1,(fy (by decide)).trans (h.xc (un (by decide) hh)).2⟩,λh1 h2=>h.new (un (by decide) h1) (un (by decide) h2),λhh=>h.d0 (un (by decide) hh),λhh=>h.d1 (un (by decide) hh),λhh=>h.d2 (un (by decide) hh),λhh=>h.d3 (un (by decide) hh),λhh=>h.d4 (un (by decide) hh),λhh=>h.d5 (un (by decide) hh),λhh=>h.d6 (un (by decide) hh),λhh=>h.d7 (un (by decide) hh),λhh=>h.d8 (un (by decide) hh),λ_=>rfl,λhh=>h.d10 (un (by decide) hh),λhh=>h.d11 (un (by decide) hh),λhh=>h.d12 (un (by decide) hh),λhh=>h.d15 (un (by decide) hh)⟩⟩
  ·obtain rfl:=h.d8 (uB _ rfl ⟨8,.data⟩ (by simp) rfl);obtain rfl:=h.d9 (uB _ rfl ⟨9,.data⟩ (by simp) rfl);refine lH O (.pointer (ae ⟨gs,p *7,ai⟩)) rfl rfl (by simp[base]) (λw _=>by rw[hP];go_simp) (λw _=>by rw[hP];simp[go_sem, *]) ?_;refine Kx _ _ _ ⟨sP,V,jj,cv,pv,rK,qY,qZ,oI,oJ,oK,oL,oM,_,_,_,oS,oT,oU,oH,oV,rfl,⟨h.js,h.sN,h.box,λhh=>h.KW (un (by decide) hh),λhh=>h.Kq (un (by decide) hh),λhh=>h.Ks (un (by decide) hh),λhh=>h.wI (un (by decide) hh),λhh=>⟨(fy (by decide)).trans (h.xc (un (by decide) hh)).1,(fy (by decide)).trans (h.xc (un (by decide) hh)).2⟩,λh1 h2=>h.new (un (by decide) h1) (un (by decide) h2),λhh=>h.d0 (un (by decide) hh),λhh=>h.d1 (un (by decide) hh),λhh=>h.d2 (un (by decide) hh),λhh=>h.d3 (un (by decide) hh),λhh=>h.d4 (un (by decide) hh),λhh=>h.d5 (un (by decide) hh),λhh=>h.d6 (un (by decide) hh),λhh=>h.d7 (un (by decide) hh),λhh=>h.d8 (un (by decide) hh),λhh=>h.d9 (un (by decide) hh),λ_=>rfl,λhh=>h.d11 (un (by decide) hh),λhh=>h.d12 (un (by decide) hh),λhh=>h.d15 (un (by decide) hh)⟩⟩
  ·obtain rfl:=h.d10 (uB _ rfl ⟨10,.data⟩ (by simp) rfl);have hr: ∀aD,φ.eP γ w aD->row? aD gs (p *7) 7=ae (ints ss[p].list):=λaD dh=>(wC ((dh.rd gs adD).trans (h.js.mb.rd gs adD)) _ _).trans af5
   refine .pure O (.agg (ints ss[p].list)) rfl rfl (by simp[base]) (λaD dh=>by have hr:=hr aD dh;rw[hP];go_simp) (λaD dh e he=>by rw[hP]at he;obtain⟨ad,rfl,tP⟩:=qk (P:=Tryz.prog) (t:=54) (g:=gs) (o:=p *7) (n:=7) Tryz.underlying54 (by kernel_rfl) (xW (hr aD dh)) e (by simpa[execOp,bV]using he);exact .inr ⟨rfl,ad.block,rfl,.inr (.inr ⟨rfl,tP▸adD⟩)⟩) ?_
   refine Kx _ _ _ ⟨sP,V,jj,cv,pv,rK,qY,qZ,oI,oJ,oK,oL,oM,oO,oP,_,_,oT,oU,oH,oV,rfl,⟨h.js,h.sN,h.box,λhh=>h.KW (un (by decide) hh),λhh=>h.Kq (un (by decide) hh),λhh=>h.Ks (un (by decide) hh),λhh=>h.wI (un (by decide) hh),λhh=>⟨(fy (by decide)).trans (h.xc (un (by decide) hh)).1,(fy (by decide)).trans (h.xc (un (by decide) hh)).2⟩,λh1 h2=>h.new (un (by decide) h1) (un (by decide) h2),λhh=>h.d0 (un (by decide) hh),λhh=>h.d1 (un (by decide) hh),λhh=>h.d2 (un (by decide) hh),λhh=>h.d3 (un (by decide) hh),λhh=>h.d4 (un (by decide) hh),λhh=>h.d5 (un (by decide) hh),λhh=>h.d6 (un (by decide) hh),λhh=>h.d7 (un (by decide) hh),λhh=>h.d8 (un (by decide) hh),λhh=>h.d9 (un (by decide) hh),λhh=>h.d10 (un (by decide) hh),λ_=>rfl,λhh=>h.d12 (un (by decide) hh),λhh=>h.d15 (un (by decide) hh)⟩⟩
  ·obtain rfl:=h.d7 (uB _ rfl ⟨7,.data⟩ (by simp) rfl);obtain rfl:=h.d11 (uB _ rfl ⟨11,.data⟩ (by simp) rfl);have ahg:φ.P.funcs[39]? =ae Tryz.f39:=by rw[hP];exact Tryz.func39
   have ahQ:=h.js.mb.size;have ahA:(cfg bd old).fn 39=aA:=by show wX.contains (39)=aA;decide+kernel
   have u9: ∀tp d,Calls Tryz.prog 39 #[.agg (ints xs[j].b.list),.agg (ints ss[p].list)] (dB w tp d) (λe _=>e=.returned (.agg (ints (cq xs[j].b ss[p]).list))):=λtp d=>(Wq xs[j].b ss[p] U0 NN hse (dB w tp d)).mono λe w' h=>h.1
   refine Ph.WT.agl O (c:=cfg bd old) (f:=39) (R:=λe _=>e=.returned (.agg (ints (cq xs[j].b ss[p]).list))) (St:=γ.own) (by rw[hP];exact K3 bd old) rfl rfl (by simp[base]) rfl ahA rfl ahg rfl rfl (λv hv=>by
    simp[bV]at hv;rcases hv with rfl|rfl<;>exact λπ=>Az _) (h.js.mb.vh.ox) (λtp d=>by
    rw[hP];walk_nrm;exact u9 tp d) (λe L h=>⟨_,h,Dz _ λx hx=>by simp[ints]at hx;obtain⟨n,_,rfl⟩:=hx;exact⟨_,_,rfl⟩⟩)
    (λr hr=>(h.js.mb.cb r hr).1) (λr hr=>by have:=bE r (.inr (.inl hr));omega) (λr hr=>⟨by have:=bE r (.inl hr);omega,λho=>(h.js.mb.cb r ho).2.1 hr⟩) (λr hr=>⟨hr,(h.js.mb.cb r hr).2.2.2⟩) ⟨by have:=bE φ.Wg (.inr (.inr rfl));omega,λho=>(h.js.mb.cb _ ho).2.2.1 rfl⟩ ?_
   intro v Lw γ' w' hr h1 h2 h2' h3 hk;injection hr with hr
   subst hr;refine Kx _ _ _ ⟨sP,V,jj,cv,pv,rK,qY,qZ,oI,oJ,oK,oL,_,oO,oP,oQ,_,_,oU,oH,oV,rfl,⟨h.js.lone O ((ry _).2 rfl) bE h1 h2 h2' h3 hk,h.sN,(hk.st rb (h.js.mb.vo rb h.sN).1).trans h.box,λhh=>h.KW (un (by decide) hh),λhh=>h.Kq (un (by decide) hh),λhh=>h.Ks (un (by decide) hh),λhh=>h.wI (un (by decide) hh),λhh=>⟨(fy (by decide)).trans (h.xc (un (by decide) hh)).1,(fy (by decide)).trans (h.xc (un (by decide) hh)).2⟩,λh1 h2=>let⟨nb,e1,e2,e3⟩:=h.new (un (by decide) h1) (un (by decide) h2);⟨nb,e1,e2,(hk.st nb (h.js.mb.vo nb e2).1).trans e3⟩,λhh=>h.d0 (un (by decide) hh),λhh=>h.d1 (un (by decide) hh),λhh=>h.d2 (un (by decide) hh),λhh=>h.d3 (un (by decide) hh),λhh=>h.d4 (un (by decide) hh),λhh=>h.d5 (un (by decide) hh),λhh=>h.d6 (un (by decide) hh),λhh=>h.d7 (un (by decide) hh),λhh=>h.d8 (un (by decide) hh),λhh=>h.d9 (un (by decide) hh),λhh=>h.d10 (un (by decide) hh),λhh=>h.d11 (un (by decide) hh),λ_=>rfl,λhh=>h.d15 (un (by decide) hh)⟩⟩
  ·obtain rfl:=h.d12 (uB _ rfl ⟨12,.data⟩ (by simp) rfl);have Tb: ∀r,φ.CB r->r<w.heap.size:=λr hr=>by have:=bE r (.inr (.inl hr));have:=h.js.mb.size;omega
   refine Qd (c:=cU bd old [25]) (V:=V) (by rw[hP];exact Cb bd old [25]) (λr hr=>(h.js.mb.vo r hr).1) (λr hr=>(h.js.mb.cb r hr).1) Tb h.js.mb.vh rfl rfl (by simp[base]) (by kernel_rfl) (IY (U:=[25]) rfl (by simp) (λt ht=>by
    simp only[cy,jo,or_false]at ht;subst ht;exact Az _))
    (λaD v w'=>v=.slice (ae ⟨aD.heap.size,0,ai⟩) 1 1/\w'=aD.alloc (.cells (ints (cq xs[j].b ss[p]).list) 48)) (λaD dh=>⟨_,_,by
      rw[hP];have hb:=Ah aD (ints (cq xs[j].b ss[p]).list) (by simp[ints,hl9]);simp[execOp,bV,hb]
      rfl,rfl,rfl⟩) ?_
   rintro aD v w' V' dh ⟨rfl,rfl⟩ k1 k2 k3 k6 k4 k5;have hpv:=Jw (h.js.rely O ((ry _).2 rfl) dh).own;have hbx:dq aD rb 50 (ints (xs[j]).list):=(dh.own rb (h.js.mb.vo rb h.sN).1).trans h.box;refine Kx _ _ _ ⟨sP,V',jj,cv,pv,rK,qY,qZ,oI,oJ,oK,oL,oM,oO,oP,oQ,oS,_,_,oH,oV,rfl,⟨(h.js.rely O ((ry _).2 rfl) dh).val O ((ry _).2 rfl) bE k1 k2 k3 k4 k5 (λr hr=>Below.heap_alloc aD _ r (hpv r hr)),k1 rb h.sN,(Below.heap_alloc aD _ rb hbx.lt).trans hbx,λhh=>h.KW (un (by decide) hh),λhh=>h.Kq (un (by decide) hh),λhh=>h.Ks (un (by decide) hh),λhh=>h.wI (un (by decide) hh),λhh=>⟨(fy (by decide)).trans (h.xc (un (by decide) hh)).1,(fy (by decide)).trans (h.xc (un (by decide) hh)).2⟩,λ_ _=>⟨aD.heap.size,rfl,Em k6,dq.new aD _ _⟩,λhh=>h.d0 (un (by decide) hh),λhh=>h.d1 (un (by decide) hh),λhh=>h.d2 (un (by decide) hh),λhh=>h.d3 (un (by decide) hh),λhh=>h.d4 (un (by decide) hh),λhh=>h.d5 (un (by decide) hh),λhh=>h.d6 (un (by decide) hh),λhh=>h.d7 (un (by decide) hh),λhh=>h.d8 (un (by decide) hh),λhh=>h.d9 (un (by decide) hh),λhh=>h.d10 (un (by decide) hh),λhh=>h.d11 (un (by decide) hh),λhh=>h.d12 (un (by decide) hh),λhh=>h.d15 (un (by decide) hh)⟩⟩
  ·have e18:=h.d5 (uB _ rfl ⟨5,.data⟩ (by simp) rfl);obtain⟨nb,e26,afv,ahf⟩:=h.new (uB _ rfl ⟨13,.data⟩ (by simp) rfl) hff;subst e18 e26;obtain⟨e1,e2⟩:=h.KW hff;have e1:=e1.symm;subst e1 e2;have Tb: ∀r,φ.CB r->r<w.heap.size:=λr hr=>by have:=bE r (.inr (.inl hr));have:=h.js.mb.size;omega
   obtain⟨i0,qX,uH,vi,uC⟩:=info_parts yp;refine Qd (c:=cU bd old [18,26]) (V:=V) (by rw[hP];exact Cb bd old [18,26]) (λr hr=>(h.js.mb.vo r hr).1) (λr hr=>(h.js.mb.cb r hr).1) Tb h.js.mb.vh rfl rfl (by simp[base]) (by kernel_rfl) (IY (U:=[18,26]) rfl (by simp) (λt ht=>by
    simp only[cy,jo,or_false]at ht;rcases ht with rfl|rfl
    ·exact h.js.rel
    ·exact .slice _ _ ⟨⟨rfl,afv⟩,rfl,rfl⟩))
    (λaD v w'=>w'.ownsRow 0 48 9 v (j+1) ((xs.take j).flatMap (λr=>N9 (cq r.b ss[p]))++(ints (cq xs[j].b ss[p]).list).toList)/\aD.grownBy w' pv.ownBlock) (λaD dh=> ?_) ?_
   ·have XC:=(h.js.rely O ((ry _).2 rfl) dh).own;have hsr:aD.ownsRow 0 48 9 (.slice (ae ⟨nb,0,ai⟩) 1 1) 1 (ints (cq xs[j].b ss[p]).list).toList:=⟨by simp[ints,hl9],.inr ⟨nb,1,_,rfl,bS _,(dh.own nb (h.js.mb.vo nb afv).1).trans ahf,az _,by unfold maxLen;omega,by simp[ints,hl9],by rw[cI];simp[ints,hl9]⟩⟩;obtain⟨v',w',hr,h2,h3,_⟩:=vE (P:=Tryz.prog) (w:=aD) 100 100 48 i0 _ 9 72 Tryz.underlying100 qX uH vi uC rfl (by decide) XC hsr (λx hx=>by simp[ints]at hx;obtain⟨n,_,rfl⟩:=hx;rfl) (by unfold maxLen;have:=hR.len;omega) (by have:=hR.len;omega);refine⟨v',w',?_,h2,h3⟩;rw[hP];simp[execOp,resolve,invoke,builtin,bV,hr]
   ·rintro aD v w' V' dh ⟨q1,q2⟩ k1 k2 k3 k6 k4 k5;have I9:=h.js.rely O ((ry _).2 rfl) dh;have hbx:dq aD rb 50 (ints (xs[j]).list):=(dh.own rb (h.js.mb.vo rb h.sN).1).trans h.box;have LI:=O.mK p ⟨Pb,p,ai⟩ ((ry _).2 rfl);have U5:JS φ (cfg bd old).sig wp b1 C Pb fv p xs ss[p] H0 ov (j+1) (γ.grow aD w') w' V' cv v:=by refine⟨I9.mb.val O bE k1 k2 k3 k4 k5,h.js.held,h.js.over,(c9 (k4 Pb (by have:=bE Pb (.inr (.inl LI));have:=I9.mb.size;omega) λhv=>(I9.mb.cb Pb (I9.mb.vo Pb hv).1).1 LI)).trans I9.cell,k6,?_⟩;rw[aR hj,eI];simpa[N9,ints]using q1
    refine Kx _ _ _ ⟨sP,V',(j+1),cv,v,rK,qY,qZ,oI,oJ,_,oL,oM,oO,oP,oQ,oS,oT,_,_,oV,rfl,⟨U5,k1 rb h.sN,(q2.block rb hbx.lt λe=>by have:=dQ rb e.symm;omega).trans hbx,(λhh=>by rw[Eb (by omega)]at hh;cases hh),λ_=>⟨rfl,rfl⟩,λhh=>h.Ks (un (by decide) hh),(λhh=>by have:=(h.xc (un (by decide) hh)).2;rw[hff]at this;cases this),λhh=>⟨(fy (by decide)).trans (h.xc (un (by decide) hh)).1,Eb (by omega)⟩,(λ_ h2=>by rw[Eb (by omega)]at h2;cases h2),λhh=>h.d0 (un (by decide) hh),λhh=>h.d1 (un (by decide) hh),λhh=>h.d2 (un (by decide) hh),λhh=>h.d3 (un (by decide) hh),λhh=>h.d4 (un (by decide) hh),λhh=>h.d5 (un (by decide) hh),λhh=>h.d6 (un (by decide) hh),λhh=>h.d7 (un (by decide) hh),λhh=>h.d8 (un (by decide) hh),λhh=>h.d9 (un (by decide) hh),λhh=>h.d10 (un (by decide) hh),λhh=>h.d11 (un (by decide) hh),λhh=>h.d12 (un (by decide) hh),λhh=>h.d15 (un (by decide) hh)⟩⟩
  ·obtain rfl:=h.d0 (uB _ rfl ⟨0,.data⟩ (by simp) rfl);obtain rfl:=h.d1 (uB _ rfl ⟨1,.data⟩ (by simp) rfl);refine lH O (.pointer (ae ⟨Pb,p,ai⟩)) rfl rfl (by simp[base]) (λw _=>by rw[hP];go_simp) (λw _=>by rw[hP];simp[go_sem, *]) ?_;refine Kx _ _ _ ⟨sP,V,jj,cv,pv,_,_,qZ,oI,oJ,oK,oL,oM,oO,oP,oQ,oS,oT,oU,oH,_,rfl,⟨h.js,h.sN,h.box,λhh=>h.KW (un (by decide) hh),λhh=>h.Kq (un (by decide) hh),λhh=>h.Ks (un (by decide) hh),λhh=>h.wI (un (by decide) hh),λhh=>⟨(fy (by decide)).trans (h.xc (un (by decide) hh)).1,(fy (by decide)).trans (h.xc (un (by decide) hh)).2⟩,λh1 h2=>h.new (un (by decide) h1) (un (by decide) h2),λhh=>h.d0 (un (by decide) hh),λhh=>h.d1 (un (by decide) hh),λhh=>h.d2 (un (by decide) hh),λhh=>h.d3 (un (by decide) hh),λhh=>h.d4 (un (by decide) hh),λhh=>h.d5 (un (by decide) hh),λhh=>h.d6 (un (by decide) hh),λhh=>h.d7 (un (by decide) hh),λhh=>h.d8 (un (by decide) hh),λhh=>h.d9 (un (by decide) hh),λhh=>h.d10 (un (by decide) hh),λhh=>h.d11 (un (by decide) hh),λhh=>h.d12 (un (by decide) hh),λ_=>rfl⟩⟩
  ·obtain rfl:=h.d15 (uB _ rfl ⟨15,.data⟩ (by simp) rfl);obtain⟨e1,e2⟩:=h.Kq (uB _ rfl ⟨14,.data⟩ (by simp) rfl);subst e1 e2;have t5:=uB _ rfl ⟨5,.phase⟩ (by simp) rfl;have t14:=uB _ rfl ⟨14,.data⟩ (by simp) rfl;have hcv:=h.Ks hff;subst hcv;obtain⟨A',c',hpv,_⟩:=cH h.js.own;have LI:=O.mK p ⟨Pb,p,ai⟩ ((ry _).2 rfl);have hfz: ∀aD,φ.eP γ w aD->aD.cell? ⟨Pb,p,ai⟩=ae cv/\aD.frozen? ⟨Pb,p,ai⟩=aw:=λaD dh=>by have I9:=h.js.rely O ((ry _).2 rfl) dh;refine⟨I9.cell,?_⟩;exact I0 ((I9.mb.pay Pb LI).trans hR.pb) p
   refine .opN (λaD=>aD.setCell ⟨Pb,p,ai⟩ pv) rfl rfl (by simp[base]) (λaD dh=>by
    obtain⟨hc,hz⟩:=hfz aD dh;subst hpv;rw[hP];go_simp) (λaD dh=>SQ LI (λad S4=>((ry ad).1 S4).symm▸rfl) h.js.mb.hp ((ry _).2 rfl) (λe he=>by
    obtain⟨hc,hz⟩:=hfz aD dh;subst hpv;rw[hP]at he;simp[go_sem, *]at he;rw[events_store _ _ _ _ _ _ rfl]at he;simp[storedEv,hc,hz]at he;exact he)) ?_
   intro aD dh;rw[Gh.GG γ (by simp)];have I9:=h.js.rely O ((ry _).2 rfl) dh;have hbx:dq aD rb 50 (ints (xs[j]).list):=(dh.own rb (h.js.mb.vo rb h.sN).1).trans h.box;have rh:(aD.setCell ⟨Pb,p,ai⟩ pv).cell? ⟨Pb,p,ai⟩=ae pv:=Wi (hfz aD dh).1 pv;have U5:JS φ (cfg bd old).sig wp b1 C Pb fv p xs ss[p] H0 ov (j+1) γ (aD.setCell ⟨Pb,p,ai⟩ pv) V pv pv:=⟨I9.mb.aas O LI ((ry _).2 rfl) pv,h.js.held,h.js.over,rh,I9.rel,wz I9.rel I9.own λr hr=>Below.heap_setCell aD _ _ r λe=>(I9.mb.cb r (I9.mb.vo r hr).1).1 (e▸LI)⟩
   refine Kx _ _ _ ⟨sP,V,(j+1),pv,pv,rK,qY,qZ,oI,oJ,oK,oL,oM,oO,oP,oQ,oS,oT,oU,pv,_,rfl,⟨U5,h.sN,(Below.heap_setCell aD _ _ rb λe=>(I9.mb.cb rb (I9.mb.vo rb h.sN).1).1 (e▸LI)).trans hbx,λhh=>h.KW (un (by decide) hh),λhh=>⟨rfl,rfl⟩,(λhh=>by rw[Eb (by omega)]at hh;cases hh),λ_=>rfl,λ_=>⟨(fy (by decide)).trans t5,(fy (by decide)).trans t14⟩,(λ_ h2=>by rw[un (by decide) h2]at t14;cases t14),λhh=>h.d0 (un (by decide) hh),λhh=>h.d1 (un (by decide) hh),λhh=>h.d2 (un (by decide) hh),λhh=>h.d3 (un (by decide) hh),λhh=>h.d4 (un (by decide) hh),λhh=>h.d5 (un (by decide) hh),λhh=>h.d6 (un (by decide) hh),λhh=>h.d7 (un (by decide) hh),λhh=>h.d8 (un (by decide) hh),λhh=>h.d9 (un (by decide) hh),λhh=>h.d10 (un (by decide) hh),λhh=>h.d11 (un (by decide) hh),λhh=>h.d12 (un (by decide) hh),λhh=>h.d15 (un (by decide) hh)⟩⟩
 ·refine⟨by simp,V,j,sv,sv,rK,qY,qZ,oI,oJ,oK,oL,oM,oO,oP,oQ,oS,oT,oU,oH,oV,rfl,h,sN,hB,λ_=>⟨rfl,rfl⟩,?_,λ_=>rfl,?_,?_,?_,?_,?_,?_,?_,?_,?_,?_,?_,?_,?_,?_,?_,?_,?_⟩
  all_goals intro hh;simp[De]at hh
end
end
section
open Rel
open Go.Conc Go.ConcN
open Go.ConcR (Payload WgAt)
open Go.RowKit
section
variable {φ:Ph} {wp:ah} {bd:bQ->List Tmp} {old:Nat} {B4 B7 B5 Pb b1 C p:Nat} {fv:aq} {xs:List cz} {ss:List Sys} {pq B9:aq}
theorem XM (O:φ.Ok)(hP:φ.P=Tryz.prog)(bE: ∀r,φ.od r\/φ.CB r\/r=φ.Wg->r<wp.heap.size)(afP: ∀ad,φ.jl p ad↔ad=⟨Pb,p,ai⟩)(hR:BRd φ wp B4 B7 B5 Pb xs ss pq B9)(hp:p<ss.length){H0:Nat->Prop}{ov:Prop}{b:bm}{a:Act}{k:List Item}{cs:List bm}{ops:Array Oper}{i:Nat}{rest:List Nat}(K: ∀γ w V sv,JS φ (cfg bd old).sig wp b1 C Pb fv p xs ss[p] H0 ov xs.length γ w V sv sv->φ.WT γ (G (b.at (a.put ((ops[i]?).bind (·.dst)) (.tuple #[])) (.inRegion ops rest::k)) cs) w): ∀(m j:Nat) (γ:Gh) (w:ah) (V:Nat->Prop) (sv x4 x5 x6 KC Ir It rK qY qZ oI oJ oK oL oM oO oP oQ oS oT oU oH oV AF:aq),j+m=xs.length->JS φ (cfg bd old).sig wp b1 C Pb fv p xs ss[p] H0 ov j γ w V sv sv->φ.WT γ (G ((base 92).at ⟨#[.int .i64 p,.pointer (ae ⟨B4,0,ai⟩),.pointer (ae ⟨B7,0,ai⟩),.pointer (ae ⟨B5,0,ai⟩),x4,x5,x6,pq,.int .i64 xs.length,.int .i64 j,KC,Ir,It,rK,qY,qZ,oI,oJ,oK,oL,oM,oO,oP,oQ,oS,oT,oU,oH,oV,AF],[]⟩ [.code wi,.inLoop wi,.inBlock 0]) (b.at a (.inRegion ops (i::rest)::k)::cs)) w:=by
 have Xe:φ.P.funcs[92]? =ae Tryz.f92:=by rw[hP];exact Tryz.func92
 have hlen:=hR.len;have ry:φ.jl p ⟨Pb,p,ai⟩:=(afP _).2 rfl;intro m
 induction m with
 |zero=>
  intro j γ w V sv x4 x5 x6 KC Ir It rK qY qZ oI oJ oK oL oM oO oP oQ oS oT oU oH oV AF hj h;obtain rfl:j=xs.length:=by omega
  simp only[wi,Tryz.f92];refine l6 O ?_;refine ib O ?_;simp only[au,aj,ax,Nat.reduceAdd,aC,aG,aB];refine lH O (.bool aw) rfl rfl (by simp[base]) (λw _=>by go_simp) (λw _=>by simp[go_sem, *]) ?_;walk_nrm;refine mO O ?_;refine l6 O ?_;refine Et O rfl ?_;refine R7 O rfl ?_;refine Ke O ?_;refine .leave0 O rfl rfl Xe rfl ?_;exact K _ _ _ _ h
 |succ m ih=>
  intro j γ w V sv x4 x5 x6 KC Ir It rK qY qZ oI oJ oK oL oM oO oP oQ oS oT oU oH oV AF hj h;have Xh:j<xs.length:=by omega
  have hjI:(j:Int)<xs.length:=by omega
  obtain⟨A,c,hrv,XA⟩:=hR.rows;obtain⟨g,rfl,hgR,fY⟩:=XA j Xh;clear XA;subst hrv;simp only[wi,Tryz.f92];refine l6 O ?_;refine ib O ?_;simp only[au,aj,ax,Nat.reduceAdd,aC,aG,aB];refine lH O (.bool aA) rfl rfl (by simp[base]) (λw _=>by go_simp) (λw _=>by simp[go_sem, *]) ?_;walk_nrm;refine mO O ?_;refine l6 O ?_;refine NB O rfl ?_;refine Kg O ?_;refine l6 O ?_;refine zr O ?_;refine l6 O ?_;refine ib O ?_;simp only[au,aj,ax,Nat.reduceAdd,aC,aG,aB];refine lH O (.pointer (ae ⟨g,j *11,ai⟩)) rfl rfl (by simp[base]) (λw _=>by rw[hP];go_simp) (λw _=>by rw[hP];simp[go_sem, *]) ?_;walk_nrm;have Xy: ∀aD,φ.eP γ w aD->row? aD g (j *11) 11=ae (ints xs[j].list):=λaD dh=>(wC ((dh.rd g hgR).trans (h.mb.rd g hgR)) _ _).trans fY
  refine .pure O (.agg (ints xs[j].list)) rfl rfl (by simp[base]) (λaD dh=>by have hr:=Xy aD dh;rw[hP];go_simp) (λaD dh e he=>by rw[hP]at he;obtain⟨ad,rfl,tP⟩:=qk (P:=Tryz.prog) (t:=50) (g:=g) (o:=j *11) (n:=11) Tryz.underlying50 (by kernel_rfl) (xW (Xy aD dh)) e (by simpa[execOp,bV]using he);exact .inr ⟨rfl,ad.block,rfl,.inr (.inr ⟨rfl,tP▸hgR⟩)⟩) ?_
  clear Xy;walk_nrm;refine Qd (c:=cU bd old []) (V:=V) (by rw[hP];exact Cb bd old []) (λr hr=>(h.mb.vo r hr).1) (λr hr=>(h.mb.cb r hr).1) (λr hr=>by have:=bE r (.inr (.inl hr));have:=h.mb.size;omega) h.mb.vh rfl rfl (by simp[base]) rfl (IY (U:=[]) rfl (by simp) (by simp)) (λaD v w'=>v=.pointer (ae ⟨aD.heap.size,0,ai⟩)/\w'=aD.alloc (.cells (ints [0,0,0,0,0,0,0,0,0,0,0]) 50)) (λaD dh=>⟨_,_,by rw[hP];go_simp;rfl,rfl,rfl⟩) ?_
  rintro aD v w' V' dh ⟨rfl,rfl⟩ k1 k2 k3 k6 k4 k5;have dQ: ∀r,sv.ownBlock=ae r->r<aD.heap.size:=Jw (h.rely O ry dh).own;have hB:=dq.new aD 50 (ints [0,0,0,0,0,0,0,0,0,0,0])
  replace h:=(h.rely O ry dh).val O ry bE k1 k2 k3 k4 k5 (λr hr=>Below.heap_alloc aD _ r (dQ r hr))
  have OB:V' aD.heap.size:=by
   cases k6 with
   |pointer ha=>exact ha.block.2
  clear k1 k2 k3 k4 k5 k6 dh;generalize aD.alloc (.cells (ints [0,0,0,0,0,0,0,0,0,0,0]) 50)=w2 at *;generalize aD.heap.size=rb at *;generalize γ.grow aD w2=γ2 at *;clear aD w V;walk_nrm;have I':(xs[j]).list.length=11:=by have:=(hR.okB xs[j] (aU Xh)).2;simp[cz.list,aQ.list,this]
  have Tb: ∀r,φ.CB r->r<w2.heap.size:=λr hr=>by have:=bE r (.inr (.inl hr));have:=h.mb.size;omega
  refine ab' (c:=cU bd old [6,12]) (V:=V') (by rw[hP];exact Cb bd old [6,12]) (λr hr=>(h.mb.vo r hr).1) (λr hr=>(h.mb.cb r hr).1) Tb h.mb.vh rfl rfl (by simp[base]) rfl (IY (U:=[6,12]) rfl (by simp) (λt ht=>by
   simp only[cy,jo,or_false]at ht;rcases ht with rfl|rfl
   ·exact .pointer ⟨⟨rfl,OB⟩,rfl,rfl⟩
   ·exact Az _))
   (λaD=>putRow aD rb 0 (xs[j]).list) (λaD dh=>by have hf:fits aD rb 0 11=aA:=Wc ((dh.own rb (h.mb.vo rb OB).1).trans hB) 11 (by simp[ints]);rw[hP];go_simp) ?_
  intro aD V2 dh k1 k2 k3 k4 k5;have vX:dq aD rb 50 (ints [0,0,0,0,0,0,0,0,0,0,0]):=(dh.own rb (h.mb.vo rb OB).1).trans hB;have SS:dq (putRow aD rb 0 (xs[j]).list) rb 50 (ints (xs[j]).list):=vX.fc _ I'
  replace h:=(h.rely O ry dh).val O ry bE k1 k2 k3 k4 k5 (λr hr=>fH aD rb 0 _ r (λe=>by have:=dQ r hr;omega))
  replace OB:=k1 rb OB
  clear k1 k2 k3 k4 k5 hB vX dh Tb;generalize putRow aD rb 0 (xs[j]).list=w3 at *;generalize γ2.grow aD w3=γ3 at *;clear aD w2 V' γ2;walk_nrm;refine mO O ?_;refine O1 O hP bE afP hR hp Xh ?_ γ3 w3 V2 _ _ _ _ _ _ _ _ _ _ _ _ _ _ _ _ h OB SS dQ;clear dQ SS OB h;intro γ w V rK qY qZ oI oJ oK oL oM oO oP oQ oS oT oU oH oV sv' h;refine Eu O ?_;refine ib O ?_;simp only[au,aj,ax,Nat.reduceAdd,aC,aG,aB];have BL:IntKind.i64.wrap ((j:Int)+1)=(j:Int)+1:=IntWalk.i64_in _ (by omega);refine lH O (.int .i64 ((j+1:Nat):Int)) rfl rfl (by simp[base]) (λw _=>by rw[hP];go_simp) (λw _=>by rw[hP];simp[go_sem, *]) ?_;walk_nrm;refine lH O (.int .i64 ((j+1:Nat):Int)) rfl rfl (by simp[base]) (λw _=>by rw[hP];go_simp) (λw _=>by rw[hP];simp[go_sem, *]) ?_;walk_nrm;refine mO O ?_;refine Iq O ?_;exact ih (j+1) γ w V sv' _ _ _ _ _ _ _ _ _ _ _ _ _ _ _ _ _ _ _ _ _ _ _ (by omega) h
end
end
section
open Rel
open Go.Conc Go.ConcN
open Go.ConcR (Payload WgAt)
open Go.RowKit
section
variable {φ:Ph} {wp:ah} {bd:bQ->List Tmp} {old:Nat} {B4 B7 B5 Pb:Nat} {xs:List cz} {ss:List Sys} {pq B9:aq}
theorem adY (O:φ.Ok)(hP:φ.P=Tryz.prog)(hnj:φ.nj=ss.length)(Xi: ∀p,φ.jv p=.int .i64 p)(ry:φ.jl=(sn (cfg bd old).sig Pb xs ss).jl)(hJ0:φ.J0=(sn (cfg bd old).sig Pb xs ss).J0)(hJP:φ.JP=(sn (cfg bd old).sig Pb xs ss).JP)(hg:Tryz.prog.globals.size<=wp.heap.size)(bE: ∀r,φ.od r\/φ.CB r\/r=φ.Wg->r<wp.heap.size)(hR:BRd φ wp B4 B7 B5 Pb xs ss pq B9):CI φ wp 92 #[.pointer (ae ⟨B4,0,ai⟩),.pointer (ae ⟨B7,0,ai⟩),.pointer (ae ⟨B5,0,ai⟩)]:=by
 intro b1 C fv γ w p h hp hnp QW;have Xe:φ.P.funcs[92]? =ae Tryz.f92:=by rw[hP];exact Tryz.func92
 refine⟨_,_,Xe,rfl,rfl,?_⟩;intro b a k cs ops i rest hb K;have LR:p<ss.length:=hnj▸hp;have ji:w.cell? ⟨Pb,p,ai⟩=ae (.slice ai 0 0):=by rw[hJ0]at QW;exact QW
 have Xh: ∀ad,φ.jl p ad↔ad=⟨Pb,p,ai⟩:=λad=>by rw[ry];exact Iff.rfl
 have hm:=MB.start (p:=p) (S:=(cfg bd old).sig) (λ_=>rfl) (by rw[hP];exact hg) h hnp O;have U5:JS φ (cfg bd old).sig wp b1 C Pb fv p xs ss[p] (λq=>γ.held q\/q=p) γ.over 0 (γ.hold p) w (λ_=>False) (.slice ai 0 0) (.slice ai 0 0):=⟨hm,λq=>Iff.rfl,rfl,ji,.j6 _ _,by simp,.inl ⟨rfl,rfl⟩⟩
 have yf:Tryz.f92.ntmps=30:=rfl;simp only[yf,Xi,ec,dJ,cL,au,aj,ax,Nat.reduceAdd,Nat.reduceSub,dR,dS,eX];have hc4: ∀aD,φ.eP (γ.hold p) w aD->aD.cell? ⟨B4,0,ai⟩=ae pq:=λaD dh=>(c9 ((dh.rd B4 hR.r4).trans (hm.rd B4 hR.r4))).trans hR.c4
 obtain⟨A,c,hrv,XA⟩:=id hR.rows;refine l6 O ?_;refine ib O ?_;simp only[au,aj,ax,Nat.reduceAdd,aC,aG,aB];refine rJ O pq (ad:=⟨B4,0,ai⟩) rfl rfl (by simp[base]) (.inr hR.r4) (λaD dh=>by have hc:=hc4 aD dh;rw[hP];go_simp) (λaD dh e he=>by have hc:=hc4 aD dh;rw[hP]at he;simp[go_sem, *]at he;exact he) ?_;walk_nrm;refine lH O (.int .i64 xs.length) rfl rfl (by simp[base]) (λw _=>by subst hrv;rw[hP];go_simp) (λw _=>by subst hrv;rw[hP];simp[go_sem, *]) ?_;walk_nrm;refine lH O (.int .i64 (0:Nat)) rfl rfl (by simp[base]) (λw _=>by rw[hP];go_simp) (λw _=>by rw[hP];simp[go_sem, *]) ?_;walk_nrm;refine mO O ?_;refine zr O ?_;refine R8 O ?_;refine XM (xs:=xs) (ss:=ss) O hP bE Xh hR LR ?_ xs.length 0 (γ.hold p) w _ _ _ _ _ _ _ _ _ _ _ _ _ _ _ _ _ _ _ _ _ _ _ _ _ (by omega) U5;intro γ' w' V sv h';refine K γ' w' (h'.mb.finish O ?_) h'.held h'.over;rw[hJP];refine⟨sv,h'.cell,V,λr hr=>⟨(h'.mb.vo r hr).1,(h'.mb.vo r hr).2.2⟩,λr hr=> ?_,h'.rel,?_⟩
 ·obtain⟨o,o',e1,e2,e3⟩:=h'.mb.vh.obj r r ⟨rfl,hr⟩;rw[e1]at e2;cases e2;exact⟨o,e1,e3⟩
 ·have:=h'.own;rw[cI (az _)]at this;simpa[LR,List.flatMap_map]using this
end
end
section
open Go.RowKit
def mG (z:ZS)(k:Nat):ZS:=⟨z.ls,z.f,z.B.take k⟩
theorem RQ {m m':jS}(hn:(bG m).Nodup)(hs:m'.Sublist m){c p:Hd}(h:eG m' c=ae p):eG m c=ae p:=ko hn (hs.mem (vp h))
theorem zN {z:ZS}(h:j9 z)(k:Nat):j9 (mG z k):=by have hs:(z.B.take k).Sublist z.B:=List.take_sublist k z.B;have hn:(bG (z.B.take k)).Nodup:=h.rS.nodup.sublist (hs.map _);refine⟨h.w,⟨hn,h.rS.uy.sub λc p e=>RQ h.rS.nodup hs e⟩,?_,λb hb=>h.lv b (hs.mem hb)⟩;have hsr:=lQ (λb:Hd×Hd=>b.1) z.B;change List.Pairwise _ (dx z.B)at hsr;rw[h.Ul]at hsr;exact(jr (λb:Hd×Hd=>b.1) (oy (m:=z.B.take k) hn) (pW _) (hsr.sublist hs)).symm
theorem AR {z:ZS}(h:j9 z){k:Nat}(hk:k<z.B.length):eG (z.B.take k) z.B[k].1=ai:=by
 cases e:eG (z.B.take k) z.B[k].1 with
 |none=>rfl
 |some q=>exfalso;have h1:=h.rS.nodup;rw[<-nQ k z.B]at h1;unfold bG at h1;rw[dX,List.nodup_append]at h1;refine h1.2.2 z.B[k].1 (aN.2 ⟨_,vp e,rfl⟩) z.B[k].1 (aN.2 ⟨z.B[k],?_,rfl⟩) rfl;rw[List.drop_eq_getElem_cons hk];exact List.mem_cons_self
theorem IK {z:ZS}(h:j9 z){k:Nat}(hk:k<z.B.length):dx (fx (z.B.take k) z.B[k].1 z.B[k].2).1=z.B.take (k+1)/\(fx (z.B.take k) z.B[k].1 z.B[k].2).2=0:=by
 have hg:eG z.B z.B[k].1=ae z.B[k].2:=ko h.rS.nodup (aU hk);have hs:(z.B.take k).Sublist z.B:=List.take_sublist k z.B;have wM: ¬(z.B[k].1=z.B[k].2\/Up (z.B.take k) z.B[k].2 z.B[k].1):=by
  rintro(e|e)
  ·exact Up.irrefl h.rS.uy (a:=z.B[k].1) (.one (by rw[<-e]at hg;exact hg))
  ·exact Up.irrefl h.rS.uy (.more hg (e.mono λc p e=>RQ h.rS.nodup hs e))
 have ahO:=AR h hk;unfold fx;rw[if_neg wM];refine⟨?_,rfl⟩;have ok:=zN h k;have ok1:=zN h (k+1);have e2:dx (z.B.take (k+1))=z.B.take (k+1):=ok1.Ul;rw[<-e2];have h5:=ok.rS.sk z.B[k].1 z.B[k].2;change jK (fx (z.B.take k) _ _).1 at h5;unfold fx at h5;rw[if_neg wM]at h5;refine oz h5.nodup ok1.rS.nodup λx=> ?_
 have e3:iP (z.B.take k) z.B[k].1 z.B[k].2=z.B.take (k+1):=by rw[aR hk];unfold iP;rw[if_neg];intro ha;obtain⟨q,hq,e⟩:=kB.1 ha;have:=ko ok.rS.nodup (m:=z.B.take k) (x:=q.1) (v:=q.2) hq;rw[of_decide_eq_true e,ahO]at this;cases this
 rw[e3]
theorem M8 {w:ah}{g o n:Nat}{x:Array aq}(t:aF)(zs xs:List Int)(h:row? w g o n=ae x):row? (putRow (w.alloc (.cells (ints zs) t)) w.heap.size 0 xs) g o n=ae x:=wB (eZ w t zs xs) h
section
variable {G:Nat->Prop} {w0 w:ah} {l:List bT} {p:Nat} {z:ZS} {gv rv bv:aq}
theorem RE {w:ah}{v:aq}{hs:List (Hd×Hd)}(h:w.ownsRow 0 45 4 v hs.length (hs.flatMap bC)): ∃A c,v=.slice A hs.length c/\hs.length<=c/\c<=maxLen/\ ∀k,(hk:k<hs.length)-> ∃g,A=ae ⟨g,0,ai⟩/\row? w g (k *4) 4=ae (ints [hs[k].1.1,hs[k].1.2,hs[k].2.1,hs[k].2.2]):=by obtain⟨A,c,rfl,wK,vZ,hA⟩:=cH h;refine⟨A,c,rfl,wK,vZ,λk hk=> ?_⟩;obtain⟨g,rfl⟩:=hA (by omega);have hr:=lg h hk;rw[lO (λx=>(rfl:(bC x).length=4)) hs k hk]at hr;exact⟨g,rfl,hr⟩
theorem Zo (h:In G w0 (da gv (cX z.ls)::cE rv z.rows::kG bv z.B::l) w)(hk:j9 z):Calls Tryz.prog 107 #[.agg #[gv,rv,bv]] w λe w'=> ∃p,e=.returned (.tuple #[ptr p,.int .i64 0])/\In G w0 (cj p z::da gv (cX z.ls)::cE rv z.rows::kG bv z.B::l) w':=by
 have H0:=af h;have HK:=af hk;obtain⟨Ab,cb,rfl,aim,ain,_⟩:=RE h.third.rowAt;clear h hk
 go_enter Tryz.func107,Tryz.ntmps107
 go_upto_region 1 with(fail)
 refine cc (In G w0 (bg w.heap.size 36 #[gv,rv,.slice Ab z.B.length cb]::da gv (cX z.ls)::cE rv z.rows::kG (.slice Ab z.B.length cb) z.B::l)) (H0.out.alloc 36 #[gv,rv,.slice Ab z.B.length cb]) ?_;generalize w.heap.size=sb;intro w1 jU;have c0:w1.cell? ⟨sb,0,ai⟩=ae gv:=jU.blk.cell 0;have c1:w1.cell? ⟨sb,1,ai⟩=ae rv:=jU.blk.cell 1;have pY:Hid (In G w0 (da gv (cX z.ls)::cE rv z.rows::kG (.slice Ab z.B.length cb) z.B::bg sb 36 #[gv,rv,.slice Ab z.B.length cb]::l) w1):=jU.to4;clear jU H0
 go_wp2_with fail
 refine(Zg pY.out HK.out.w).mono ?_;rintro e w2 ⟨wp,rfl,gX⟩;have gd:=af gX;clear gX pY c0 c1
 go_wp2_with fail
 refine(QG gd.out).mono ?_;rintro e w3 ⟨fp,rfl,fF⟩
 go_upto_region 5 with(fail)
 refine cc (In G w0 (cj w3.heap.size (mG z 0)::da gv (cX z.ls)::cE rv z.rows::kG (.slice Ab z.B.length cb) z.B::bg sb 36 #[gv,rv,.slice Ab z.B.length cb]::l)) (In.mC (z:=mG z 0) (m:=[]) Gi ((fF.alloc 83 #[ptr wp,ptr fp]).perm ((cB _ _ _).cons _))) ?_;generalize w3.heap.size=p;clear fF gd;intro w4 fX;have c2:w4.cell? ⟨sb,2,ai⟩=ae (.slice Ab z.B.length cb):=(fX.nth 4 (by simp)).blk.cell 2;have iY:=af fX;clear fX
 go_wp2_with fail
 go_loopw [31] (λi w'=> ∃k:Nat,k<=z.B.length/\i=.int .i64 k/\In G w0 (cj p (mG z k)::da gv (cX z.ls)::cE rv z.rows::kG (.slice Ab z.B.length cb) z.B::bg sb 36 #[gv,rv,.slice Ab z.B.length cb]::l) w') (λi _=>z.B.length-(intOf i).toNat)
 case atStart=>exact⟨0,bS _,rfl,iY.out⟩
 case round=>
  clear iY c2;obtain⟨k,hk,rfl,hI⟩:=hrel;by_cases bE:k<z.B.length
  ·have xH:(k:Int)<z.B.length:=by omega
   obtain⟨A',c',e0,_,Xk,fY⟩:=RE hI.fourth.rowAt;injection e0 with e1 e2 e3
   subst e1;subst e3;obtain⟨g,rfl,q1⟩:=fY k bE;have Iy:=af (HK.out.lv z.B[k] (aU bE));have HNO:=af (AR HK.out bE);have KG:=af (IK HK.out bE);have adF:(z.B.length:Int)<=cb:=by omega
   have Se:=af (zN HK.out k);have HI:=af hI;clear fY e2 hI;generalize z.B[k]=b at *;obtain⟨⟨x1,x2⟩,⟨y1,y2⟩⟩:=b
   go_upto_region 8 with(fail)
   refine cc (In G w0 (cj p (mG z k)::bg wr.heap.size 45 (ints [x1,x2,y1,y2])::da gv (cX z.ls)::cE rv z.rows::kG (.slice (ae ⟨g,0,ai⟩) z.B.length cb) z.B::bg sb 36 #[gv,rv,.slice (ae ⟨g,0,ai⟩) z.B.length cb]::l)) (HI.out.struct 45 [0,0,0,0] [x1,x2,y1,y2] rfl).swap ?_;generalize wr.heap.size=bb;generalize hL:da gv (cX z.ls)::cE rv z.rows::kG (.slice (ae ⟨g,0,ai⟩) z.B.length cb) z.B::bg sb 36 #[gv,rv,.slice (ae ⟨g,0,ai⟩) z.B.length cb]::l=L at *;intro w5 eH;have q2:row? w5 bb 0 2=ae (ints [x1,x2]):=eH.swap.blk.eb 0 2 (by simp);have q3:row? w5 bb 2 2=ae (ints [y1,y2]):=eH.swap.blk.eb 2 2 (by simp);have lV:=af eH;have hbs: ∀W,(fh 122 2 #[(0,.agg (ints [x1,x2])),(1,.agg (ints [y1,y2]))]).run Tryz.prog W=.ok (.slice (ae ⟨W.heap.size,0,ai⟩) 2 2) (W.alloc (.cells (ints [x1,x2,y1,y2]) 43)):=λW=>by kernel_rfl
   have HB:Hid (In G w0 (cj p (mG z k)::jF (.slice (ae ⟨w5.heap.size,0,ai⟩) 2 2) [(x1,x2),(y1,y2)]::bg bb 45 (ints [x1,x2,y1,y2])::L) (w5.alloc (.cells (ints [x1,x2,y1,y2]) 43))):=(lV.out.Ds 43 2 2 [.int .i64 x1,.int .i64 x2,.int .i64 y1,.int .i64 y2] rfl (by decide)).swap;clear eH q1 HI
   go_wp2_with fail
   refine(Ex HB.out (by simp)).mono ?_;rintro e w6 ⟨rfl,iC⟩;have nc:oD (mG z k) [(x1,x2),(y1,y2)]=aA:=by have h1:=Iy.out;unfold oD;simp only[List.all_cons,List.all_nil,Bool.and_true];exact Bool.and_eq_true_iff.2 h1
   rw[if_pos nc];have iC:=iC.swap.drop;obtain⟨wp,fp,m,hm,hf,ha,qW⟩:=iC.jO;have q2:row? w6 bb 0 2=ae (ints [x1,x2]):=iC.swap.blk.eb 0 2 (by simp);have q3:row? w6 bb 2 2=ae (ints [y1,y2]):=iC.swap.blk.eb 2 2 (by simp);have c1:w6.cell? ⟨p,1,ai⟩=ae (ptr fp):=qW.blk.cell 1;obtain⟨fb,af3⟩:=(In.third qW).aej;have ae1:Hid (∀W,Below w6.heap.size w6 W->Calls Tryz.prog 168 #[ptr fp,nw (x1,x2)] W λe w'=>e=.returned (.tuple #[.agg (ints [0,0]),.bool aw])/\Below W.heap.size W w'):=λW hW=>by
    have h1:=Lu (x1,x2) W (af3.after hW);have h2:jP m (x1,x2)=((0,0),aw):=by
     have h3:eG (mG z k).B (x1,x2)=ai:=HNO.out;unfold jP;rw[ha,h3]
     rfl
    rw[h2]at h1;exact h1
   have kh:=af iC;clear iC qW HB lV nc af3;have HD:Hid (Below w6.heap.size w6 w6.drew):=(Below.refl _ _).drew;have HDA:Hid (∀ob,Below w6.heap.size w6 (w6.alloc ob).drew):=λob=>((Below.refl _ _).alloc (az _) ob).drew
   have HBN:Hid (p<w6.heap.size/\bb<w6.heap.size):=by obtain⟨wp,fp,m,_,_,_,qW⟩:=kh.out.jO;exact⟨qW.blk.lt,kh.out.swap.blk.lt⟩
   have HIA:Hid (∀xx,Below (w6.alloc (.cells #[.int .i64 0,.int .i64 0] 43)).drew.heap.size (w6.alloc (.cells #[.int .i64 0,.int .i64 0] 43)).drew xx->In G w0 (bg w6.heap.size 43 (ints [0,0])::cj p (mG z k)::bg bb 45 (ints [x1,x2,y1,y2])::L) xx):=λxx hb=>(kh.out.alloc 43 (ints [0,0])).drew.below hb
   clear q3 ha hm hf
   go_upto_region 11 with(fail)
   go_region_held3 (λW=>W.cell? ⟨p,1,ai⟩=ae (ptr fp)/\row? W bb 0 2=ae (ints [x1,x2]))
    (refine⟨?_,?_⟩<;>(first|assumption|(refine nu _ ?_;assumption)|(refine Hv _ ?_;assumption)|(refine IM _ [0,0] _ ?_;assumption)|(refine M8 _ [0,0] _ ?_;assumption)|(refine cell_far (by have:=HBN.out;omega) ?_;assumption)|(refine rG (by have:=HBN.out;omega) ?_;assumption)))
    (first
      |(go_at_call 168;refine(ae1.out _ HD.out).mono ?_;rintro e xx ⟨rfl,yL⟩;have s4:=xC (w:=w6.drew) yL c1;have s5:=wB (w:=w6.drew) yL q2;have kE:=af (kh.out.drew.below yL);clear yL)
      |(go_at_call 168;refine(ae1.out _ (HDA.out _)).mono ?_;rintro e xx ⟨rfl,yL⟩;have s4:=xC yL (nu (w:=w6) _ c1);have s5:=wB yL (Hv (w:=w6) _ q2);have kE:=af (HIA.out _ yL);have f3:=kE.out.blk.fits 0 2 (by rw[bJ];simp);clear yL))
   all_goals
    (first
      |(obtain⟨W9,hW9⟩: ∃W9,putRow (xx.alloc (.cells #[aZ .i64 0,aZ .i64 0] 43)) xx.heap.size 0 [0,0]=W9:=⟨_,rfl⟩;rw[hW9];have l9:In G w0 (cj p (mG z k)::bg bb 45 (ints [x1,x2,y1,y2])::L) W9:=(by rw[<-hW9];exact(kE.out.struct 43 [0,0] [0,0] rfl).drop))
      |(obtain⟨W9,hW9⟩: ∃W9,putRow xx w6.heap.size 0 [0,0]=W9:=⟨_,rfl⟩;rw[hW9];have l9:In G w0 (cj p (mG z k)::bg bb 45 (ints [x1,x2,y1,y2])::L) W9:=(by rw[<-hW9];exact(kE.out.fc [0,0] rfl).drop)))
    clear kE kh HIA hW9;obtain⟨wp2,fp2,m2,QZ,hf2,Xb,pj⟩:=l9.jO;have k2:row? W9 bb 0 2=ae (ints [x1,x2]):=l9.swap.blk.eb 0 2 (by simp);have k3:row? W9 bb 2 2=ae (ints [y1,y2]):=l9.swap.blk.eb 2 2 (by simp);have k1:W9.cell? ⟨p,1,ai⟩=ae (ptr fp2):=pj.blk.cell 1;have HA2:=af (Xb.sk (x1,x2) (y1,y2));have VD:Hid (dx (fx m2 (x1,x2) (y1,y2)).1=z.B.take (k+1)/\(fx m2 (x1,x2) (y1,y2)).2=0):=by have h1:=KG.out;exact⟨(oz (hf2.sk _ _).nodup (Se.out.rS.sk _ _).nodup HA2.out.1).trans h1.1,HA2.out.2.trans h1.2⟩
    have pZ:=af (In.third pj);clear l9 pj QZ hf2 Xb
    go_upto_region 14 with(fail)
    go_still_tail 8,(by kernel_rfl)
    change wpList _ _ _ _ _ W9.drew;have uu:=af pZ.out.drew;clear pZ k1 k2 k3;generalize W9.drew=w11 at *
    go_wp2_with fail
    refine(Gr uu.out (x1,x2) (y1,y2)).mono ?_;rintro e w12 ⟨rfl,nX⟩;rw[VD.out.2];have aaM:In G w0 (cj p (mG z (k+1))::bg bb 45 (ints [x1,x2,y1,y2])::L) w12:=In.mC (z:=mG z (k+1)) VD.out.1 nX.third.third;have NZ:=af (aaM.swap.drop);clear nX aaM uu hbs;have aie:=HK.out.len
    go_wp2_with fail
    go_roundw
    case rel=>exact⟨k+1,by omega,by go_num,by rw[hL];exact NZ.out⟩
    case measure=>simp[intOf];omega
  ·have:k=z.B.length:=by omega
   subst this;have HF:Hid (mG z z.B.length=z):=by unfold Hid mG;rw[cD]
   rw[HF.out]at hI;have HI:=af hI;clear hI
   go_wp2_with fail
   go_ret2
   exact⟨p,rfl,(HI.out.reorder 5 [4,0,1,2,3] rfl (by simp)).drop⟩
end
end
section
open Go.RowKit
section
variable {sp:List Hd} {x:Hd} {o:ik}
theorem Tn (h:0<=x.1):gS sp x=ae x/\rW sp x=x:=by unfold gS rW;exact⟨if_pos h,if_neg (by omega)⟩
theorem Tm (h:x.1<0)(h':x.1< -(sp.length:Int)):gS sp x=ai:=by unfold gS;rw[if_neg (by omega),if_pos h']
theorem XZ (h:x.1<0)(h': ¬x.1< -(sp.length:Int)): ∃k:Nat,∃hk:k<sp.length,-x.1-1=(k:Int)/\gS sp x=ae sp[k]/\rW sp x=sp[k]:=by
 refine⟨(-x.1-1).toNat,by omega,by omega,?_,?_⟩
 ·unfold gS;rw[if_neg (by omega),if_neg h',bq,ao (by omega)];rfl
 ·unfold rW;rw[if_pos (by omega),bq,ao (by omega)];rfl
theorem Uf {off:Nat}(h:off=10\/off=12):zl o off (lX o off)=o:=by rcases h with rfl|rfl<;>rfl
theorem Pk (sp:List Hd)(o:ik)(wP:List Nat)(j:Nat)(hj:j<wP.length):jX sp o (wP.take (j+1))=zl (jX sp o (wP.take j)) wP[j] (rW sp (lX (jX sp o (wP.take j)) wP[j])):=by rw[aR hj,Jk];rfl
end
def Z8 (z:ZS)(os:List ik)(n e:Int)(R:ZS->Prop):Prop:=(∃z' sp,os.length<=80/\pM (z,[]) os=ae (z',sp)/\n=os.length/\e=0/\R z')\/(e≠0/\0<=n/\n<=os.length/\(os.length<=80->pM (z,[]) os=ai)/\R z)
section
variable {G:Nat->Prop} {w0 w:ah} {l:List bT} {p:Nat} {z:ZS} {B:Nat} {A:Option Addr} {c:Nat} {os:List ik}
theorem Rw {w:ah}{v:aq}{ob:Nat}{wP:List Nat}{E:aF}(h:w.ownsRow 0 E 1 v wP.length (wP.map λo=>Value.pointer (ae ⟨ob,o,ai⟩))): ∃A c,v=.slice A wP.length c/\wP.length<=c/\c<=maxLen/\ ∀k,(hk:k<wP.length)-> ∃g,A=ae ⟨g,0,ai⟩/\w.cell? ⟨g,k,ai⟩=ae (.pointer (ae ⟨ob,wP[k],ai⟩)):=by
 obtain⟨A,c,rfl,wK,vZ,hA⟩:=cH h;refine⟨A,c,rfl,wK,vZ,λk hk=> ?_⟩;obtain⟨g,rfl⟩:=hA (by omega);have hr:=lg h hk;refine⟨g,rfl,?_⟩;rw[Nat.mul_one]at hr;unfold row? at hr
 split at hr
 ·rename_i cs t fr hg
  split at hr
  ·rename_i hn
   injection hr with hr
   rw[cell_of_row w g k cs t fr hg];have h1:=congrArg (λa:Array aq=>a[0]?) hr;simp only[Array.getElem?_extract]at h1;rw[if_pos (by omega)]at h1;rw[kW]at h1;rw[h1];simp[hk]
  ·cases hr
 ·cases hr
theorem aca (hO:aiN G w0 B A os)(hlen:os.length<=1099511627776)(h8: ∀o∈os,o.b.v.length=8)(hk:j9 z)(h:In G w0 (cj p z::l) w):Calls Tryz.prog 49 #[ptr p,.slice A os.length c] w λe w'=> ∃n e':Int,e=.returned (.tuple #[.int .i64 n,.int .i64 e'])/\Z8 z os n e' λz'=>In G w0 (cj p z'::l) w':=by
 have H0:=af h;have HK:=af hk;have HO:Hid (aiN G w0 B A os):=hO;have H8:=af h8;obtain⟨i0,qX,uH,vi,uC⟩:=info_parts mg;clear h hk hO h8
 go_enter Tryz.func49,Tryz.ntmps49
 by_cases hL:80<os.length
 ·have hL':(80:Int)<os.length:=by omega
  go_wp2_with fail
  go_ret2
  exact⟨0,2,rfl,bR ⟨by decide,by decide,by omega,λh=>by omega,H0.out⟩⟩
 have hL': ¬(80:Int)<os.length:=by omega
 go_wp2_with fail
 refine(Iv H0.out HK.out).mono ?_;rintro e w1 ⟨gv,rv,bv,rfl,jU⟩;have pY:=af jU;clear jU H0
 go_wp2_with fail
 refine(Zo pY.out HK.out).mono ?_;rintro e w2 ⟨np,rfl,gX⟩;have gd:=af (gX.swap.drop.swap.drop.swap.drop);clear gX pY
 go_wp2_with fail
 go_loopw [26,8] (λi sv w'=> ∃(k:Nat) (zk:ZS) (sp:List Hd),k<=os.length/\i=.int .i64 k/\pM (z,[]) (os.take k)=ae (zk,sp)/\sp.length<=k/\In G w0 (cj np zk::jF sv sp::cj p z::l) w') (λi _ _=>os.length-(intOf i).toNat)
 case atStart=>exact⟨0,z,[],bS _,rfl,rfl,bS _,(gd.out.tW 43 2).swap⟩
 case round=>
  clear gd;obtain⟨k,zk,sp,hk,rfl,cG,aiC,hI⟩:=hrel;obtain⟨As,cs,rfl,aiq,air,_⟩:=rF hI.swap.rowAt;by_cases bE:k<os.length
  ·have xH:(k:Int)<os.length:=by omega
   obtain⟨b,o,rfl,zD,q1⟩:=(HO.out hI.bare).at_ bE;have HV8:Hid (os[k].b.v.length=8):=H8.out _ (aU bE);have WZ:(ik.list os[k]).length=16:=ik.len HV8.out;have Se:Hid (j9 zk):=RH (s:=(z,[])) HK.out (λo ho=>H8.out o (oY ho)) cG;have VN:Hid (Lg (zk,sp) os[k]≠0->pM (z,[]) os=ai):=T2 bE cG;have Qo:Hid (pM (z,[]) (os.take (k+1))=vG (zk,sp) os[k]):=Hy bE cG;have ah':sp.length<=80:=by omega
   have HI:=af hI;clear hI cG;generalize os[k]=op at *
   go_upto_region 8 with(fail)
   refine cc (In G w0 (bg wr.heap.size 74 (ints op.list)::cj np zk::jF (.slice As sp.length cs) sp::cj p z::l)) (HI.out.struct 74 [0,0,0,0,0,0,0,0,0,0,0,0,0,0,0,0] op.list WZ) ?_;generalize wr.heap.size=ob;intro w3 fF;have gm:=af fF;clear fF q1 HI
   go_wp2_with fail
   refine(XY gm.out).mono ?_;rintro e w4 ⟨lv,rfl,fX⟩;obtain⟨Ap,cp,rfl,aio,aip,_⟩:=Rw fX.rowAt;have hol:=Yb op.d;have iY:=af fX.swap;clear fX gm
   go_wp2_with fail
   go_loopw [33] (λi w'=> ∃j:Nat,j<=(dg op.d).length/\i=.int .i64 j/\(∀t,t<j->(ht:t<(dg op.d).length)->gS sp (lX op (dg op.d)[t])≠ai)/\In G w0 (bg ob 74 (ints (jX sp op ((dg op.d).take j)).list)::KJ (.slice Ap (dg op.d).length cp) ob (dg op.d)::cj np zk::jF (.slice As sp.length cs) sp::cj p z::l) w') (λi _=>(dg op.d).length-(intOf i).toNat)
   case atStart=>exact⟨0,bS _,rfl,λt ht=>by omega,iY.out⟩
   case round=>
    clear iY;obtain⟨j,hj,rfl,hms,hI⟩:=hrel;by_cases U6:j<(dg op.d).length
    ·have OG:(j:Int)<(dg op.d).length:=by omega
     obtain⟨A',c',e0,_,hjc,fY⟩:=Rw hI.swap.rowAt;injection e0 with e1 e2 e3
     subst e1;subst e3;obtain⟨g,rfl,q1⟩:=fY j U6;have OL:=Yc (aU U6);have VG:Hid (lX (jX sp op ((dg op.d).take j)) (dg op.d)[j]=lX op (dg op.d)[j]):=SV sp op j U6;have acY:Hid (jX sp op ((dg op.d).take (j+1))=zl (jX sp op ((dg op.d).take j)) (dg op.d)[j] (rW sp (lX (jX sp op ((dg op.d).take j)) (dg op.d)[j]))):=Pk sp op _ j U6;have acj:Hid (gS sp (lX op (dg op.d)[j])=ai->mL sp op=ai):=Pc U6;have VH:Hid (gS sp (lX op (dg op.d)[j])≠ai-> ∀t,t<j+1->(ht:t<(dg op.d).length)->gS sp (lX op (dg op.d)[t])≠ai):=λh t ht hh=>by
      by_cases e:t=j
      ·subst e;exact h
      ·exact hms t (by omega) hh
     have Tc:(jX sp op ((dg op.d).take j)).b.v.length=8:=by rw[(Rh _ _ _).1];exact HV8.out
     have adJ:=ik.len Tc;have q2:row? wr ob (dg op.d)[j] 2=ae (ints [(lX (jX sp op ((dg op.d).take j)) (dg op.d)[j]).1,(lX (jX sp op ((dg op.d).take j)) (dg op.d)[j]).2]):=by rw[hI.blk.eb _ 2 (by rw[adJ];rcases OL with h|h<;>rw[h]<;>omega),abi Tc OL]
     have CH:Hid (∀x:Hd,(jX sp op ((dg op.d).take j)).list.take (dg op.d)[j]++[x.1,x.2]++(jX sp op ((dg op.d).take j)).list.drop ((dg op.d)[j]+2)=(zl (jX sp op ((dg op.d).take j)) (dg op.d)[j] x).list):=λx=>ad9 Tc OL x
     have ack:Hid (∀o:ik,zl o (dg op.d)[j] (lX o (dg op.d)[j])=o):=λo=>Uf OL
     have qf:fits wr ob (dg op.d)[j] 2=aA:=hI.blk.fits _ 2 (by rw[bJ,adJ];rcases OL with h|h<;>rw[h]<;>omega);rw[VG.out]at q2 acY;have HI:=af hI;have VM:=af (ack.out (jX sp op ((dg op.d).take j)));rw[VG.out]at VM;clear hI fY e2 VG hms Tc adJ ack;generalize ah9:(dg op.d)[j]=off at *;generalize hx:lX op off=x at *;obtain⟨s,g2⟩:=x;have q3:=su q2;by_cases hs:0<=s
     ·have hmp:gS sp (s,g2)=ae (s,g2)/\rW sp (s,g2)=(s,g2):=Tn hs;have Fo:=af hmp;have GN:(0:Int)<=s:=hs;clear hmp
      go_wp2_with fail
      go_roundw
      case rel=>exact⟨j+1,by omega,by go_num,VH.out (by rw[Fo.out.1];simp),by rw[acY.out,Fo.out.2,VM.out];exact HI.out⟩
      case measure=>simp[intOf];omega
     ·have GN: ¬(0:Int)<=s:=hs;have hs0:s<0:=by omega
      have hwl:wrap64 (-(sp.length:Int))= -(sp.length:Int):=IntWalk.wrap64_in _ (by omega);by_cases hf:s< -(sp.length:Int)
      ·have HNL:Hid (mL sp op=ai):=acj.out (Tm hs0 hf);clear q2 qf
       go_wp2_with fail
       go_ret2
       have HN:Hid (pM (z,[]) os=ai):=VN.out (by unfold Lg;rw[HNL.out];exact(by decide:(5:Int)≠0));exact⟨k,5,rfl,bR ⟨by decide,by omega,by omega,λ_=>HN.out,HI.out.drop.drop.drop.drop⟩⟩
      ·obtain⟨i,hi,hsi,ZJ,QZ⟩:=XZ (sp:=sp) (x:=(s,g2)) hs0 hf;have hws:wrap64 (-s)= -s:=IntWalk.wrap64_in _ (by omega);have XF:wrap64 (-s-1)=(i:Int):=by rw[hsi];exact IntWalk.wrap64_in _ (by omega)
       have qX:(0:Int)<=(i:Int):=by omega
       have hi1:(i:Int)<sp.length:=by omega
       obtain⟨As',cs',e0,_,_,fY⟩:=rF (HI.out.nth 3 (by simp)).rowAt;injection e0 with e1 e2 e3
       subst e1;subst e3;obtain⟨gs,rfl,q5⟩:=fY i hi;have uA:(sp.length:Int)<=cs:=by omega
       have HM1:Hid (gS sp (s,g2)≠ai):=af (by rw[ZJ];exact Option.some_ne_none _);have BE:=af QZ;clear ZJ QZ fY e2 OL acj;generalize sp[i]=y at *;obtain⟨y1,y2⟩:=y;have hii:i=(-s).toNat-1:=by omega
       have q6:row? wr gs (((-s).toNat-1) *2) 2=ae (ints [y1,y2]):=by rw[<-hii];exact q5
       clear hii;have lV:=HI.out.put off [y1,y2];rw[show off+ [y1,y2].length=off+2 from rfl,CH.out (y1,y2)]at lV;have lV:=af lV
       go_wp2_with fail
       clear qf q2 q3 q1 q5 q6 CH hs GN hs0 hwl hf hws XF hsi qX hi1
       go_roundw
       case rel=>exact⟨j+1,by omega,by go_num,VH.out HM1.out,by rw[acY.out,BE.out];exact lV.out⟩
       case measure=>simp[intOf];omega
    ·have:j=(dg op.d).length:=by omega
     subst this;rw[cD]at hI;have HLK:Hid (mL sp op=ae (jX sp op (dg op.d))):=Tk λt ht=>hms t ht ht
     have HMB:=af (Rh sp (dg op.d) op);generalize jX sp op (dg op.d)=o2 at *;have iC:=hI.swap.drop;have Tc:o2.b.v.length=8:=by rw[HMB.out.1];exact HV8.out
     have HV2:=af Tc;have q2:row? wr ob 0 16=ae (ints o2.list):=iC.blk.bt (ik.len Tc);have kh:=af iC.swap;clear hI iC hms Tc
     go_wp2_with fail
     refine(Zn kh.out Se.out o2 HV2.out).mono ?_;rintro e w7 ⟨rfl,qW⟩;have VE:Hid (Lg (zk,sp) op=(ti zk o2).2.2):=by unfold Hid Lg;rw[HLK.out];rfl
     have VK:Hid (Lg (zk,sp) op=0->vG (zk,sp) op=ae ((ti zk o2).1,if op.d=1 then sp++[(ti zk op).2.1]else sp)):=λh=>by unfold vG;rw[if_pos h];unfold Mx;rw[HLK.out];rfl
     have kE:=af qW;clear qW kh q2;have BG:Hid (op.d=1->o2=op):=λh=>by
      have h1:=HLK.out;rw[Tl h]at h1;injection h1 with h1
      exact h1.symm
     generalize hr:ti zk o2=r at *;have HR:=af hr;clear hr;obtain⟨z2,⟨h1,h2⟩,E⟩:=r;simp only at VE VK kE⊢
     go_upto_region 17 with(fail)
     refine cc (In G w0 (bg w7.heap.size 43 (ints [h1,h2])::cj np z2::bg ob 74 (ints o2.list)::jF (.slice As sp.length cs) sp::cj p z::l)) (kE.out.struct 43 [0,0] [h1,h2] rfl) ?_;generalize w7.heap.size=hb;intro w8 l9;have q4:row? w8 hb 0 2=ae (ints [h1,h2]):=l9.blk.bt rfl;have q5:w8.cell? ⟨ob,0,ai⟩=ae (.int .i64 o2.d):=l9.third.blk.cell 0;rw[HMB.out.2]at q5;have pO:=af l9;clear l9 kE;by_cases he:E=0
     rotate_left
     ·have I7:(E !=0)=aA:=by simpa using he
      go_wp2_with fail
      go_ret2
      exact⟨k,E,rfl,bR ⟨he,by omega,by omega,λ_=>VN.out (by rw[VE.out];exact he),pO.out.drop.drop.drop.drop⟩⟩
     subst he;have Qp:=af (VK.out VE.out);clear VK VN;generalize aiz:op.d=d at *;by_cases Cj:d=1
     ·have hd:(d==1)=aA:=by simp[Cj]
      have HE1:Hid ((ti zk op).2.1=(h1,h2)):=by have h3:=BG.out Cj;have h4:=HR.out;rw[h3]at h4;unfold Hid;rw[h4]
      have HSP:Hid (pM (z,[]) (os.take (k+1))=ae (z2,sp++[(h1,h2)])):=by unfold Hid;rw[Qo.out,Qp.out,if_pos Cj,HE1.out]
      have pZ:Hid (In G w0 (jF (.slice As sp.length cs) sp::bg hb 43 (ints [h1,h2])::cj np z2::bg ob 74 (ints o2.list)::cj p z::l) w8):=pO.out.fourth;have HO:=af pZ.out.rowAt;clear Cj BG HR Qo Qp pO HMB HLK VE
      go_wp2_with (at_builtin;go_loud (refine eu rfl _ _ 122 rfl 0 43 i0 _ 2 16 Tryz.underlying122 qX uH vi uC rfl (by decide) (.slice As sp.length cs) sp.length (sp.flatMap hC) rfl HO.out [.int .i64 h1,.int .i64 h2] rfl rfl (by simp[jm]) ?_ ?_ (bS _) ?_))
      case refine_1=>unfold maxLen;omega
      case refine_2=>omega
      intro v' w9 ho hg zT;have gD:=In.IE (x:=(h1,h2)) pZ.out ho hg zT;have uu:=af gD;clear ho hg zT gD pZ HO q4 q5
      go_wp2_with fail
      go_roundw
      case rel=>exact⟨k+1,z2,sp++[(h1,h2)],by omega,by go_num,HSP.out,by simp;omega,uu.out.swap.drop.third.drop.swap⟩
      case measure=>simp[intOf];omega
     ·have hd:(d==1)=aw:=by simp[Cj]
      have HSP:Hid (pM (z,[]) (os.take (k+1))=ae (z2,sp)):=by unfold Hid;rw[Qo.out,Qp.out,if_neg Cj]
      clear Cj BG HR Qo Qp HMB HLK VE
      go_wp2_with fail
      clear q4 q5
      go_roundw
      case rel=>exact⟨k+1,z2,sp,by omega,by go_num,HSP.out,by omega,pO.out.drop.swap.drop⟩
      case measure=>simp[intOf];omega
  ·have:k=os.length:=by omega
   subst this;rw[cD]at cG;obtain⟨wp2,fp2,m2,QZ,hf2,Xb,jU⟩:=hI.jO;have afs:In G w0 (cj p z::yc np wp2 fp2::dG wp2 zk.ls zk.f::jE fp2 m2::jF (.slice As sp.length cs) sp::l) wr:=jU.reorder 5 [4,0,1,2,3] rfl (by simp);obtain⟨wp,fp,m,hm,hf,ha,gX⟩:=afs.jO;have c1:row? wr np 0 2=ae #[ptr wp2,ptr fp2]:=by rw[jU.blk.row 0 2 (by simp)];rfl
   have c2:fits wr p 0 2=aA:=gX.blk.fits 0 2 (by simp);have gm:=af (gX.Pz [ptr wp2,ptr fp2] rfl);have BE:=af QZ;have ag2:=af cG;clear hI jU afs gX QZ hf2 Xb hm hf ha cG
   go_wp2_with fail
   go_ret2
   refine⟨os.length,0,rfl,br ⟨zk,sp,by omega,ag2.out,rfl,rfl,?_⟩⟩;exact(In.mC BE.out gm.out.swap.drop.swap.drop.swap.drop).swap.drop
end
end
section
open Go.RowKit
section
variable {G:Nat->Prop} {w0 w:ah} {l:List bT} {p g:Nat} {z:ZS} {c:Nat} {os:List ik} {t:aF}
theorem Gw {α:Type}(f:α->List Int)(xs:List α)(k n:Nat)(hf: ∀x∈xs,(f x).length=n)(hk:k<xs.length):((xs.flatMap f).drop (k *n)).take n=f xs[k]:=by
 induction xs generalizing k with
 |nil=>simp at hk
 |cons x xs ih=>
  have hx:=hf x (by simp);cases k with
  |zero=>rw[Nat.zero_mul,List.drop_zero,cM,List.take_left' hx];rfl
  |succ k=>rw[cM,Nat.succ_mul,dt,<-List.drop_drop,List.drop_left' hx];exact ih k (λy hy=>hf y (by simp[hy])) (by simpa using hk)
theorem rT {α:Type}(f:α->List Int)(xs:List α)(n:Nat)(hf: ∀x∈xs,(f x).length=n):(xs.flatMap f).length=xs.length *n:=by
 induction xs with
 |nil=>simp
 |cons x xs ih=>rw[cM,bM,hf x (by simp),ih λy hy=>hf y (by simp[hy]),aj];rw[Nat.succ_mul];omega
theorem aiN.Du {F:Nat->Prop}(h:dq w g t (ints (os.flatMap ik.list)))(h8: ∀o∈os,o.b.v.length=8)(hF: ¬F g):aiN F w (g+1) (ae ⟨g,0,ai⟩) os:=by
 intro W hI;have bE:=h.lt;have hB:dq W g t (ints (os.flatMap ik.list)):=(hI.old bE hF).trans h;refine⟨λr hr=>by obtain⟨x,hx,rfl⟩:=aN.1 hr;exact ik.len (h8 x hx),λh0=>⟨g,0,rfl,by omega,λk r hr=> ?_⟩⟩;rw[dK]at hr;obtain⟨x,hx,rfl⟩:=aK.1 hr;obtain⟨hk,rfl⟩:=bH.1 hx;have afT: ∀o∈os,(ik.list o).length=16:=λo ho=>ik.len (h8 o ho)
 have Kv:=rT ik.list os 16 afT;have Xm:(k+1) *16<=os.length *16:=il 16 hk;rw[aC,hB.eb (k *16) 16 (by rw[Kv];omega),Gw ik.list os k 16 afT hk]
end
end
section
open Go.RowKit
def nL (G:Nat->Prop)(w0:ah)(B:Nat)(A:Option Addr)(ss:List Sys):Prop:= ∀{W:ah},In G w0 [] W->ui W B A ss
theorem nL.Dt {w:ah}{A:Option Addr}{ss:List Sys}(h:ui w w.heap.size A ss):nL (λ_=>False) w w.heap.size A ss:=λhI=>h.below hI.II
theorem nL.Du {F:Nat->Prop}{w:ah}{g:Nat}{t:aF}{ss:List Sys}(h:dq w g t (ints (ss.flatMap Sys.list)))(hF: ¬F g):nL F w (g+1) (ae ⟨g,0,ai⟩) ss:=by intro W hI;have bE:=h.lt;have hB:dq W g t (ints (ss.flatMap Sys.list)):=(hI.old bE hF).trans h;refine⟨λr hr=>by obtain⟨x,hx,rfl⟩:=aN.1 hr;rfl,λh0=>⟨g,0,rfl,by omega,λk r hr=> ?_⟩⟩;rw[dK]at hr;obtain⟨x,hx,rfl⟩:=aK.1 hr;obtain⟨hk,rfl⟩:=bH.1 hx;have Kv:=rT Sys.list ss 7 (λ_ _=>rfl);have Xm:(k+1) *7<=ss.length *7:=il 7 hk;rw[aC,hB.eb (k *7) 7 (by rw[Kv];omega),Gw Sys.list ss k 7 (λ_ _=>rfl) hk]
theorem wW: ∀{l:List Int},iq l=0-> ∀e∈l,e=0
 | [],_,_,h=>by cases h
 |x::l,h,e,he=>by
  unfold iq at h
  split at h
  ·rename_i hx
   rcases cy.1 he with rfl|he
   ·exact hx
   ·exact wW h e he
  ·rename_i hx;exact absurd h hx
theorem JA {ss:List Sys}(h:(dF ss).2=0):(∀s∈ss,eQ s=0)/\ss.length<=20:=by
 unfold dF at h
 split at h
 ·cases h
 ·rename_i hl
  split at h
  ·rename_i he
   exact⟨λs hs=>wW he _ (aN.2 ⟨s,hs,rfl⟩),by omega⟩
  ·rename_i he;exact absurd h he
def uD (z:ZS)(s:Sys)(j:Nat):ZS:=⟨z.ls,rH z.f s (z.rows.take j),z.B⟩
theorem X4 {z:ZS}(h:j9 z)(s:Sys):uD z s z.rows.length=P5 z s:=by unfold uD;rw[cD];unfold ZS.rows;rw[M' h.w];rfl
theorem Hf {z:ZS}(s:Sys){j:Nat}(hj:j<z.rows.length):uD z s (j+1)=⟨z.ls,dH (uD z s j).f z.rows[j].h.1 (ae (z.rows[j].h.2,cq z.rows[j].b s)),z.B⟩:=by unfold uD;rw[aR hj,ze]
theorem Rk {z:ZS}(h:j9 z)(s:Sys){j:Nat}(hj:j<z.rows.length):(uD z s j).f z.rows[j].h.1=ae (z.rows[j].h.2,z.rows[j].b):=by
 unfold uD;simp only;rw[Bu]
 ·exact(mm h.w).1 (aU hj)
 ·intro r hr e;obtain⟨i,hi,rfl⟩:=dp.1 hr;rw[dW]at hi;have:=jc.1 (tD z.ls z.f) i j (show i<z.rows.length by omega) hj (by omega);rw[List.getElem_take]at e;unfold Vh at this;change z.rows[i].h.1<z.rows[j].h.1 at this;omega
theorem aa9 {z:ZS}(h:j9 z)(s:Sys): ∀j,j<=z.rows.length->j9 (uD z s j):=by
 intro j
 induction j with
 |zero=>intro _;exact h
 |succ j ih=>intro hj;have h1:=ih (by omega);have ru:=Rk h s (show j<z.rows.length by omega);have hb:=h1.w.bo _ _ _ ru;have hl:=(h1.w.lv _ _).2 ⟨_,ru⟩;rw[Hf s (show j<z.rows.length by omega)];exact⟨h1.w.upd hl ⟨yx _ _ hb.2 hb.1,by rw[fM];exact hb.2⟩,h.rS,h.Ul,h.lv⟩
theorem Gn (b:aQ)(s:Sys): ∀j,j∉kinds b.k.toNat->(cq b s).v.getD j 0=b.v.getD j 0:=by
 intro j hj;refine gC b s j λhm=>hj ?_
 have:=(mM b s j).1 hm;exact(ju _ _).2 ⟨this.1,this.2.1⟩
section
variable {G:Nat->Prop} {w0 w:ah} {l:List bT} {p:Nat} {z:ZS} {B:Nat} {A:Option Addr} {c:Nat} {ss:List Sys}
theorem Na (h:In G w0 (cj p z::l) w)(hk:j9 z):Calls Tryz.prog 37 #[ptr p] w λe w'=> ∃A c,e=.returned (.slice A z.rows.length c)/\In G w0 (cE (.slice A z.rows.length c) z.rows::cj p z::l) w':=by
 have HK:=af hk;obtain⟨wp,fp,m,hm,hf,ha,gX⟩:=h.jO;obtain⟨sp,fF⟩:=gX.swap.Zh;have c0:w.cell? ⟨p,0,ai⟩=ae (ptr wp):=gX.blk.cell 0;have HM:=af hm;have gm:=af fF;clear h gX fF hm hf ha hk;have HR:=af (M9 gm.out HK.out.w BB);rw[Iu,if_pos rfl,D5 zX,Ev]at HR
 go_enter Tryz.func37,Tryz.ntmps37
 go_wp2_with fail
 refine HR.out.mono ?_;rintro e w2 ⟨rv,rfl,hI⟩;obtain⟨A3,c3,rfl,_,_,_⟩:=cH hI.rowAt;have HI:Hid (In G w0 (cE (.slice A3 z.rows.length c3) z.rows::cj p z::l) w2):=(In.mC (z:=z) HM.out (hI.swap.Kb.reorder 4 [2,0,3,1] rfl (by simp))).swap;clear hI HR gm
 go_wp2_with fail
 go_ret;exact⟨_,_,rfl,HI.out⟩
theorem D6 (hS:nL G w0 B A ss)(hB:B<=w0.heap.size)(hlen:ss.length<=maxLen)(h:In G w0 (cj p z::l) w)(hk:j9 z):Calls Tryz.prog 12 #[ptr p,.slice A ss.length c] w λe w'=>e=.returned (.int .i64 (dF ss).2)/\In G w0 (cj p (if(dF ss).2=0 then jg z ss else z)::l) w':=by
 have HS:Hid (nL G w0 B A ss):=hS;have HK:=af hk;have k9:=af h;have ZK:(ss.length:Int)<=9223372036854775807:=by unfold maxLen at hlen;omega
 have HP:=af (MK A c ss w (gu.more (hS h.bare) (by have:=h.size;omega)) hlen);clear hS h hk hlen;obtain⟨pn,LU⟩: ∃pn,(dF ss).2=pn:=⟨_,rfl⟩;rw[LU]at HP⊢;have HPN:=af LU;clear LU;obtain⟨zo,hzo⟩: ∃zo,zo=(if pn=0 then jg z ss else z):=⟨_,rfl⟩;rw[<-hzo];have HZO:=af hzo;clear hzo
 go_enter Tryz.func12,Tryz.ntmps12
 go_wp2_with fail
 refine HP.out.mono ?_;rintro e w2 ⟨v,rfl,ho,gV⟩;have gd:=af (k9.out.below gV);clear ho gV HP k9;by_cases he:pn=0
 rotate_left
 ·have dQ:(pn !=0)=aA:=by simp[he]
  have HZ:Hid (zo=z):=HZO.out.trans (if_neg he);clear he HZO
  go_wp2_with fail
  go_ret;exact⟨rfl,by rw[HZ.out];exact gd.out⟩
 have HZ0:Hid (zo=jg z ss):=HZO.out.trans (if_pos he);clear HZO;subst he;have Se:=af (JA HPN.out).1;have h20:=(JA HPN.out).2;have ahE:(ss.length:Int)<=20:=by omega
 go_wp2_with fail
 go_loopw [21] (λi w'=> ∃k:Nat,k<=ss.length/\i=.int .i64 k/\In G w0 (cj p (jg z (ss.take k))::l) w') (λi _=>ss.length-(intOf i).toNat)
 case atStart=>exact⟨0,bS _,rfl,gd.out⟩
 case round=>
  clear gd;obtain⟨k,hk,rfl,hI⟩:=hrel;by_cases bE:k<ss.length
  ·have xH:(k:Int)<ss.length:=by omega
   obtain⟨g,o,rfl,hgb,q1⟩:=(HS.out hI.bare).at_ bE;have e1:ss.getD k du=ss[k]:=by simp[bp,bE]
   rw[e1]at q1;have HSK:=af (Se.out ss[k] (aU bE));have Fo:=af (T7 z ss bE);have HZ:=af (HK.out.run (ss.take k));have HI:=af hI;clear hI e1;generalize ss[k]=s at *;generalize jg z (ss.take k)=z1 at *
   go_upto_region 7 with(fail)
   refine cc (In G w0 (bg wr.heap.size 54 (ints s.list)::cj p z1::l)) (HI.out.struct 54 [0,0,0,0,0,0,0] s.list rfl) ?_;generalize wr.heap.size=sb;intro w3 fF;have gm:=af fF.swap;clear fF HI q1
   go_wp2_with fail
   refine(Na gm.out HZ.out).mono ?_;rintro e w4 ⟨rA,rc,rfl,fX⟩;have iY:Hid (In G w0 (cj p (uD z1 s 0)::cE (.slice rA z1.rows.length rc) z1.rows::bg sb 54 (ints s.list)::l) w4):=fX.swap;have HMA:=af (X4 HZ.out s);have HMO:Hid (∀j,j<=z1.rows.length->j9 (uD z1 s j)):=λj=>aa9 HZ.out s j
   have HMT:Hid (∀j (hj:j<z1.rows.length),(uD z1 s j).f z1.rows[j].h.1=ae (z1.rows[j].h.2,z1.rows[j].b)):=λj hj=>Rk HZ.out s hj
   have VH:Hid (∀j (hj:j<z1.rows.length),uD z1 s (j+1)=⟨(uD z1 s j).ls,dH (uD z1 s j).f z1.rows[j].h.1 (ae (z1.rows[j].h.2,cq z1.rows[j].b s)),(uD z1 s j).B⟩):=λj hj=>Hf s hj
   have adQ:z1.rows.length<=60:=yn HZ.out.w;have hri:(z1.rows.length:Int)<=60:=by omega
   clear fX gm;generalize z1.rows=rs at *
   go_wp2_with fail
   go_loopw [28] (λi w'=> ∃j:Nat,j<=rs.length/\i=.int .i64 j/\In G w0 (cj p (uD z1 s j)::cE (.slice rA rs.length rc) rs::bg sb 54 (ints s.list)::l) w') (λi _=>rs.length-(intOf i).toNat)
   case atStart=>exact⟨0,bS _,rfl,iY.out⟩
   case round=>
    clear iY;obtain⟨j,hj,rfl,hI⟩:=hrel;by_cases adI:j<rs.length
    ·have OG:(j:Int)<rs.length:=by omega
     have HOJ:=af (HMO.out j (by omega));have HAT:=af (HMT.out j adI);have HNX:=af (VH.out j adI);obtain⟨NN,h8⟩:=HOJ.out.w.bo _ _ _ HAT.out;obtain⟨g2,rfl,q2⟩:=qK hI.swap adI h8;have I':(rs[j]).list.length=11:=by simp[cz.list,aQ.list,h8]
     have HI:=af hI;clear hI;generalize rs[j]=r at *;generalize uD z1 s j=zj at *;obtain⟨⟨x1,x2⟩,b⟩:=r;simp only at h8 NN HAT HNX;have hb9:b.list.length=9:=by simp[aQ.list,h8]
     have VD:=af NN;have H8:=af h8;clear NN
     go_upto_region 10 with(fail)
     refine cc (In G w0 (cj p zj::bg wr.heap.size 50 (ints (cz.list ⟨(x1,x2),b⟩))::cE (.slice (ae ⟨g2,0,ai⟩) rs.length rc) rs::bg sb 54 (ints s.list)::l)) (HI.out.struct 50 [0,0,0,0,0,0,0,0,0,0,0] _ I').swap ?_;generalize wr.heap.size=rb;intro w5 eH;have Zv:Hid (∀{W:ah} {zz:ZS},In G w0 (cj p zz::bg rb 50 (ints (cz.list ⟨(x1,x2),b⟩))::cE (.slice (ae ⟨g2,0,ai⟩) rs.length rc) rs::bg sb 54 (ints s.list)::l) W->row? W rb 0 2=ae (ints [x1,x2])/\row? W rb 2 9=ae (ints b.list)/\row? W sb 0 7=ae (ints s.list)):=λ{W zz} hW=>by refine⟨by rw[hW.swap.blk.eb 0 2 (by omega)];rfl,?_,hW.fourth.blk.bt rfl⟩;rw[hW.swap.blk.eb 2 9 (by omega)];show ae (ints (b.list.take 9))=_;rw[cI (by omega)]
     obtain⟨s1,s2,s3⟩:=Zv.out eH;have lV:=af eH;clear eH q2 HI
     go_region_held3 (λW=>row? W rb 0 2=ae (ints [x1,x2])/\row? W rb 2 9=ae (ints b.list)/\row? W sb 0 7=ae (ints s.list))
      (refine⟨?_,?_,?_⟩<;>assumption)
      (first
        |(go_at_call 38;refine(RG uu.out HOJ.out x1 x2 b (cq b s) HAT.out (oh b s) (yx b s H8.out VD.out) (by rw[fM];exact H8.out) (Gn b s)).mono ?_;rintro e w11 ⟨rfl,nX⟩;obtain⟨u1,u2,u3⟩:=Zv.out nX;have uw:=af nX;clear nX)
        |(go_at_call 39;refine(Wq b s H8.out VD.out HSK.out _).mono ?_;rintro e xx ⟨rfl,yL⟩;have uu:=af (lV.out.drew.below yL);obtain⟨t1,t2,t3⟩:=Zv.out uu.out;clear yL))
     all_goals
      have NZ:Hid (In G w0 (cj p (uD z1 s (j+1))::cE (.slice (ae ⟨g2,0,ai⟩) rs.length rc) rs::bg sb 54 (ints s.list)::l) w11):=by rw[HNX.out];exact uw.out.swap.drop
      clear uw
      go_wp2_with fail
      go_roundw
      case rel=>exact⟨j+1,by omega,by go_num,NZ.out⟩
      case measure=>simp[intOf];omega
    ·have:j=rs.length:=by omega
     subst this;rw[HMA.out,<-Fo.out]at hI;have HI:=af hI.swap.drop.swap.drop;clear hI
     go_wp2_with fail
     go_roundw
     case rel=>exact⟨k+1,by omega,by go_num,HI.out⟩
     case measure=>simp[intOf];omega
  ·have:k=ss.length:=by omega
   subst this;rw[cD]at hI;have HI:=af hI;clear hI
   go_wp2_with fail
   go_ret;exact⟨rfl,by rw[HZ0.out];exact HI.out⟩
end
end
section
open Go.RowKit
section
variable {G:Nat->Prop} {w0 w:ah} {l:List bT} {p:Nat} {z:ZS}
theorem ug (h:In G w0 (cj p z::l) w)(hk:j9 z):Calls Tryz.prog 16 #[ptr p] w λe w'=> ∃A1 c1 A2 c2 A3 c3,e=.returned (.agg #[.slice A1 (cX z.ls).length c1,.slice A2 z.rows.length c2,.slice A3 z.B.length c3])/\In G w0 (da (.slice A1 (cX z.ls).length c1) (cX z.ls)::cE (.slice A2 z.rows.length c2) z.rows::kG (.slice A3 z.B.length c3) z.B::cj p z::l) w':=by refine(Iv h hk).mono ?_;rintro e w' ⟨gv,rv,bv,rfl,hI⟩;obtain⟨A1,c1,rfl,_⟩:=cH hI.rowAt;obtain⟨A2,c2,rfl,_⟩:=cH hI.swap.rowAt;obtain⟨A3,c3,rfl,_⟩:=cH hI.third.rowAt;exact⟨A1,c1,A2,c2,A3,c3,rfl,hI⟩
theorem In.ajH (h:In G w0 l w)(a b c:aq):In G w0 (bg w.heap.size 36 #[a,b,c]::l) (fV (w.alloc (.cells #[.slice ai 0 0,.slice ai 0 0,.slice ai 0 0] 36)) w.heap.size 0 [a,b,c]):=(h.alloc 36 #[.slice ai 0 0,.slice ai 0 0,.slice ai 0 0]).Pz [a,b,c] rfl
end
end
section
open Go.RowKit
theorem Ct (z:ZS)(ss:List Sys):(jg z ss).ls=z.ls/\(jg z ss).B=z.B:=by
 unfold jg
 induction ss generalizing z with
 |nil=>exact⟨rfl,rfl⟩
 |cons s ss ih=>exact ih (P5 z s)
end
section
def ra (f:BF)(g:aQ->aQ):BF:=λk=>(f k).map λx=>(x.1,g x.2)
def Bt (f:BF)(g:aQ->aQ)(l:List cz):BF:=l.foldl (λf r=>dH f r.h.1 (ae (r.h.2,g r.b))) f
theorem D4 (f:BF)(g:aQ->aQ)(l:List cz)(r:cz):Bt f g (l++[r])=dH (Bt f g l) r.h.1 (ae (r.h.2,g r.b)):=by unfold Bt;rw[oc];rfl
theorem Hx (f:BF)(g:aQ->aQ)(l:List cz){k:Int}(h: ∀r∈l,r.h.1≠k):Bt f g l k=f k:=by
 unfold Bt
 induction l generalizing f with
 |nil=>rfl
 |cons r l ih=>rw[List.foldl_cons,ih _ λr hr=>h r (by simp[hr])];unfold dH;rw[if_neg (λe=>h r (by simp) e.symm)]
theorem T0 {ls:List (Int×Bool)}{f:BF}(hk:oe ls f)(g:aQ->aQ):Bt f g (mf ls f)=ra f g:=by
 have key: ∀(n:Nat) (l:List cz),l.length=n->(∀r∈l,f r.h.1=ae (r.h.2,r.b))-> ∀k,(∃r∈l,r.h.1=k)->Bt f g l k=ra f g k:=by
  intro n
  induction n with
  |zero=>rintro l h0 _ k ⟨r,hr,_⟩;rw[gg h0]at hr;cases hr
  |succ n ih=>
   intro l hn hl k hx;have dQ:l≠ []:=by intro e;rw[e]at hn;cases hn
   have e0:=List.dropLast_concat_getLast dQ;generalize l.getLast dQ=r at e0;generalize hd:l.dropLast=l' at e0;have OH:l'.length=n:=by rw[<-hd,List.length_dropLast,hn];rfl
   clear hd;subst e0;rw[D4];unfold dH;by_cases e:k=r.h.1
   ·rw[if_pos e];unfold ra;rw[e,hl r (by simp)];rfl
   ·rw[if_neg e];refine ih l' OH (λr hr=>hl r (by simp[hr])) k ?_;obtain⟨r',we,he⟩:=hx;rcases iV.1 we with h|h
    ·exact⟨r',h,he⟩
    ·rw[eC]at h;subst h;exact absurd he.symm e
 funext k;by_cases hx: ∃r∈mf ls f,r.h.1=k
 ·exact key _ _ rfl (λr hr=>(mm hk).1 hr) k hx
 ·have wM:f k=ai:=by
   cases hf:f k with
   |none=>rfl
   |some x=>exact absurd ⟨⟨(k,x.1),x.2⟩,(mm hk).2 hf,rfl⟩ hx
  rw[Hx f g _ (λr hr e=>hx ⟨r,hr,e⟩)];unfold ra;rw[wM];rfl
def Gd (g:aQ->aQ):Prop:= ∀b,bK b=0->b.v.length=8->bK (g b)=0/\(g b).v.length=8
theorem oe.gen {ls:List (Int×Bool)}{f:BF}(h:oe ls f){g:aQ->aQ}(hg:Gd g):oe ls (ra f g):=by
 refine⟨h.so,λk n=> ?_,λk n b hb=> ?_⟩
 ·rw[h.lv];unfold ra;constructor
  ·rintro⟨b,hb⟩;exact⟨g b,by rw[hb];rfl⟩
  ·rintro⟨b,hb⟩;obtain⟨x,hx,he⟩:=aK.1 hb;injection he with h1 h2
   exact⟨x.2,by rw[hx,<-h1]⟩
 ·unfold ra at hb;obtain⟨x,hx,he⟩:=aK.1 hb;injection he with h1 h2
  have h3:=h.bo k x.1 x.2 hx;rw[<-h2];exact hg _ h3.1 h3.2
theorem j9.gen {z:ZS}(h:j9 z){g:aQ->aQ}(hg:Gd g):j9 ⟨z.ls,ra z.f g,z.B⟩:=⟨h.w.gen hg,h.rS,h.Ul,h.lv⟩
theorem C4 {ls:List (Int×Bool)}{f:BF}(h:oe ls f){g g':aQ->aQ}(hg: ∀b,bK b=0->b.v.length=8->g b=g' b):ra f g=ra f g':=by
 funext k;unfold ra;cases hf:f k with
 |none=>rfl
 |some x=>have:=h.bo k x.1 x.2 hf;simp only[eY];rw[hg _ this.1 this.2]
theorem Gy (f:BF)(g g':aQ->aQ):ra (ra f g) g'=ra f λb=>g' (g b):=by funext k;unfold ra;cases f k<;>rfl
theorem QI (f:BF):ra f (λb=>b)=f:=by funext k;unfold ra;cases f k<;>rfl
def sW (z:ZS)(g:aQ->aQ)(j:Nat):ZS:=⟨z.ls,Bt z.f g (z.rows.take j),z.B⟩
theorem X3 {z:ZS}(h:j9 z)(g:aQ->aQ):sW z g z.rows.length=⟨z.ls,ra z.f g,z.B⟩:=by unfold sW;rw[cD];unfold ZS.rows;rw[T0 h.w]
theorem He {z:ZS}(g:aQ->aQ){j:Nat}(hj:j<z.rows.length):sW z g (j+1)=⟨z.ls,dH (sW z g j).f z.rows[j].h.1 (ae (z.rows[j].h.2,g z.rows[j].b)),z.B⟩:=by unfold sW;rw[aR hj,D4]
theorem Rj {z:ZS}(h:j9 z)(g:aQ->aQ){j:Nat}(hj:j<z.rows.length):(sW z g j).f z.rows[j].h.1=ae (z.rows[j].h.2,z.rows[j].b):=by
 unfold sW;simp only;rw[Hx]
 ·exact(mm h.w).1 (aU hj)
 ·intro r hr e;obtain⟨i,hi,rfl⟩:=dp.1 hr;rw[dW]at hi;have:=jc.1 (tD z.ls z.f) i j (show i<z.rows.length by omega) hj (by omega);rw[List.getElem_take]at e;unfold Vh at this;change z.rows[i].h.1<z.rows[j].h.1 at this;omega
theorem aa8 {z:ZS}(h:j9 z){g:aQ->aQ}(hg:Gd g): ∀j,j<=z.rows.length->j9 (sW z g j):=by
 intro j
 induction j with
 |zero=>intro _;exact h
 |succ j ih=>intro hj;have h1:=ih (by omega);have ru:=Rj h g (show j<z.rows.length by omega);have hb:=h1.w.bo _ _ _ ru;have hl:=(h1.w.lv _ _).2 ⟨_,ru⟩;rw[He g (show j<z.rows.length by omega)];exact⟨h1.w.upd hl (hg _ hb.1 hb.2),h.rS,h.Ul,h.lv⟩
theorem Oj (ss:List Sys): ∀b,∀j,j∉kinds b.k.toNat->(jh b ss).v.getD j 0=b.v.getD j 0:=by
 induction ss with
 |nil=>intro b j _;rfl
 |cons s ss ih=>intro b j hj;show(jh (cq b s) ss).v.getD j 0=_;rw[ih _ j (by rw[oh];exact hj)];exact Gn b s j hj
theorem K2 (L:PS)(hL:tw L): ∀n,Gd λb=>byB b L n:=by
 intro n
 induction n with
 |zero=>intro b h1 h2;exact⟨h1,h2⟩
 |succ n ih=>intro b h1 h2;obtain⟨h3,h4⟩:=ih b h1 h2;exact⟨Lb _ _ h4 h3,by show(jh _ _).v.length=8;rw[vS];exact h4⟩
def iK (z:ZS)(L:PS)(n:Nat):ZS:=⟨z.ls,ra z.f λb=>byB b L n,z.B⟩
theorem PY (z:ZS)(L:PS):iK z L 0=z:=by
 have:(λb=>byB b L 0)=λb=>b:=rfl
 unfold iK;rw[this,QI]
theorem Nh {z:ZS}(h:j9 z){L:PS}(hL:tw L)(n:Nat):j9 (iK z L n):=h.gen (K2 L hL n)
theorem Cv {L:PS}(hL:tw L)(b:Int): ∀s∈gU L b,eQ s=0:=λs hs=>by unfold gU at hs;obtain⟨x,hx,rfl⟩:=aN.1 hs;exact hL.ok x (cu.1 hx).1
structure nT (L:PS):Prop extends tw L where
 apart:L.Pairwise λx y=>x.2=y.2->gB x.1 y.1=aw
theorem xX {L:PS}(hL:nT L)(b:Int):(gU L b).Pairwise λs t=>gB s t=aw:=by
 unfold gU;rw[List.pairwise_map];refine(hL.apart.sublist List.filter_sublist).imp_of_mem λ{x y} hx hy h=>h ?_
 have h1:=(cu.1 hx).2;have h2:=(cu.1 hy).2;simp only[decide_eq_true_eq]at h1 h2;rw[h1,h2]
theorem N8 {L:PS}(hL:nT L)(b:Int):Gd λx=>iz x (gU L b):=λx h1 h2=>by show bK (iz x (gU L b))=0/\(iz x (gU L b)).v.length=8;rw[xB x h2 _ _ rfl (Cv hL.totw b) (xX hL b)];exact⟨Lb _ _ h2 h1,by rw[vS];exact h2⟩
theorem KU {L:PS}(hL:nT L)(b:Int){x:aQ}(h2:x.v.length=8): ∀j,j∉kinds x.k.toNat->(iz x (gU L b)).v.getD j 0=x.v.getD j 0:=by rw[xB x h2 _ _ rfl (Cv hL.totw b) (xX hL b)];exact Oj _ x
theorem PX {z:ZS}(h:j9 z){L:PS}(hL:nT L)(n:Nat):sW (iK z L n) (λx=>iz x (gU L n)) (iK z L n).rows.length=iK z L (n+1):=by
 rw[X3 (Nh h hL.totw n)];unfold iK;rw[Gy];congr 1;refine C4 h.w λb h1 h2=> ?_
 have:=K2 L hL.totw n b h1 h2;exact xB _ this.2 _ _ rfl (Cv hL.totw n) (xX hL n)
theorem YM (ss:List Sys): ∀z:ZS,jg z ss=⟨z.ls,ra z.f λb=>jh b ss,z.B⟩:=by
 induction ss with
 |nil=>intro z;show z=_;have:(λb:aQ=>jh b [])=λb=>b:=rfl;rw[this,QI]
 |cons s ss ih=>
  intro z;show jg (P5 z s) ss=_;rw[ih];unfold P5;congr 1;show ra (ra z.f λb=>cq b s) _=_;rw[Gy]
  rfl
theorem Ui {z:ZS}(h:j9 z){L:PS}(hL:nT L)(h0: ∀y∈L,0<=y.2)(n:Nat)(hn: ∀y∈L,y.2<n):iK z L n=jg z (IC L):=by rw[YM];unfold iK;congr 1;exact C4 h.w λb _ h2=>aar b h2 L hL.totw h0 n hn
def dI (ss:List Sys):PS:=ss.zip (cm ss ss.length)
theorem jY (ss:List Sys):(dI ss).length=ss.length:=by unfold dI;rw[List.length_zip,eT,Nat.min_self]
theorem TF (ss:List Sys):IC (dI ss)=ss:=by unfold IC dI;rw[List.map_fst_zip (by rw[eT];exact az _)]
theorem mU (ss:List Sys)(i:Nat)(h:i<(dI ss).length):(dI ss)[i]=(ss[i]'(by rw[jY]at h;exact h),(cm ss ss.length).getD i 0):=by
 have h':i<ss.length:=by rw[jY]at h;exact h
 have e:(dI ss)[i]? =ae (ss[i],(cm ss ss.length).getD i 0):=by unfold dI;rw[List.getElem?_zip_eq_some];exact⟨ao h',by simp[bp,eT,h']⟩
 rw[ao h]at e;exact aY e
theorem Yn {ss:List Sys}(hs: ∀s∈ss,eQ s=0):nT (dI ss):=by
 have Da: ∀i (h:i<ss.length),ss.getD i du=ss[i]:=λi h=>by simp[bp,h]
 refine⟨⟨λx hx=> ?_,?_⟩,?_⟩
 ·obtain⟨i,hi,rfl⟩:=dp.1 hx;rw[mU];exact hs _ (aU _)
 ·refine jc.2 λi j hi hj LM hc=> ?_
  have gj:i<ss.length:=by rw[jY]at hi;exact hi
  have S4:j<ss.length:=by rw[jY]at hj;exact hj
  rw[mU,mU]at hc⊢;have:=(ML ss hs (λs h=>qS h) j S4).1 i LM (by rw[Da i gj,Da j S4];exact hc);exact this
 ·refine jc.2 λi j hi hj LM he=> ?_
  have gj:i<ss.length:=by rw[jY]at hi;exact hi
  have S4:j<ss.length:=by rw[jY]at hj;exact hj
  rw[mU,mU]at he⊢;have:=(ML ss hs (λs h=>qS h) j S4).2.2 i gj (by omega) he;rw[Da i gj,Da j S4]at this;exact this
theorem Jz (ss:List Sys): ∀y∈dI ss,0<=y.2:=λy hy=>by obtain⟨i,hi,rfl⟩:=dp.1 hy;rw[mU];exact(Cp ss ss.length i (by rw[jY]at hi;exact hi)).1
theorem Yo {ss:List Sys}{n:Nat}(h: ∀i,i<ss.length->(cm ss ss.length).getD i 0≠n): ∀i,i<ss.length->(cm ss ss.length).getD i 0<n:=by
 intro i
 induction i using l7 with
 |ind i ih=>
  intro hi;have dQ:=h i hi;have h0:=(Cp ss ss.length i hi).1;rw[yY ss ss.length i hi]at dQ h0⊢;rcases wA (ss:=ss) (p:=cm ss ss.length) (s:=ss.getD i du) i with e|⟨k,hk,_,e⟩
  ·omega
  ·have:=ih k hk (by omega);omega
theorem TH {ss:List Sys}{n:Nat}(h:(n:Int)∉cm ss ss.length): ∀y∈dI ss,y.2<n:=λy hy=>by
 obtain⟨i,hi,rfl⟩:=dp.1 hy;rw[mU];refine Yo (λj hj e=>h ?_) i (by rw[jY]at hi;exact hi);rw[<-e];have:j<(cm ss ss.length).length:=by rw[eT];exact hj
 rw[show(cm ss ss.length).getD j 0=(cm ss ss.length)[j]by simp[bp,this]];exact aU _
theorem Ym {ss:List Sys}{n:Nat}(h:(n:Int)∈cm ss ss.length):n<ss.length:=by obtain⟨i,hi,e⟩:=dp.1 h;rw[eT]at hi;have:=(Cp ss ss.length i hi).2;rw[show(cm ss ss.length).getD i 0=(cm ss ss.length)[i]'(by rw[eT];exact hi)by simp[bp,eT,hi],e]at this;omega
theorem Ue (ss:List Sys)(b:Int){i:Nat}(hi:i<ss.length):gU ((dI ss).take (i+1)) b=if(cm ss ss.length).getD i 0=b then gU ((dI ss).take i) b++[ss[i]]else gU ((dI ss).take i) b:=by
 have hl:i<(dI ss).length:=by rw[jY];exact hi
 unfold gU;rw[aR hl,List.filter_append,dX,mU]
 split
 ·rename_i h
  rw[List.filter_cons_of_pos (by simpa using h)];rfl
 ·rename_i h
  rw[List.filter_cons_of_neg (by simpa using h)];simp
theorem Ud (ss:List Sys)(b:Int):gU ((dI ss).take ss.length) b=gU (dI ss) b:=by rw[<-jY ss,cD]
theorem Nf (L:PS)(b:Int):(gU L b).length<=L.length:=by unfold gU;rw[List.length_map];exact List.length_filter_le _ _
end
section
open Rel
open Go.Conc Go.ConcN
open Go.ConcR (Payload WgAt)
open Go.RowKit
theorem aeK {P:aS}{c:fR}{Post:aq->ah->Prop}{fn:bQ}{Q:Exit->Act->ah->Prop}{a:Act}{w:ah}(hc:c.Fits P){ops:Array Oper}{i:Nat}{rest:List Nat}{o:Oper}{v:aq}{w':ah}(h:sa P c Post fn ops rest Q (a.put o.dst v) w')(ho:ops[i]? =ae o:=by rfl)(hw:bu o (yielded ops a.tmps)=aA:=by rfl)(wa:kz (c.at fn) o=aA:=by kernel_rfl)(htp:w'.tape=w.tape/\w'.drawn=w.drawn:=by exact⟨rfl,rfl⟩)(hr: ∀tp d,(execOp a.eval o).run P (dB w tp d)=.ok (.value v) (dB w' tp d):=by intro tp d;go_simp):sa P c Post fn ops (i::rest) Q a w:=aJ hc ho hw wa htp hr h
theorem S1 {P:aS}{c:fR}{Post:aq->ah->Prop}{fn:bQ}{Q:Exit->Act->ah->Prop}{a:Act}{w:ah}(hc:c.Fits P){ops:Array Oper}{i:Nat}{rest:List Nat}{o:Oper}(v:aq)(h:sa P c Post fn ops rest Q (a.put o.dst v) w)(ho:ops[i]? =ae o:=by rfl)(hw:bu o (yielded ops a.tmps)=aA:=by rfl)(wa:kz (c.at fn) o=aA:=by kernel_rfl)(hr: ∀tp d,(execOp a.eval o).run P (dB w tp d)=.ok (.value v) (dB w tp d):=by intro tp d;go_simp):sa P c Post fn ops (i::rest) Q a w:=aJ hc ho hw wa ⟨rfl,rfl⟩ hr h
def UR (A:bT):Prop:= ∀(w w':ah) (F:Nat->Prop),w'.heap=w.heap->A.at_ w F->A.at_ w' F
def vO (l:List bT):Prop:= ∀A∈l,UR A
theorem Sep.hp: ∀{l:List bT} {w w':ah} {F:Nat->Prop},vO l->w'.heap=w.heap->Sep l w F->Sep l w' F
 | [],_,_,_,_,_,_=>trivial
 |A::l,w,w',F,hl,e,⟨F1,F2,h1,h2,h3,h4⟩=>⟨F1,F2,hl A (by simp) w w' F1 e h1,Sep.hp (λB hB=>hl B (by simp[hB])) e h2,h3,h4⟩
theorem In.dB {G:Nat->Prop}{l:List bT}{w0 w:ah}(h:In G w0 l w)(hl:vO l)(tp:Tape)(d d':Nat):In G (Rel.dB w0 tp d) l (Rel.dB w tp d'):=⟨Sep.hp (w:=w) (w':=Rel.dB w tp d') hl rfl h.sep,⟨h.only.os,rfl,h.only.output,h.only.size,h.only.block⟩⟩
def jM (G:Nat->Prop)(w0:ah)(l:List bT)(w:ah):Prop:=In G (Rel.dB w0 w.tape w0.drawn) l w
theorem jM.of {G:Nat->Prop}{l:List bT}{w0 w:ah}{tp:Tape}{d:Nat}(h:In G (Rel.dB w0 tp d) l w):jM G w0 l w:=by have ht:w.tape=tp:=h.only.tape;exact⟨h.sep,⟨h.only.os,rfl,h.only.output,h.only.size,h.only.block⟩⟩
theorem jM.at_ {G:Nat->Prop}{l:List bT}{w0 w:ah}(h:jM G w0 l w)(hl:vO l)(tp:Tape)(d d':Nat):In G (Rel.dB w0 tp d) l (Rel.dB w tp d'):=⟨Sep.hp (w:=w) (w':=Rel.dB w tp d') hl rfl h.sep,⟨h.only.os,rfl,h.only.output,h.only.size,h.only.block⟩⟩
theorem jM.dB {G:Nat->Prop}{l:List bT}{w0 w:ah}(h:jM G w0 l w)(hl:vO l)(tp:Tape)(d:Nat):jM G w0 l (Rel.dB w tp d):=jM.of (h.at_ hl tp 0 d)
theorem vO.cons {A:bT}{l:List bT}(h:UR A)(hl:vO l):vO (A::l):=λB hB=>by
 rcases cy.1 hB with rfl|hB
 ·exact h
 ·exact hl B hB
theorem vO.nil:vO []:=λ_ h=>by simp at h
theorem bg.hp (g:Nat)(t:aF)(cs:Array aq):UR (bg g t cs):=λw w' F e h=>⟨by have:=h.1;unfold dq at this⊢;rw[e];exact this,h.2⟩
theorem xS {B:Nat}{E:aF}{size n:Nat}{v:aq}{xs:List aq}{w w':ah}(e:w'.heap=w.heap)(h:w.ownsRow B E size v n xs):w'.ownsRow B E size v n xs:=by unfold World.ownsRow at h⊢;rw[e];exact h
theorem dP.hp (E:aF)(size:Nat)(v:aq)(n:Nat)(xs:List aq):UR (dP E size v n xs):=λw w' F e h=>⟨xS e h.1,h.2⟩
def aen (s:Sys):List aq:=s.list.map (aZ .i64)
abbrev nl (v:aq)(ss:List Sys):bT:=dP 54 7 v ss.length (ss.flatMap aen)
abbrev ng (v:aq)(bs:List aQ):bT:=dP 48 9 v bs.length (bs.flatMap N9)
theorem Y5 (s:Sys):(aen s).length=7:=by simp[aen,Sys.list,Query.list]
theorem Yg {w:ah}{E:aF}{size c:Nat}{A:Option Addr}{α:Type}{f:α->List aq}(hf: ∀x,(f x).length=size){l:List α}(h:w.ownsRow 0 E size (.slice A l.length c) l.length (l.flatMap f)){k:Nat}(hk:k<l.length): ∃g,A=ae ⟨g,0,ai⟩/\(dZ A l.length c).ownBlock=ae g/\row? w g (k *size) size=ae (f l[k]).toArray:=by
 obtain⟨A',c',e,_,_,hg⟩:=cH h;injection e with e1 e2 e3
 subst e1;subst e3;obtain⟨g,rfl⟩:=hg (by omega);exact⟨g,rfl,rfl,by rw[lg h hk,lO hf l k hk]⟩
theorem In.own {G:Nat->Prop}{w0 w:ah}{l:List bT}{E:aF}{size n:Nat}{v:aq}{xs:List aq}(h:In G w0 (dP E size v n xs::l) w):w.ownsRow 0 E size v n xs:=let⟨_,hA⟩:=h.head;hA.1
def mF (Pb:Nat)(bss:List (List aQ)):bT where
 at_ w F:=F Pb/\Pb<w.heap.size/\ ∀k bs,bss[k]? =ae bs-> ∃v,w.cell? ⟨Pb,k,ai⟩=ae v/\w.ownsRow 0 48 9 v bs.length (bs.flatMap N9)/\ ∀r,v.ownBlock=ae r->F r
 frame h ho hd:=⟨h.1,bX h.2.1 ho.size,λk bs hk=>by obtain⟨v,h1,h2,h3⟩:=h.2.2 k bs hk;exact⟨v,(c9 (ho.block _ h.2.1 (hd _ h.1))).trans h1,ho.own h2 λr hr=>hd r (h3 r hr),h3⟩⟩
 cut h hd:=⟨hd _ h.2.1 h.1,h.2.1,λk bs hk=>by obtain⟨v,h1,h2,h3⟩:=h.2.2 k bs hk;exact⟨v,h1,h2,λr hr=>hd r (h2.lt r hr).2 (h3 r hr)⟩⟩
theorem mF.hp (Pb:Nat)(bss:List (List aQ)):UR (mF Pb bss):=λw w' F e h=>⟨h.1,by rw[e];exact h.2.1,λk bs hk=>by obtain⟨v,h1,h2,h3⟩:=h.2.2 k bs hk;exact⟨v,(c9 (by rw[e])).trans h1,xS e h2,h3⟩⟩
theorem In.part {G:Nat->Prop}{w0 w:ah}{l:List bT}{Pb:Nat}{bss:List (List aQ)}(h:In G w0 (mF Pb bss::l) w){k i:Nat}{bs:List aQ}(hk:bss[k]? =ae bs)(h8: ∀b∈bs,b.v.length=8)(hi:i<bs.length): ∃g c,w.cell? ⟨Pb,k,ai⟩=ae (.slice (ae ⟨g,0,ai⟩) bs.length c)/\row? w g (i *9) 9=ae (ints bs[i].list):=by
 obtain⟨F1,hA⟩:=h.head;obtain⟨v,h1,h2,_⟩:=hA.2.2 k bs hk;obtain⟨A,c,rfl,_,_,hg⟩:=cH h2;obtain⟨g,rfl⟩:=hg (by omega);refine⟨g,c,h1,?_⟩;rw[lg h2 hi];have hl: ∀(bs:List aQ) (i:Nat) (hi:i<bs.length),(∀b∈bs,b.v.length=8)->((bs.flatMap N9).drop (i *9)).take 9=N9 bs[i]:=by
  intro bs
  induction bs with
  |nil=>intro i hi;simp at hi
  |cons b bs ih=>
   intro i hi h;have hb:(N9 b).length=9:=by simp[N9,aQ.list,h b (by simp)]
   cases i with
   |zero=>rw[cM,Nat.zero_mul,List.drop_zero,List.take_append_of_le_length (by omega),cI (by omega)];rfl
   |succ i=>rw[cM,k8,jR,dt,<-hb,List.drop_append,List.drop_of_length_le (by omega),cL,ki,hb];exact ih i (by simpa using hi) λx hx=>h x (by simp[hx])
 rw[hl bs i hi h8]
 rfl
theorem jM.behind {G:Nat->Prop}{w0 w w':ah}{l:List bT}{Pb:Nat}{t:aF}{cs:Array aq}{bd:bQ->List Tmp}{old:Nat}{xs:List cz}{ss:List Sys}(h:jM G w0 (bg Pb t cs::l) w)(hb:Iw (λb=>b=Pb) w w')(hp: ∀p,p<ss.length-> ∃o:Nat->Prop,(∀r,o r->w.heap.size+4<=r/\r<w'.heap.size)/\jpB (cfg bd old).sig Pb xs ss o p w'):jM G w0 (mF Pb (ss.map λs=>xs.map λr=>cq r.b s)::l) w':=by
 obtain⟨F1,⟨h1,h2⟩,_,jA⟩:=In.open_ h;have hs:=hb.size;have:=jA (w':=w') (A':=mF Pb (ss.map λs=>xs.map λr=>cq r.b s)) ⟨.inl h2,bX h1.lt hs,λk bs hk=> ?_⟩ ⟨hb.os,hb.tape,hb.output,hs,λk hk hn=>hb.old k hk λe=>hn (by rw[e];exact h2)⟩
 ·exact jM.of this
 ·rw[dK]at hk;obtain⟨s,GN,rfl⟩:=aK.1 hk;obtain⟨zF,rfl⟩:=bH.1 GN;obtain⟨o,ho,v,hc,V,g1,g2,g3,g4⟩:=hp k zF;rw[show ss.getD k du=ss[k]by simp[bp,zF]]at g4;refine⟨v,hc,g4,λr hr=>.inr ?_⟩;obtain⟨A,c,rfl,_,_,hg⟩:=cH g4;cases A with
  |none=>cases hr
  |some ad=>
   have hV:V r:=by
    cases g3 with
    |slice _ _ ha=>injection hr with hr;exact hr▸ha.block.2
   exact⟨by have:=ho r (g1 r hV);omega,(ho r (g1 r hV)).2⟩
section
variable {c:fR} {Post:aq->ah->Prop} {fn:bQ} {Q:Exit->Act->ah->Prop} {a:Act} {ops:Array Oper} {i:Nat} {rest:List Nat} {o:Oper} {w:ah} {x0 x1 x2:cw} {tE:Array aF} {n nj:Nat} {jf:bQ} {caps:Array aq} {J:N2} {NR:Nat->Prop}
theorem Tz (hold:c.old<=w.heap.size)(ho:ops[i]? =ae o)(hw:bu o (yielded ops a.tmps)=aA)(hop:o.op=.call {callee:=.value (.func 47),args:= #[x0,x1,x2],argTypes:=tE})(h0:a.eval x0=.int .i64 n)(h1:a.eval x1=.int .i64 nj)(h2:a.eval x2=.func (.func jf) #[] caps)(hn0:1<=n)(hn:n<=8)(hnj:nj<=1000)(K:J.Ok)(vY: ∀b,J.CB b->b<w.heap.size)(adU: ∀π,Rel.Sub π->(∀l,π l l-> ∃o,w.heap[l]? =ae o/\ku c.sig π o o)->se (c.at fn) π a.tmps a.tmps->(∀r,NR r->π r r)/\ ∀r,J.CB r->π r r)(hNR: ∀r,NR r-> ¬J.CB r)(QW: ∀p,p<nj->J.J0 p w)(LN: ∀(φ:Ph) (wp:ah),φ.Ok->φ.P=Tryz.prog->φ.nj=nj->(∀p,φ.jv p=.int .i64 p)->φ.CB=J.CB->φ.jl=J.jl->φ.J0=J.J0->φ.JP=J.JP->(∀r,NR r->φ.od r)->(∀r,r<w.heap.size->wp.heap[r]? =w.heap[r]?)->Tryz.prog.globals.size<=wp.heap.size->(∀r,φ.od r\/φ.CB r\/r=φ.Wg->r<wp.heap.size)->CI φ wp jf caps)(rz: ∀w',Iw J.CB w w'->(∀p,p<nj-> ∃o:Nat->Prop,(∀r,o r->w.heap.size+4<=r/\r<w'.heap.size)/\J.JP o p w')-> ∃V:Nat->Prop,(∀r,V r->w.heap.size+4<=r/\r<w'.heap.size)/\(∀r,J.CB r\/V r-> ∃o,w'.heap[r]? =ae o/\ku c.sig (only V) o o)/\sa Tryz.prog c Post fn ops rest Q (a.put o.dst (.tuple #[])) w'):sa Tryz.prog c Post fn ops (i::rest) Q a w:=by
 intro b k cs hb hk hp hq;refine aau hold ho hw hk hop h0 h1 h2 hn0 hn hnj K vY (λπ s hO hf=>adU π s hO (by have:=hf.1;rwa[show(b.at a (.inRegion ops (i::rest)::k)).fn=fn from hb]at this)) hNR QW LN λw' hB hP=> ?_
 obtain⟨V,e1,e2,e3⟩:=rz w' hB hP;exact⟨V,e1,e2,e3 b k cs hb hk hp hq⟩
end
end
section
open Rel
open Go.RowKit
def gH (zs:List aQ):List Int:=zs.flatMap aQ.list
theorem sq (zs:List aQ)(h: ∀z∈zs,z.v.length=8):(gH zs).length=zs.length *9:=rT aQ.list zs 9 λx hx=>by simp[aQ.list,h x hx]
theorem Sr {pre post:List aQ}{b b':aQ}(h: ∀z∈pre,z.v.length=8)(hb:b.v.length=8)(jN:b'.v.length=8):(gH (pre++b::post)).take (pre.length *9)++b'.list++(gH (pre++b::post)).drop (pre.length *9+b'.list.length)=gH (pre++b'::post):=by
 have hl:=sq pre h;have e:gH (pre++b::post)=gH pre++(b.list++gH post):=by simp[gH]
 have e':gH (pre++b'::post)=gH pre++(b'.list++gH post):=by simp[gH]
 have l1:b.list.length=9:=by simp[aQ.list,hb]
 have l2:b'.list.length=9:=by simp[aQ.list,jN]
 rw[e,e',<-hl,List.take_append_of_le_length (az _),cD,List.drop_append,List.drop_of_length_le (by omega),l2,ki,cL,List.drop_append,<-l1,List.drop_length,Nat.sub_self,List.drop_zero,cL,dn]
theorem Ss {pre post:List aQ}{b:aQ}(h: ∀z∈pre,z.v.length=8)(hb:b.v.length=8){k:Nat}(hk:k<8)(x:Int):(gH (pre++b::post)).set (pre.length *9+1+k) x=gH (pre++⟨b.k,b.v.set k x⟩::post):=by
 have hl:=sq pre h;have e: ∀b:aQ,gH (pre++b::post)=gH pre++(b.list++gH post):=λb=>by simp[gH]
 rw[e,e,<-hl,Nat.add_assoc,nP _ _ (by omega),ki,List.set_append_left _ _ (by simp[aQ.list,hb];omega),dt 1 k]
 rfl
theorem Ob {pre post:List aQ}{b:aQ}(h: ∀z∈pre,z.v.length=8)(hb:b.v.length=8){k:Nat}(hk:k<8):(gH (pre++b::post))[pre.length *9+1+k]? =ae (b.v.getD k 0):=by
 have hl:=sq pre h;have e:gH (pre++b::post)=gH pre++(b.list++gH post):=by simp[gH]
 rw[e,<-hl,Nat.add_assoc,List.getElem?_append_right (by omega),ki,List.getElem?_append_left (by simp[aQ.list,hb];omega),dt 1 k];simp[aQ.list,bp,ao (show k<b.v.length by omega)]
theorem KY (n:Nat):bZ (n *9) (0:Int)=gH (bZ n n9):=by
 induction n with
 |zero=>rfl
 |succ n ih=>
  rw[List.replicate_succ,Nat.succ_mul,dt,<-List.replicate_append_replicate,ih]
  rfl
def Aa (xs:List cz)(ss:List Sys)(i:Nat):List aQ:=(xs.take i).map (λr=>iz r.b ss)++bZ (xs.length-i) n9
def preB (xs:List cz)(ss:List Sys)(i:Nat):List aQ:=(xs.take i).map (λr=>iz r.b ss)
def sZ (xs:List cz)(i:Nat):List aQ:=bZ (xs.length-i-1) n9
theorem Hk {xs:List cz}(ss:List Sys){i:Nat}(hi:i<xs.length):Aa xs ss i=preB xs ss i++n9::sZ xs i:=by unfold Aa preB sZ;rw[<-List.replicate_succ];congr 2;omega
theorem TA {xs:List cz}(ss:List Sys){i:Nat}(hi:i<xs.length):preB xs ss i++iz xs[i].b ss::sZ xs i=Aa xs ss (i+1):=by
 unfold Aa preB sZ;rw[aR hi,dX,dn,Nat.sub_sub]
 rfl
theorem MM {xs:List cz}{ss:List Sys}{i:Nat}(hi:i<=xs.length):(preB xs ss i).length=i:=by simp[preB];omega
theorem Px {xs:List cz}{ss:List Sys}{i:Nat}(h: ∀r∈xs,r.b.v.length=8): ∀z∈preB xs ss i,z.v.length=8:=by intro z hz;obtain⟨r,hr,rfl⟩:=aN.1 hz;rw[p8,h r (oY hr)]
def RO (b:aQ)(ss:List Sys)(k:Nat):aQ:=⟨b.k,(ss.take k).foldl (Jm b) b.v⟩
theorem abV (b:aQ)(ss:List Sys):RO b ss ss.length=iz b ss:=by unfold RO iz;rw[cD]
theorem agE {b:aQ}(hb:b.v.length=8)(ss:List Sys)(k:Nat):(RO b ss k).v.length=8:=(p8 b (ss.take k)).trans hb
def ZR (v:aQ)(d:aQ)(l:List Nat)(m:Nat):aQ:=⟨v.k,rX d (l.take m) v.v⟩
theorem agn {v:aQ}(hv:v.v.length=8)(d:aQ)(l:List Nat)(m:Nat):(ZR v d l m).v.length=8:=(xP d (l.take m) v.v).trans hv
theorem X2 (v d:aQ){l:List Nat}{m:Nat}(hm:m<l.length):ZR v d l (m+1)=⟨(ZR v d l m).k,(ZR v d l m).v.set l[m] (d.v.getD l[m] 0)⟩:=by unfold ZR rX;rw[aR hm,oc];rfl
theorem aa7 (b:aQ)(ss:List Sys){k:Nat}(hk:k<ss.length):ZR (RO b ss k) (cq b ss[k]) (kinds ss[k].write.toNat) (kinds ss[k].write.toNat).length=RO b ss (k+1):=by unfold ZR RO;rw[cD,aR hk,oc];rfl
theorem zg {G:Nat->Prop}{w0 w:ah}{l:List bT}{A:Option Addr}{c:Nat}{xs:List cz}(h:In G w0 (cE (.slice A xs.length c) xs::l) w)(h8: ∀r∈xs,r.b.v.length=8){i:Nat}(hi:i<xs.length): ∃g,A=ae ⟨g,0,ai⟩/\row? w g (i *11) 11=ae (ints xs[i].list):=by obtain⟨g,e,_,hr⟩:=Yg D3 h.own hi;refine⟨g,e,hr.trans ?_⟩;have:uF xs[i]=xs[i].list:=RF (h8 _ (aU hi));unfold D2;rw[this];rfl
theorem RR {G:Nat->Prop}{w0 w:ah}{l:List bT}{A:Option Addr}{c:Nat}{ss:List Sys}(h:In G w0 (nl (.slice A ss.length c) ss::l) w){i:Nat}(hi:i<ss.length): ∃g,A=ae ⟨g,0,ai⟩/\row? w g (i *7) 7=ae (ints ss[i].list):=by obtain⟨g,e,_,hr⟩:=Yg Y5 h.own hi;exact⟨g,e,hr⟩
theorem Mr (n:Nat)(hn:n<=1000)(w:ah):(Instr.makeSlice 100 (.int .i64 (n:Int)) (.int .i64 (n:Int))).run Tryz.prog w=.ok (.slice (ae ⟨w.heap.size,0,ai⟩) n n) (w.alloc (.cells (ints (gH (bZ n n9))) 48)):=by
 obtain⟨i,hi,hz,hs,LH⟩:=info_parts yp;rw[run_make w _ _ i _ Tryz.underlying100 hi hz .i64 .i64 n n (by omega) (by omega) (by rw[LH];omega) (by omega),<-KY];congr 2;congr 1;have hz9: ∀k:Nat,(ints [0,0,0,0,0,0,0,0,0])[k % 9]! =.int .i64 0:=λk=>by rcases(by omega:k % 9=0\/k % 9=1\/k % 9=2\/k % 9=3\/k % 9=4\/k % 9=5\/k % 9=6\/k % 9=7\/k % 9=8)with e|e|e|e|e|e|e|e|e<;>rw[e]<;>rfl
 have hm: ∀n':Nat,madeCells (ints [0,0,0,0,0,0,0,0,0]) n'=ints (bZ n' 0):=λn'=>by unfold madeCells;rw[show(λx:Nat=>(ints [0,0,0,0,0,0,0,0,0])[x % (ints [0,0,0,0,0,0,0,0,0]).size]!)=λ_=>aZ .i64 0 from funext λj=>hz9 j];refine Array.ext (by simp[bJ]) λj h1 h2=>by simp[ints]
 refine(hm _).trans ?_;rw[hs];rfl
theorem CS {w:ah}{g o n j:Nat}{xs:List Int}{x:Int}(h:row? w g o n=ae (ints xs))(hn:xs.length=n)(hj:xs[j]? =ae x):w.cell? ⟨g,o+j,ai⟩=ae (.int .i64 x):=by obtain⟨S4,rfl⟩:=bH.1 hj;have:=wD h j 1 (by omega);rw[List.drop_eq_getElem_cons S4,List.take_succ_cons,List.take_zero]at this;exact su this
theorem In.ac' {G:Nat->Prop}{w0 w:ah}{l:List bT}{g:Nat}{bs:List aQ}(h:In G w0 (bg g 48 (ints (gH bs))::l) w)(h8: ∀b∈bs,b.v.length=8)(hn:bs.length<=1000):In G w0 (ng (.slice (ae ⟨g,0,ai⟩) bs.length bs.length) bs::l) w:=by
 refine h.ah2 λF hs=> ?_
 obtain⟨F1,F2,⟨h1,h2⟩,h3,h4,h5⟩:=hs;have hl:=sq bs h8;have e:bs.flatMap N9=(gH bs).map (aZ .i64):=by unfold gH;rw[List.map_flatMap];rfl
 refine⟨F1,F2,⟨⟨by rw[e,List.length_map,hl],.inr ⟨g,bs.length,_,rfl,bS _,h1,az _,by unfold maxLen;omega,by rw[bJ,hl],?_⟩⟩,λk hk=> ?_⟩,h3,h4,h5⟩
 ·rw[e,iH,cI (by rw[List.length_map,hl];exact az _)]
 ·injection hk with hk;exact hk▸h2
end
section
open Rel
open Go.RowKit
noncomputable def zK:Code:=match Tryz.f41.body with|some (.seq _ (.seq _ (.seq _ x)))=>x|_=>.skip
section
variable {G:Nat->Prop} {w0 w:ah} {l:List bT} {Pb B4 B5 B7:Nat} {A A':Option Addr} {c c':Nat} {xs:List cz} {ss:List Sys} {hn:Int} {fv:aq}
theorem abD (hl:vO l)(h8: ∀r∈xs,r.b.v.length=8)(hlen:xs.length<=60)(hle:ss.length<=20)(XC: ∀s∈ss,eQ s=0)(h:In G w0 (mF Pb (ss.map λs=>xs.map λr=>cq r.b s)::bg B7 158 #[.slice (ae ⟨Pb,0,ai⟩) ss.length ss.length]::bg B5 23 #[.slice A' ss.length c']::bg B4 33 #[.slice A xs.length c]::cE (.slice A xs.length c) xs::nl (.slice A' ss.length c') ss::l) w):zK.wp Tryz.prog (yz Tryz.prog Tryz.f41 λv w'=>jM G w0 (ng v (xs.map λr=>iz r.b ss)::cE (.slice A xs.length c) xs::nl (.slice A' ss.length c') ss::l) w') ⟨#[.int .i64 hn,.slice A xs.length c,.slice A' ss.length c',undef,ptr B4,ptr B5,.slice ai 0 0,ptr B7,undef,undef,undef,undef,undef,undef,undef,.slice A' ss.length c',(.int .i64 ss.length),(.slice (ae ⟨Pb,0,ai⟩) ss.length ss.length),(.int .i64 hn),.slice A' ss.length c',(.int .i64 ss.length),fv,(.tuple #[]),undef,undef,undef,undef,undef,undef,undef,undef,undef,undef,undef,undef,undef,undef,undef,undef,undef,undef,undef,undef,undef,undef,undef,undef,undef,undef,undef,undef,undef,undef,undef,undef,undef,undef,undef,undef,undef,undef,undef,undef,undef,undef,undef,undef,undef,undef,undef,undef,undef,undef],[]⟩ w:=by
 have k9:=af h;have c7:w.cell? ⟨B7,0,ai⟩=ae (.slice (ae ⟨Pb,0,ai⟩) ss.length ss.length):=h.swap.blk.cell 0;have c5:w.cell? ⟨B5,0,ai⟩=ae (.slice A' ss.length c'):=h.third.blk.cell 0;have c4:w.cell? ⟨B4,0,ai⟩=ae (.slice A xs.length c):=h.fourth.blk.cell 0;clear h;have aii:(xs.length:Int)<=60:=by omega
 have aih:(ss.length:Int)<=20:=by omega
 have U8:=λW=>Mr xs.length (by omega) W
 simp only[zK,Tryz.f41]
 go_upto_region 4 with(fail)
 refine cc (In G w0 (bg w.heap.size 48 (ints (gH (Aa xs ss 0)))::mF Pb (ss.map λs=>xs.map λr=>cq r.b s)::bg B7 158 #[.slice (ae ⟨Pb,0,ai⟩) ss.length ss.length]::bg B5 23 #[.slice A' ss.length c']::bg B4 33 #[.slice A xs.length c]::cE (.slice A xs.length c) xs::nl (.slice A' ss.length c') ss::l)) (by rw[show Aa xs ss 0=bZ xs.length n9 by simp[Aa]];exact k9.out.alloc _ _) ?_;generalize w.heap.size=g8;clear k9 c7 c5 c4;intro w1 hI;have pY:=af hI;have c4:w1.cell? ⟨B4,0,ai⟩=ae (.slice A xs.length c):=(hI.drop.fourth).blk.cell 0;clear hI
 go_wp2_with fail
 clear c4
 go_loopw [28] (λi w'=> ∃j:Nat,j<=xs.length/\i=.int .i64 j/\In G w0 (bg g8 48 (ints (gH (Aa xs ss j)))::mF Pb (ss.map λs=>xs.map λr=>cq r.b s)::bg B7 158 #[.slice (ae ⟨Pb,0,ai⟩) ss.length ss.length]::bg B5 23 #[.slice A' ss.length c']::bg B4 33 #[.slice A xs.length c]::cE (.slice A xs.length c) xs::nl (.slice A' ss.length c') ss::l) w') (λi _=>xs.length-(intOf i).toNat)
 case atStart=>exact⟨0,bS _,rfl,pY.out⟩
 case round=>
  clear pY;obtain⟨i,hi,rfl,hI⟩:=hrel;by_cases bE:i<xs.length
  ·have hiI:(i:Int)<xs.length:=by omega
   obtain⟨g,rfl,q1⟩:=zg (hI.nth 5 (by simp)) h8 bE;have I':(xs[i]).list.length=11:=by simp[cz.list,aQ.list,h8 _ (aU bE)]
   have HI:=af hI;clear hI
   go_upto_region 7 with(fail)
   have hx:=HI.out.struct 50 [0,0,0,0,0,0,0,0,0,0,0] (xs[i]).list I';refine cc (In G w0 (bg wr.heap.size 50 (ints (xs[i]).list)::bg g8 48 (ints (gH (Aa xs ss i)))::mF Pb (ss.map λs=>xs.map λr=>cq r.b s)::bg B7 158 #[.slice (ae ⟨Pb,0,ai⟩) ss.length ss.length]::bg B5 23 #[.slice A' ss.length c']::bg B4 33 #[.slice (ae ⟨g,0,ai⟩) xs.length c]::cE (.slice (ae ⟨g,0,ai⟩) xs.length c) xs::nl (.slice A' ss.length c') ss::l)) ?_ ?_
   ·exact hx
   clear hx;generalize wr.heap.size=rb;clear HI q1;intro w2 hI;have U0:=h8 _ (aU bE);have q2:row? w2 rb 2 9=ae (ints (xs[i]).b.list):=by rw[hI.blk.eb 2 9 (by omega)];show ae (ints ((xs[i]).b.list.take 9))=_;rw[cI (by simp[aQ.list,U0])]
   have km:(gH (Aa xs ss i)).length=xs.length *9:=by
    rw[Hk ss bE,sq]
    ·simp[preB,sZ];omega
    ·intro z hz;rcases iV.1 hz with hz|hz
     ·exact Px h8 z hz
     ·rcases cy.1 hz with rfl|hz
      ·rfl
      ·rw[(List.mem_replicate.1 hz).2];rfl
   have q3:fits w2 g8 (i *9) 9=aA:=hI.swap.blk.fits (i *9) 9 (by rw[bJ,km];omega);have hb9:(xs[i]).b.list.length=9:=by simp[aQ.list,U0]
   have adP:=hI.swap.put (i *9) (xs[i]).b.list;have hsh:=Sr (post:=sZ xs i) (b:=n9) (b':=(xs[i]).b) (Px (ss:=ss) (i:=i) h8) rfl U0;rw[MM (by omega)]at hsh;rw[Hk ss bE,hsh]at adP;have HP:=af adP;clear hI km adP hsh
   go_upto_region 8 with(fail)
   refine cc (In G w0 (bg g8 48 (ints (gH (preB xs ss i++RO (xs[i]).b ss 0::sZ xs i)))::bg rb 50 (ints (xs[i]).list)::mF Pb (ss.map λs=>xs.map λr=>cq r.b s)::bg B7 158 #[.slice (ae ⟨Pb,0,ai⟩) ss.length ss.length]::bg B5 23 #[.slice A' ss.length c']::bg B4 33 #[.slice (ae ⟨g,0,ai⟩) xs.length c]::cE (.slice (ae ⟨g,0,ai⟩) xs.length c) xs::nl (.slice A' ss.length c') ss::l)) ?_ ?_
   ·exact HP.out
   clear HP q2 q3;intro w3 hI;have c5:w3.cell? ⟨B5,0,ai⟩=ae (.slice A' ss.length c'):=(hI.nth 4 (by simp)).blk.cell 0;have HI:=af hI;clear hI
   go_wp2_with fail
   clear c5;have NN:Hid ((xs[i]).b.v.length=8):=U0;have HSH:Hid (preB xs ss i++iz (xs[i]).b ss::sZ xs i=Aa xs ss (i+1)):=TA ss bE;have HPI:Hid ((ss.map λs=>xs.map λr=>cq r.b s)=ss.map λs=>xs.map λr=>cq r.b s):=rfl
   go_loopw [40] (λq w'=> ∃k:Nat,k<=ss.length/\q=.int .i64 k/\In G w0 (bg g8 48 (ints (gH (preB xs ss i++RO (xs[i]).b ss k::sZ xs i)))::bg rb 50 (ints (xs[i]).list)::mF Pb (ss.map λs=>xs.map λr=>cq r.b s)::bg B7 158 #[.slice (ae ⟨Pb,0,ai⟩) ss.length ss.length]::bg B5 23 #[.slice A' ss.length c']::bg B4 33 #[.slice (ae ⟨g,0,ai⟩) xs.length c]::cE (.slice (ae ⟨g,0,ai⟩) xs.length c) xs::nl (.slice A' ss.length c') ss::l) w') (λq _=>ss.length-(intOf q).toNat)
   case atStart=>exact⟨0,bS _,rfl,HI.out⟩
   case round=>
    clear HI;obtain⟨k,hk,rfl,hI⟩:=hrel;by_cases ZI:k<ss.length
    ·have hkI:(k:Int)<ss.length:=by omega
     obtain⟨gs,rfl,qs⟩:=RR (hI.nth 7 (by simp)) ZI;have HI:=af hI;clear hI
     go_upto_region 11 with(fail)
     have hx:=HI.out.struct 54 [0,0,0,0,0,0,0] (ss[k]).list rfl;refine cc (In G w0 (bg wr.heap.size 54 (ints (ss[k]).list)::bg g8 48 (ints (gH (preB xs ss i++RO (xs[i]).b ss k::sZ xs i)))::bg rb 50 (ints (xs[i]).list)::mF Pb (ss.map λs=>xs.map λr=>cq r.b s)::bg B7 158 #[.slice (ae ⟨Pb,0,ai⟩) ss.length ss.length]::bg B5 23 #[.slice (ae ⟨gs,0,ai⟩) ss.length c']::bg B4 33 #[.slice (ae ⟨g,0,ai⟩) xs.length c]::cE (.slice (ae ⟨g,0,ai⟩) xs.length c) xs::nl (.slice (ae ⟨gs,0,ai⟩) ss.length c') ss::l)) ?_ ?_
     ·exact hx
     clear hx qs HI;generalize wr.heap.size=sb;intro w4 hI;have k4:w4.cell? ⟨sb,4,ai⟩=ae (.int .i64 (ss[k]).write):=hI.blk.cell 4;have XG:=(qS (XC _ (aU ZI))).2;have HM8:Hid (eE (m8 (ss[k]).write)=eE (ss[k]).write.toNat):=by unfold cT at XG;simp only[aM,decide_eq_true_eq]at XG;unfold Hid;rw[Rf XG]
     have HI:=af hI;clear hI XG
     go_wp2_with fail
     refine(vm _ _).mono ?_;rintro e w5 ⟨v,rfl,ho,gV⟩;rw[HM8.out]at ho;have gd:=af (In.wo HI.out ho gV);obtain⟨A2,c2,rfl,Ja⟩:=gd.out.kX;have hlen:(eE (ss[k]).write.toNat).length=(kinds (ss[k]).write.toNat).length:=by simp[eE]
     rw[hlen]at Ja gd⊢;have hn8:=pQ (ss[k]).write.toNat;clear ho gV Ja HI k4 hlen HM8;have gm:=af gd.out.third;have KH:Hid (ZR (RO (xs[i]).b ss k) (cq (xs[i]).b ss[k]) (kinds ss[k].write.toNat) (kinds ss[k].write.toNat).length=RO (xs[i]).b ss (k+1)):=aa7 _ ss ZI;clear gd
     go_wp2_with fail
     go_loopw [49] (λq w'=> ∃m:Nat,m<=(kinds (ss[k]).write.toNat).length/\q=.int .i64 m/\In G w0 (bg g8 48 (ints (gH (preB xs ss i++ZR (RO (xs[i]).b ss k) (cq (xs[i]).b ss[k]) (kinds ss[k].write.toNat) m::sZ xs i)))::da (.slice A2 (kinds (ss[k]).write.toNat).length c2) (eE (ss[k]).write.toNat)::bg sb 54 (ints (ss[k]).list)::bg rb 50 (ints (xs[i]).list)::mF Pb (ss.map λs=>xs.map λr=>cq r.b s)::bg B7 158 #[.slice (ae ⟨Pb,0,ai⟩) ss.length ss.length]::bg B5 23 #[.slice (ae ⟨gs,0,ai⟩) ss.length c']::bg B4 33 #[.slice (ae ⟨g,0,ai⟩) xs.length c]::cE (.slice (ae ⟨g,0,ai⟩) xs.length c) xs::nl (.slice (ae ⟨gs,0,ai⟩) ss.length c') ss::l) w') (λq _=>(kinds (ss[k]).write.toNat).length-(intOf q).toNat)
     case atStart=>exact⟨0,bS _,rfl,gm.out⟩
     case round=>
      clear gm;obtain⟨m,hm,rfl,hI⟩:=hrel;by_cases OI:m<(kinds (ss[k]).write.toNat).length
      ·have hmI:(m:Int)<(kinds (ss[k]).write.toNat).length:=by omega
       have hlen:(eE (ss[k]).write.toNat).length=(kinds (ss[k]).write.toNat).length:=by simp[eE]
       obtain⟨A3,c3,e0,hr⟩:=hI.swap.kX;rw[hlen]at e0 hr;injection e0 with e1 e2 e3
       subst e1;subst e3;obtain⟨bl,o,q,rfl,hc,zG,Xm,sK,OT⟩:=vj hr OI;have hq:(kinds (ss[k]).write.toNat)[m]=q:=by rw[zG.out];simp[bp,OI]
       have HS:=af (X2 (RO (xs[i]).b ss k) (cq (xs[i]).b ss[k]) OI);rw[hq]at HS;have qW:=hI.nth 5 (by simp);have c7:wr.cell? ⟨B7,0,ai⟩=ae (.slice (ae ⟨Pb,0,ai⟩) ss.length ss.length):=qW.blk.cell 0;have hpk:(ss.map λs=>xs.map λr=>cq r.b s)[k]? =ae (xs.map λr=>cq r.b ss[k]):=by rw[dK,ao ZI];rfl
       obtain⟨gp,cp,cP,qP⟩:=In.part (hI.nth 4 (by simp)) hpk (λz hz=>by obtain⟨r,hr,rfl⟩:=aN.1 hz;rw[fM];exact h8 r hr) (i:=i) (by simpa using bE);rw[List.length_map]at cP;rw[List.getElem_map]at qP;have hd8:(cq (xs[i]).b ss[k]).v.length=8:=by rw[fM];exact NN.out
       have cV:wr.cell? ⟨gp,i *9+1+q,ai⟩=ae (.int .i64 ((cq (xs[i]).b ss[k]).v.getD q 0)):=by rw[Nat.add_assoc];refine CS qP (by simp[aQ.list,hd8]) ?_;rw[dt 1 q];simp[aQ.list,bp,ao (show q<(cq (xs[i]).b ss[k]).v.length by omega)]
       have hp8:=Px (ss:=ss) (i:=i) h8;have hm8:=agn (agE NN.out ss k) (cq (xs[i]).b ss[k]) (kinds ss[k].write.toNat) m;have LS:(preB xs ss i).length=i:=MM (by omega);have rh:=Ob (post:=sZ xs i) hp8 hm8 sK;rw[LS]at rh;have cO:wr.cell? ⟨g8,i *9+1+q,ai⟩=ae (.int .i64 ((ZR (RO (xs[i]).b ss k) (cq (xs[i]).b ss[k]) (kinds ss[k].write.toNat) m).v.getD q 0)):=by rw[hI.blk.cell,kM,rh];rfl
       have cF:wr.frozen? ⟨g8,i *9+1+q,ai⟩=aw:=hI.blk.frozen _;have BP:=hI.set (i *9+1+q) (.int .i64 ((cq (xs[i]).b ss[k]).v.getD q 0));have hbs:=Ss (post:=sZ xs i) hp8 hm8 sK ((cq (xs[i]).b ss[k]).v.getD q 0);rw[LS]at hbs;rw[ints_set,hbs,<-HS.out]at BP;have CH:=af BP;have hqI:(q:Int)<8:=by omega
       clear hI qW BP hbs rh hm8 hp8 LS hd8 qP hpk hq zG Xm OT hr HS e2 hlen;generalize (cq (xs[i]).b ss[k]).v.getD q 0=nv at *
       go_upto_region 14 with(fail)
       go_still_tail 16,(by kernel_rfl)
       repeat still_step
       change wpList _ _ _ _ _ wr.drew;have HD:Hid (In G w0 (bg g8 48 _::_) (wr.setCell ⟨g8,i *9+1+q,ai⟩ (.int .i64 nv)).drew):=CH.out.drew
       go_wp2_with fail
       refine⟨⟨m+1,by omega,by go_num,HD.out⟩,?_⟩;simp[intOf];omega
      ·have:m=(kinds (ss[k]).write.toNat).length:=by omega
       subst this;rw[KH.out]at hI;have HI:=af (hI.swap.drop.swap.drop);clear hI
       go_wp2_with fail
       refine⟨?_,?mk⟩
       (repeat apply Exists.intro)
       refine⟨?rk,rfl⟩
       case rk=>exact⟨k+1,by omega,by go_num,HI.out⟩
       case mk=>simp[intOf];omega
    ·have:k=ss.length:=by omega
     subst this;rw[abV,HSH.out]at hI;have HI:=af hI.swap.drop;clear hI
     go_wp2_with fail
     go_roundw
     case rel=>exact⟨i+1,by omega,by go_num,HI.out⟩
     case measure=>simp[intOf];omega
  ·have:i=xs.length:=by omega
   subst this;have hob:Aa xs ss xs.length=xs.map λr=>iz r.b ss:=by simp[Aa]
   rw[hob]at hI;have hx:=(In.ac' hI (by intro z hz;obtain⟨r,hr,rfl⟩:=aN.1 hz;rw[p8];exact h8 r hr) (by rw[List.length_map];omega)).reorder 5 [1,2,3,4,0] rfl (by simp);rw[List.length_map]at hx;have HI:=af (hx.drop.drop.drop.drop);clear hI hob hx
   go_wp2_with fail
   refine⟨.inr rfl,rfl,_,λtp d=>results_tmp rfl _ _ _,λtp d=> ?_⟩;exact jM.of (HI.out.dB (vO.cons (dP.hp _ _ _ _ _) (vO.cons (dP.hp _ _ _ _ _) (vO.cons (dP.hp _ _ _ _ _) hl))) tp 0 d)
end
end
section
open Rel
open Go.Conc Go.ConcN
open Go.ConcR (Payload WgAt)
open Go.RowKit
theorem Pe (n:Nat)(hn:n<=1000)(w:ah):(Instr.makeSlice 158 (.int .i64 (n:Int)) (.int .i64 (n:Int))).run Tryz.prog w=.ok (.slice (ae ⟨w.heap.size,0,ai⟩) n n) (w.alloc (.cells (bZ n (dZ ai 0 0)).toArray 100)):=by
 have hi: ∃i,Tryz.prog.info? 100=ae i/\i.zero=ae (.slice ai 0 0)/\i.size=1/\i.bytes=24:=⟨_,rfl,rfl,rfl,rfl⟩;obtain⟨i,hi,hz,hs,LH⟩:=hi;rw[run_make w _ _ i _ Tryz.underlying158 hi hz .i64 .i64 n n (by omega) (by omega) (by rw[LH];omega) (by omega)];congr 2;congr 1;rw[hs,Nat.mul_one];refine Array.ext (by simp[madeCells]) λj h1 h2=> ?_
 simp[madeCells,iy,Nat.mod_one]
theorem Pv {O:uO}{bd:bQ->List Tmp}{old Pb N:Nat}{xs:List cz}{ss:List Sys}{w':ah}(hf:fz w' Pb=ae (100,ss.length,0,0))(hp: ∀p,p<ss.length-> ∃o:Nat->Prop,(∀r,o r->N<=r/\r<w'.heap.size)/\jpB (cfg bd old).sig Pb xs ss o p w'): ∃V:Nat->Prop,(∀r,V r->N<=r/\r<w'.heap.size)/\ ∀r,r=Pb\/V r-> ∃o,w'.heap[r]? =ae o/\ku (mX O).sig (only V) o o:=by
 have key: ∀p,∃x:aq×(Nat->Prop),p<ss.length->(∀r,x.2 r->N<=r/\r<w'.heap.size)/\(∀r,x.2 r-> ∃ob,w'.heap[r]? =ae ob/\ku (cfg bd old).sig (only x.2) ob ob)/\w'.cell? ⟨Pb,p,ai⟩=ae x.1/\bx (cfg bd old).sig (only x.2) x.1 x.1:=by
  intro p;by_cases h:p<ss.length
  ·obtain⟨o,ho,v,hc,V,g1,g2,g3,_⟩:=hp p h;exact⟨(v,V),λ_=>⟨λr hr=>ho r (g1 r hr),g2,hc,g3⟩⟩
  ·exact⟨(undef,λ_=>False),λhh=>absurd hh h⟩
 obtain⟨f,sp⟩:=Classical.axiomOfChoice key;have ext: ∀p,p<ss.length->Ext Tryz.prog (only (f p).2) (only λr=> ∃p,p<ss.length/\(f p).2 r):=λp hh=>⟨λa b h=>⟨h.1,p,hh,h.2⟩,Cn⟩
 refine⟨λr=> ∃p,p<ss.length/\(f p).2 r,λr ⟨p,h,hr⟩=>(sp p h).1 r hr,λr hr=> ?_⟩;rcases hr with rfl|⟨p,h,hr⟩
 ·unfold fz at hf;cases hh:w'.heap[r]? with
  |none=>rw[hh]at hf;cases hf
  |some o=>
   rw[hh]at hf;cases o with
   |cells cs t fr=>
    refine⟨_,rfl,.cells t fr ⟨rfl,λi a b ha hb=> ?_⟩⟩;rw[ha]at hb;cases hb;have hi:i<ss.length:=by have bE:=(aL.1 ha).1;simp at hf;omega
    obtain⟨_,_,hc,hv⟩:=sp i hi;unfold c8 at hc;rw[hh]at hc;simp only[Option.isSome_none,e9,if_false]at hc;rw[ha]at hc;injection hc with hc
    rw[<-hc]at hv;exact bx.sig (S:=(cfg bd old).sig) (S':=(mX O).sig) (λ_ h=>h) (hv.mono (ext i hi))
   |_=>cases hf
 ·obtain⟨ob,e1,e2⟩:=(sp p h).2.1 r hr;exact⟨ob,e1,ad6 (e2.mono (ext p h))⟩
theorem zP {S:jy}{π:Ren}{w:ah}{g:Nat}{t:aF}{v:aq}(hb:dq w g t #[v])(Xr: ∃o,w.heap[g]? =ae o/\ku S π o o):bx S π v v:=by
 obtain⟨o,e1,e2⟩:=Xr;unfold dq at hb;rw[hb]at e1;cases e1;cases e2 with
 |cells _ _ hc=>exact hc.at_ 0 v v rfl rfl
theorem jM.same {G:Nat->Prop}{l:List bT}{w0 w:ah}{tp:Nat->Question->Nat}{d:Nat}(h:jM G (Rel.dB w0 tp d) l w):jM G w0 l w:=by unfold jM at h;rw[Rel.ab1]at h;exact jM.of h
theorem IW {P:aS}{F:Func}{R R':aq->ah->Prop}{x:Code}{a:Act}{w:ah}(h:x.wp P (yz P F R) a w)(hr: ∀v w,R v w->R' v w):x.wp P (yz P F R') a w:=Code.wp_mono (λ_ _ _ ⟨h1,h2,v,h3,h4⟩=>⟨h1,h2,v,h3,λtp d=>hr _ _ (h4 tp d)⟩) h
section
variable {O:uO} {Post:aq->ah->Prop} {G:Nat->Prop} {w0 w:ah} {l:List bT} {A A':Option Addr} {c c':Nat} {xs:List cz} {ss:List Sys} {hn:Nat}
theorem ac9 (hold:O.n<=w.heap.size)(hl:vO l)(h8: ∀r∈xs,bK r.b=0/\r.b.v.length=8)(hlen:xs.length<=60)(hle:ss.length<=20)(XC: ∀s∈ss,eQ s=0)(hn1:1<=hn)(hn8:hn<=8)(h:jM G w0 (cE (.slice A xs.length c) xs::nl (.slice A' ss.length c') ss::l) w):uL Tryz.prog (mX O) Post 41 #[.int .i64 hn,.slice A xs.length c,.slice A' ss.length c'] w λv w'=>jM G w0 (ng v (xs.map λr=>iz r.b ss)::cE (.slice A xs.length c) xs::nl (.slice A' ss.length c') ss::l) w':=by
 have afU:(ss.length:Int)<=20:=by omega
 refine⟨_,_,Tryz.func41,rfl,rfl,rfl,?_⟩;have hF:=nU O;have yf:Tryz.f41.ntmps=73:=rfl;simp only[yf,ec,dJ,cL,au,aj,ax,Nat.reduceAdd,Nat.reduceSub,dR,dS,eX];have QQ:Tryz.f41.body=ae (match Tryz.f41.body with|some x=>x|none=>.skip):=rfl;simp only[Tryz.f41];refine ca (aiL ?_);refine aJ hF (w':=w.alloc (.cells #[.slice A xs.length c] 33)) (v:=ptr w.heap.size) rfl rfl (by kernel_rfl) ⟨rfl,rfl⟩ (λtp d=>by go_simp;exact⟨rfl,rfl⟩) ?_;walk_nrm;refine aJ hF (w':=(w.alloc (.cells #[.slice A xs.length c] 33)).alloc (.cells #[.slice A' ss.length c'] 23)) (v:=ptr (w.heap.size+1)) rfl rfl (by kernel_rfl) ⟨rfl,rfl⟩ (λtp d=>by go_simp;exact⟨by simp[Rel.dB],rfl⟩) ?_;walk_nrm;refine aeK hF (w':=(w.alloc (.cells #[.slice A xs.length c] 33)).alloc (.cells #[.slice A' ss.length c'] 23)) (v:=.slice ai 0 0) ?_;walk_nrm;refine cY ?_;have gX:jM G w0 (bg (w.heap.size+1) 23 #[.slice A' ss.length c']::bg w.heap.size 33 #[.slice A xs.length c]::cE (.slice A xs.length c) xs::nl (.slice A' ss.length c') ss::l) ((w.alloc (.cells #[.slice A xs.length c] 33)).alloc (.cells #[.slice A' ss.length c'] 23)):=by have h1:jM G w0 (bg w.heap.size 33 #[.slice A xs.length c]::cE (.slice A xs.length c) xs::nl (.slice A' ss.length c') ss::l) (w.alloc (.cells #[.slice A xs.length c] 33)):=In.alloc h _ _;have h2:=In.alloc (show In G _ _ (w.alloc (.cells #[.slice A xs.length c] 33))from h1) 23 #[.slice A' ss.length c'];rw[cQ]at h2;exact h2
 have xJ:((w.alloc (.cells #[.slice A xs.length c] 33)).alloc (.cells #[.slice A' ss.length c'] 23)).heap.size=w.heap.size+2:=by simp
 have hgA: ∀ad,A=ae ad->ad.block<w.heap.size:=λad e=>Jw (In.own h) ad.block (by rw[e];rfl)
 have afL: ∀ad,A'=ae ad->ad.block<w.heap.size:=λad e=>Jw (In.own (In.drop h)) ad.block (by rw[e];rfl)
 clear h;generalize (w.alloc (.cells #[.slice A xs.length c] 33)).alloc (.cells #[.slice A' ss.length c'] 23)=w2 at *;have c5: ∀tp d,(Rel.dB w2 tp d).cell? ⟨w.heap.size+1,0,ai⟩=ae (.slice A' ss.length c'):=λtp d=>gX.blk.cell 0
 have U8:=λW=>Pe ss.length (by omega) W
 show eJ _ _ _ _ _ _ _ w2;refine ca (aiL ?_);refine aJ hF (w':=w2) (v:=.slice A' ss.length c') rfl rfl (by kernel_rfl) ⟨rfl,rfl⟩ (λtp d=>by have hc:=c5 tp d;go_simp) ?_;walk_nrm;refine S1 hF (.int .i64 ss.length) ?_;walk_nrm;refine aJ hF (w':=w2.alloc (.cells (bZ ss.length (dZ ai 0 0)).toArray 100)) (v:=.slice (ae ⟨w.heap.size+2,0,ai⟩) ss.length ss.length) rfl rfl (by kernel_rfl) ⟨rfl,rfl⟩ (λtp d=>by have hm:=U8 (Rel.dB w2 tp d);go_simp;exact⟨xJ,rfl⟩) ?_;walk_nrm;refine aJ hF (w':=(w2.alloc (.cells (bZ ss.length (dZ ai 0 0)).toArray 100)).alloc (.cells #[.slice ai 0 0] 158)) (v:=ptr (w.heap.size+3)) rfl rfl (by kernel_rfl) ⟨rfl,rfl⟩ (λtp d=>by go_simp;exact⟨by simp[Rel.dB,xJ],rfl⟩) ?_;walk_nrm;have fX:jM G w0 (bg (w.heap.size+3) 158 #[.slice ai 0 0]::bg (w.heap.size+2) 100 (bZ ss.length (dZ ai 0 0)).toArray::bg (w.heap.size+1) 23 #[.slice A' ss.length c']::bg w.heap.size 33 #[.slice A xs.length c]::cE (.slice A xs.length c) xs::nl (.slice A' ss.length c') ss::l) ((w2.alloc (.cells (bZ ss.length (dZ ai 0 0)).toArray 100)).alloc (.cells #[.slice ai 0 0] 158)):=by have h1:=In.alloc (show In G _ _ w2 from gX) 100 (bZ ss.length (dZ ai 0 0)).toArray;have h2:=In.alloc h1 158 #[.slice ai 0 0];rw[cQ,xJ]at h2;exact h2
 have hs4:((w2.alloc (.cells (bZ ss.length (dZ ai 0 0)).toArray 100)).alloc (.cells #[.slice ai 0 0] 158)).heap.size=w.heap.size+4:=by simp[xJ]
 clear gX c5 U8;generalize (w2.alloc (.cells (bZ ss.length (dZ ai 0 0)).toArray 100)).alloc (.cells #[.slice ai 0 0] 158)=w4 at *;clear xJ;clear w2;have k1: ∀tp d,(Rel.dB w4 tp d).cell? ⟨w.heap.size+3,0,ai⟩=ae (.slice ai 0 0):=λtp d=>fX.blk.cell 0
 have k2: ∀tp d,(Rel.dB w4 tp d).frozen? ⟨w.heap.size+3,0,ai⟩=aw:=λtp d=>fX.blk.frozen 0
 refine wx hF (w':=w4.setCell ⟨w.heap.size+3,0,ai⟩ (.slice (ae ⟨w.heap.size+2,0,ai⟩) ss.length ss.length)) rfl rfl (by kernel_rfl) (λtp d=>by have h1:=k1 tp d;have h2:=k2 tp d;go_simp;rfl) ?_;walk_nrm;refine cY ?_;have eH:jM G w0 (bg (w.heap.size+2) 100 (bZ ss.length (dZ ai 0 0)).toArray::bg (w.heap.size+3) 158 #[.slice (ae ⟨w.heap.size+2,0,ai⟩) ss.length ss.length]::bg (w.heap.size+1) 23 #[.slice A' ss.length c']::bg w.heap.size 33 #[.slice A xs.length c]::cE (.slice A xs.length c) xs::nl (.slice A' ss.length c') ss::l) (w4.setCell ⟨w.heap.size+3,0,ai⟩ (.slice (ae ⟨w.heap.size+2,0,ai⟩) ss.length ss.length)):=In.swap (In.set (show In G _ _ w4 from fX) 0 (.slice (ae ⟨w.heap.size+2,0,ai⟩) ss.length ss.length))
 have hs5:(w4.setCell ⟨w.heap.size+3,0,ai⟩ (.slice (ae ⟨w.heap.size+2,0,ai⟩) ss.length ss.length)).heap.size=w.heap.size+4:=by simp[hs4]
 clear fX k1 k2;generalize w4.setCell ⟨w.heap.size+3,0,ai⟩ (.slice (ae ⟨w.heap.size+2,0,ai⟩) ss.length ss.length)=w5 at *;clear hs4;clear w4;have hB:dq w5 (w.heap.size+2) 100 (bZ ss.length (dZ ai 0 0)).toArray:=eH.blk;have b7:dq w5 (w.heap.size+3) 158 #[.slice (ae ⟨w.heap.size+2,0,ai⟩) ss.length ss.length]:=(In.swap eH).blk;have b5:dq w5 (w.heap.size+1) 23 #[.slice A' ss.length c']:=(In.third eH).blk;have b4:dq w5 w.heap.size 33 #[.slice A xs.length c]:=(In.fourth eH).blk;have c5: ∀tp d,(Rel.dB w5 tp d).cell? ⟨w.heap.size+1,0,ai⟩=ae (.slice A' ss.length c'):=λtp d=>b5.cell 0
 show eJ _ _ _ _ _ _ _ w5;refine ca (aiL ?_);refine S1 hF (.int .i64 hn) ?_;walk_nrm;refine aJ hF (w':=w5) (v:=.slice A' ss.length c') rfl rfl (by kernel_rfl) ⟨rfl,rfl⟩ (λtp d=>by have hc:=c5 tp d;go_simp) ?_;walk_nrm;refine S1 hF (.int .i64 ss.length) ?_;walk_nrm;refine Yf (v:=.func (.func 92) #[] #[ptr w.heap.size,ptr (w.heap.size+3),ptr (w.heap.size+1)]) rfl rfl (λtp d=>by go_simp) (λtp d e he=>by simp[go_sem, *]at he) (.inr ⟨21,rfl,by show 21∈bdM 41;decide,trivial⟩) ?_;walk_nrm;have hPb:fz w5 (w.heap.size+2)=ae (100,ss.length,0,0):=by unfold fz;unfold dq at hB;rw[hB];simp
 refine Tz (J:=sn (cfg (λ_=>[]) 0).sig (w.heap.size+2) xs ss) (NR:=λr=>r=w.heap.size\/r=w.heap.size+3\/r=w.heap.size+1\/(∃ad,A=ae ad/\r=ad.block)\/ ∃ad,A'=ae ad/\r=ad.block) (n:=hn) (nj:=ss.length) (jf:=92) (caps:= #[ptr w.heap.size,ptr (w.heap.size+3),ptr (w.heap.size+1)]) (by show O.n<=_;omega) rfl rfl rfl rfl rfl rfl hn1 hn8 (by omega) (IG _ _ _ _) (λr hr=>by have:r=w.heap.size+2:=hr;omega) (λπ hs Xr ht=> ?_) (λr hr hc=> ?_) (λp hp=> ?_) (λφ wp O' hP hnj Xi vY ry hJ0 hJP hRd wZ hg bE=> ?_) ?_
 ·have see: ∀(i:Nat) v,i∉bdM 41->(Act.tmps _)[i]? =ae v->bx (mX O).sig π v v:=λi v hi hv=>(ht.at_ i v v hv hv).resolve_right λh=>hi h.1
  have s4:=see 4 (ptr w.heap.size) (by decide) rfl;have s5:=see 5 (ptr (w.heap.size+1)) (by decide) rfl;have s7:=see 7 (ptr (w.heap.size+3)) (by decide) rfl;have blk: ∀r,bx (mX O).sig π (ptr r) (ptr r)->π r r:=λr h=>by
   cases h with
   |pointer ha=>exact ha.block
  have p4:=blk _ s4;have p5:=blk _ s5;have p7:=blk _ s7;have q4:=zP b4 (Xr _ p4);have q5:=zP b5 (Xr _ p5);have q7:=zP b7 (Xr _ p7);refine⟨λr hr=> ?_,λr hr=> ?_⟩
  ·rcases hr with rfl|rfl|rfl|⟨ad,e,rfl⟩|⟨ad,e,rfl⟩
   ·exact p4
   ·exact p7
   ·exact p5
   ·rw[e]at q4;cases q4 with
    |slice _ _ ha=>exact ha.block
   ·rw[e]at q5;cases q5 with
    |slice _ _ ha=>exact ha.block
  ·have e:r=w.heap.size+2:=hr;rw[e];cases q7 with
   |slice _ _ ha=>exact ha.block
 ·have e:r=w.heap.size+2:=hc;rcases hr with h|h|h|⟨ad,e1,h⟩|⟨ad,e1,h⟩
  ·omega
  ·omega
  ·omega
  ·have:=hgA ad e1;omega
  ·have:=afL ad e1;omega
 ·show w5.cell? ⟨w.heap.size+2,p,ai⟩=ae (.slice ai 0 0);rw[hB.cell];simp[hp]
 ·have fY: ∀r,r<w.heap.size+4->wp.heap[r]? =w5.heap[r]?:=λr hr=>wZ r (by omega)
  refine adY (xs:=xs) (ss:=ss) (Pb:=w.heap.size+2) (bd:=λ_=>[]) (old:=0) (pq:=.slice A xs.length c) (B9:=.slice A' ss.length c') O' hP hnj Xi ry hJ0 hJP hg bE ⟨hRd _ (.inl rfl),?_,hRd _ (.inr (.inl rfl)),?_,hRd _ (.inr (.inr (.inl rfl))),?_,⟨A,c,rfl,λj hj=> ?_⟩,⟨A',c',rfl,λj hj=> ?_⟩,?_,h8,XC,hlen,hle⟩
  ·exact(c9 (fY _ (by show w.heap.size<_;omega))).trans (b4.cell 0)
  ·exact(c9 (fY _ (by show w.heap.size+3<_;omega))).trans (b7.cell 0)
  ·exact(c9 (fY _ (by show w.heap.size+1<_;omega))).trans (b5.cell 0)
  ·have hI:=In.drop (In.drop (In.drop (In.drop eH)));obtain⟨g,e,hr⟩:=zg hI (λr hr=>(h8 r hr).2) hj;have:=hgA _ e;exact⟨g,e,hRd _ (.inr (.inr (.inr (.inl ⟨_,e,rfl⟩)))),(wC (fY g (by simp at this;omega)) _ _).trans hr⟩
  ·have hI:=In.drop (In.drop (In.drop (In.drop (In.drop eH))));obtain⟨g,e,hr⟩:=RR hI hj;have:=afL _ e;exact⟨g,e,hRd _ (.inr (.inr (.inr (.inr ⟨_,e,rfl⟩)))),(wC (fY g (by simp at this;omega)) _ _).trans hr⟩
  ·unfold fz;rw[fY _ (by omega)];exact hPb
 ·intro w6 Kt hj6;obtain⟨V,e1,e2⟩:=Pv (O:=O) (N:=w5.heap.size+4) ((Kt.shape _ rfl).trans hPb) hj6;refine⟨V,e1,e2,cY ?_⟩;have iC:=eH.behind Kt hj6;clear eH hj6 e1 e2 hB b7 b5 b4 c5 hPb;walk_nrm;have hx:dm ((mX O).at 41) zK=aA:=by kernel_rfl
  refine Sz hF hx λtp d=> ?_
  have hl6:vO (mF (w.heap.size+2) (ss.map λs=>xs.map λr=>cq r.b s)::bg (w.heap.size+3) 158 #[.slice (ae ⟨w.heap.size+2,0,ai⟩) ss.length ss.length]::bg (w.heap.size+1) 23 #[.slice A' ss.length c']::bg w.heap.size 33 #[.slice A xs.length c]::cE (.slice A xs.length c) xs::nl (.slice A' ss.length c') ss::l):=.cons (mF.hp _ _) (.cons (bg.hp _ _ _) (.cons (bg.hp _ _ _) (.cons (bg.hp _ _ _) (.cons (dP.hp _ _ _ _ _) (.cons (dP.hp _ _ _ _ _) hl)))))
  have hw:=abD (hn:=hn) (fv:=.func (.func 92) #[] #[ptr w.heap.size,ptr (w.heap.size+3),ptr (w.heap.size+1)]) hl (λr hr=>(h8 r hr).2) hlen hle XC (iC.at_ hl6 tp 0 d);have OU:=IW hw λv w' h=>jM.same h
  exact OU
end
end
section
open Go.RowKit
theorem ada {w w':ah}(e:w'.heap=w.heap){g:Nat}{t:aF}{cs:Array aq}(h:dq w g t cs):dq w' g t cs:=by unfold dq at h⊢;rw[e];exact h
theorem Wl {α:Type}{T E:aF}{size:Nat}{enc:α->List aq}{w w':ah}(e:w'.heap=w.heap){p:Nat}{xs:List α}{F:Nat->Prop}(h:iX T E size enc w p xs F):iX T E size enc w' p xs F:=by obtain⟨v,h1,h2,h3⟩:=h;exact⟨v,ada e h1,xS e h2,h3⟩
theorem Col.hp {α:Type}(T E:aF)(size:Nat)(enc:α->List aq)(p:Nat)(xs:List α):UR (Col T E size enc p xs):=λ_ _ _ e h=>Wl e h
theorem ux.hp {κ ν:Type}(ek:κ->aq)(ev:ν->aq)(good:κ->Prop)(b:Nat)(m:List (κ×ν)):UR (ux ek ev good b m):=λ_ _ _ e h=>by obtain⟨⟨es,clock,hb,h2⟩,h3⟩:=h;exact⟨⟨es,clock,by rw[e];exact hb,h2⟩,h3⟩
theorem vO.append {l m:List bT}(h:vO l)(k:vO m):vO (l++m):=λA hA=>(iV.1 hA).elim (h A) (k A)
theorem vO.map {α:Type}{f:α->bT}(l:List α)(h: ∀a,UR (f a)):vO (l.map f):=λA hA=>by obtain⟨a,_,rfl⟩:=aN.1 hA;exact h a
theorem nI.hp (p:Nat)(K:Int)(rows:List cz):UR (nI p K rows):=λ_ _ _ e h=>by obtain⟨h1,h2,hv,mb,cb,hs⟩:=h;exact⟨h1,h2,hv,mb,cb,Sep.hp (.append (.cons (bg.hp _ _ _) (.cons (dP.hp _ _ _ _ _) (.cons (ux.hp _ _ _ _ _) .nil))) (.map _ λ_=>Col.hp _ _ _ _ _ _)) e hs⟩
theorem dG.hp (p:Nat)(ls:List (Int×Bool))(f:BF):UR (dG p ls f):=λ_ _ _ e h=>by obtain⟨sp,tb,pb,T,h1,hs⟩:=h;exact⟨sp,tb,pb,T,h1,Sep.hp (.append (.cons (bg.hp _ _ _) (.cons (Col.hp _ _ _ _ _ _) (.cons (ux.hp _ _ _ _ _) (.cons (ux.hp _ _ _ _ _) .nil)))) (.map _ λ_=>nI.hp _ _ _)) e hs⟩
theorem jE.hp (p:Nat)(m:jS):UR (jE p m):=λ_ _ _ e h=>by obtain⟨h1,b,hs⟩:=h;exact⟨h1,b,Sep.hp (.cons (bg.hp _ _ _) (.cons (ux.hp _ _ _ _ _) .nil)) e hs⟩
theorem cj.hp (p:Nat)(z:ZS):UR (cj p z):=λ_ _ _ e h=>by obtain⟨wp,fp,m,h1,hs⟩:=h;exact⟨wp,fp,m,h1,Sep.hp (.cons (bg.hp _ _ _) (.cons (dG.hp _ _ _) (.cons (jE.hp _ _) .nil))) e hs⟩
end
section
open Rel
open Go.RowKit
@[go_sem ↓] theorem aeQ (parts:Array (Nat×aq)):fh 23 1 parts=j4 23 parts:=rfl
@[go_sem] theorem ZY (w:ah)(cs:Array aq):(j4 23 #[(0,.agg cs)]).run Tryz.prog w=if cs.size=7 then .ok (.slice (ae ⟨w.heap.size,0,ai⟩) 1 1) (w.alloc (.cells cs 54))else(pT 23 cs).run Tryz.prog w:=lS w _ _ 7 (bZ 7 (aZ .i64 0)).toArray cs Tryz.underlying23 (by kernel_rfl) (by kernel_rfl) rfl (by decide) (by decide)
theorem Un:(Tryz.prog.info? 54).map (λi=>(i.zero,i.size,i.bytes))=ae (ae (.agg (ints du.list)),7,56):=by kernel_rfl
theorem nL.dB {G:Nat->Prop}{w0:ah}{B:Nat}{A:Option Addr}{ss:List Sys}(h:nL G w0 B A ss)(tp:Nat->Question->Nat)(d:Nat):nL G (Rel.dB w0 tp d) B A ss:=λ{W} hI=>by have h1:In G w0 [] (Rel.dB W w0.tape W.drawn):=⟨trivial,⟨hI.only.os,rfl,hI.only.output,hI.only.size,hI.only.block⟩⟩;have h2:=h h1;exact h2
theorem jM.abg {G:Nat->Prop}{l:List bT}{w0 w:ah}(h:In G w0 l w):jM G w0 l w:=jM.of (tp:=w0.tape) (d:=w0.drawn) h
noncomputable def JZ:Code:=match Tryz.f13.body with
 |some (.seq _ (.seq _ (.seq _ (.seq _ (.seq (.seq _ (.block _ (.loop (.seq _ (.seq (.block _ (.seq _ (.seq x _))) _))))) _)))))=>x
 |_=>.skip
section
variable {G:Nat->Prop} {w0 w:ah} {l:List bT} {A:Option Addr} {c B:Nat} {ss:List Sys} {nB:aq} {b:Nat} {XS:aq}
def VX (G:Nat->Prop)(w0:ah)(l:List bT)(A:Option Addr)(c:Nat)(ss:List Sys)(nB:aq)(b:Nat)(x0 x1 x3 x4 x5 x6 x8 rK qY qZ oI oJ oK oL oM oO oP oQ oS oT oU oH oV AF KD KE KF Kh Ki Kj Kk Kl Km Kn Zk Zl Zm Ut Uu Uv Uw Ux Uy Uz UA UB UC UD UE UF UG UH UI UJ UK:aq)(a:Act)(w:ah):Prop:= ∃v y11 y12 y35 y36 y37 y38 y39 y40 y41 y42 y43 y44 y45 y46 y47 y48 y49 y50 y51 y52,a=⟨#[x0,x1,.slice A ss.length c,x3,x4,x5,x6,nB,x8,.int .i64 (b:Int),v,y11,y12,rK,qY,qZ,oI,oJ,oK,oL,oM,oO,oP,oQ,oS,oT,oU,oH,oV,AF,KD,KE,KF,Kh,Ki,y35,y36,y37,y38,y39,y40,y41,y42,y43,y44,y45,y46,y47,y48,y49,y50,y51,y52,Kj,Kk,Kl,Km,Kn,Zk,Zl,Zm,Ut,Uu,Uv,Uw,Ux,Uy,Uz,UA,UB,UC,UD,UE,UF,UG,UH,UI,UJ,UK],[]⟩/\jM G w0 (nl v (gU (dI ss) b)::da nB (cm ss ss.length)::l) w
theorem aek (x0 x1 x3 x4 x5 x6 x8 Ir It rK qY qZ oI oJ oK oL oM oO oP oQ oS oT oU oH oV AF KD KE KF Kh Ki Vi Vj Vk Vl Vm Vn Vo Vp Vq Vr Vs Vt Vu Vv Vw Vx Vy Vz Kj Kk Kl Km Kn Zk Zl Zm Ut Uu Uv Uw Ux Uy Uz UA UB UC UD UE UF UG UH UI UJ UK:aq)(hl:vO l)(hS:nL G w0 B A ss)(h20:ss.length<=20)(hb:b<=ss.length)(h:In G w0 (da nB (cm ss ss.length)::l) w):JZ.wp Tryz.prog (wm (VX G w0 l A c ss nB b x0 x1 x3 x4 x5 x6 x8 rK qY qZ oI oJ oK oL oM oO oP oQ oS oT oU oH oV AF KD KE KF Kh Ki Kj Kk Kl Km Kn Zk Zl Zm Ut Uu Uv Uw Ux Uy Uz UA UB UC UD UE UF UG UH UI UJ UK)) ⟨#[x0,x1,.slice A ss.length c,x3,x4,x5,x6,nB,x8,.int .i64 (b:Int),.slice ai 0 0,Ir,It,rK,qY,qZ,oI,oJ,oK,oL,oM,oO,oP,oQ,oS,oT,oU,oH,oV,AF,KD,KE,KF,Kh,Ki,Vi,Vj,Vk,Vl,Vm,Vn,Vo,Vp,Vq,Vr,Vs,Vt,Vu,Vv,Vw,Vx,Vy,Vz,Kj,Kk,Kl,Km,Kn,Zk,Zl,Zm,Ut,Uu,Uv,Uw,Ux,Uy,Uz,UA,UB,UC,UD,UE,UF,UG,UH,UI,UJ,UK],[]⟩ w:=by
 have HS:Hid (nL G w0 B A ss):=hS;have ahE:(ss.length:Int)<=20:=by omega
 have hbi:(b:Int)<=20:=by omega
 have k9:Hid (In G w0 (nl (.slice ai 0 0) (gU ((dI ss).take 0) b)::da nB (cm ss ss.length)::l) w):=h.tW _ _;obtain⟨pA,pc,rfl,_⟩:=h.kX;rw[eT]at *;obtain⟨i0,qX,uH,vi,uC⟩:=info_parts Un;clear hS h;simp only[JZ,Tryz.f13]
 go_wp2_with fail
 go_loopw [37,10] (λi v w'=> ∃k:Nat,k<=ss.length/\i=.int .i64 k/\In G w0 (nl v (gU ((dI ss).take k) b)::da (.slice pA ss.length pc) (cm ss ss.length)::l) w') (λi _ _=>ss.length-(intOf i).toNat)
 case atStart=>exact⟨0,bS _,rfl,k9.out⟩
 case round=>
  clear k9;obtain⟨k,hk,rfl,hI⟩:=hrel;by_cases bE:k<ss.length
  ·have xH:(k:Int)<ss.length:=by omega
   obtain⟨g,o,rfl,hgb,q1⟩:=(HS.out hI.bare).at_ bE;have e1:ss.getD k du=ss[k]:=by simp[bp,bE]
   rw[e1]at q1;have HSN:=af (Ue ss b bE);have Kv:(gU ((dI ss).take k) b).length<=20:=bP (Nf _ _) (by rw[dW];omega);have HI:=af hI;clear hI e1;generalize ss[k]=s at *;generalize afG:gU ((dI ss).take (k+1)) b=ahb at *;have HC:=af afG;clear afG;generalize gU ((dI ss).take k) b=cur at *
   go_upto_region 13 with(fail)
   refine cc (In G w0 (bg wr.heap.size 54 (ints s.list)::nl u10 cur::da (.slice pA ss.length pc) (cm ss ss.length)::l)) ?_ ?_
   ·exact HI.out.struct 54 [0,0,0,0,0,0,0] s.list rfl
   generalize wr.heap.size=sb;clear HI q1;intro w3 fF;obtain⟨A3,c3,e3,hr3⟩:=fF.third.kX;rw[eT]at e3 hr3;injection e3 with e4 e5 e6
   subst e4;subst e6;obtain⟨g3,o3,rfl,_,ahK,aht⟩:=hr3.at_ bE;have hpk:(cm ss ss.length)[k]=(cm ss ss.length).getD k 0:=by simp[bp,ahK]
   rw[hpk]at aht;have d3:row? w3 sb 0 7=ae (ints s.list):=fF.blk.bt rfl;have gm:=af fF;clear fF hr3 e5 hpk;generalize (cm ss ss.length).getD k 0=pk at *;by_cases hpb:pk=(b:Int)
   ·have Ky:(pk==(b:Int))=aA:=by simpa using hpb
    rw[if_pos hpb]at HSN;have iY:=af gm.out.drop;have HOW:=af gm.out.drop.rowAt;have Xu: ∀u∈s.list.map (aZ .i64),u.oneCell'=aA:=by intro u hu;obtain⟨y,_,rfl⟩:=aN.1 hu;rfl
    have BG:=af Xu;have HX7:Hid (s.list.length=7):=rfl;clear hpb Xu gm
    go_wp2_with (at_builtin;go_loud (refine eu rfl _ _ _ rfl 0 54 i0 _ 7 56 Tryz.underlying23 qX uH vi uC rfl (by decide) _ cur.length _ rfl HOW.out (s.list.map (aZ .i64)) rfl (by rw[List.length_map];exact HX7.out) BG.out (by unfold maxLen;omega) (by omega) (bS _) ?_))
    intro v' w4 gZ hg ru;have eH:=In.yo iY.out gZ hg ru;have iC:In G w0 (nl v' ahb::da (.slice (ae ⟨g3,o3,ai⟩) ss.length pc) (cm ss ss.length)::l) w4:=by rw[HSN.out];unfold nl;rw[bM,eI,cM,List.flatMap_nil,eN];exact eH
    have kh:=af iC;clear gZ hg ru eH iC d3 iY HOW
    go_wp2_with fail
    go_roundw
    case rel=>exact⟨k+1,by omega,by go_num,by rw[HC.out];exact kh.out⟩
    case measure=>simp[intOf];omega
   ·have Ky:(pk==(b:Int))=aw:=by simpa using hpb
    rw[if_neg hpb]at HSN;have iY:=af gm.out.drop;rw[<-HSN.out]at iY;clear hpb gm HSN d3
    go_wp2_with fail
    go_roundw
    case rel=>exact⟨k+1,by omega,by go_num,by rw[HC.out];exact iY.out⟩
    case measure=>simp[intOf];omega
  ·have:k=ss.length:=by omega
   subst this;rw[Ud]at hI;have HI:=af hI;clear hI
   go_wp2_with fail
   refine⟨rfl,rfl,λtp d=>⟨_,_,_,_,_,_,_,_,_,_,_,_,_,_,_,_,_,_,_,_,_,rfl,?_⟩⟩;exact(jM.abg HI.out).dB (.cons (dP.hp _ _ _ _ _) (.cons (dP.hp _ _ _ _ _) hl)) tp d
end
end
section
open Rel
open Go.RowKit
theorem aaG: ∀(bs:List aQ) (i:Nat) (hi:i<bs.length),(∀b∈bs,b.v.length=8)->((bs.flatMap N9).drop (i *9)).take 9=N9 bs[i]:=by
 intro bs
 induction bs with
 |nil=>intro i hi;simp at hi
 |cons b bs ih=>
  intro i hi h;have hb:(N9 b).length=9:=by simp[N9,aQ.list,h b (by simp)]
  cases i with
  |zero=>rw[cM,Nat.zero_mul,List.drop_zero,List.take_append_of_le_length (by omega),cI (by omega)];rfl
  |succ i=>rw[cM,k8,jR,dt,<-hb,List.drop_append,List.drop_of_length_le (by omega),cL,ki,hb];exact ih i (by simpa using hi) λx hx=>h x (by simp[hx])
theorem Oa {G:Nat->Prop}{w0 w:ah}{l:List bT}{A:Option Addr}{n c:Nat}{bs:List aQ}(h:In G w0 (ng (.slice A n c) bs::l) w)(h8: ∀b∈bs,b.v.length=8){i:Nat}(hi:i<bs.length): ∃g,A=ae ⟨g,0,ai⟩/\row? w g (i *9) 9=ae (ints bs[i].list):=by
 have ho:=h.own;obtain⟨A',c',e,_,_,hg⟩:=cH ho;injection e with e1 e2 e3
 subst e1;subst e2;obtain⟨g,rfl⟩:=hg (by omega);refine⟨g,rfl,?_⟩;rw[lg ho hi,aaG bs i hi h8]
 rfl
noncomputable def JC:Code:=match Tryz.f13.body with
 |some (.seq _ (.seq _ (.seq _ (.seq _ (.seq (.seq _ (.block _ (.loop (.seq _ (.seq (.block _ (.seq _ (.seq _ (.seq _ (.seq _ x))))) _))))) _)))))=>x
 |_=>.skip
section
variable {G:Nat->Prop} {w0 w:ah} {l:List bT} {rA bA:Option Addr} {rc bc p:Nat} {z:ZS} {g:aQ->aQ}
def KL (G:Nat->Prop)(w0:ah)(l:List bT)(rA bA:Option Addr)(rc bc p:Nat)(z:ZS)(g:aQ->aQ)(x0 x2 x3 x4 x5 x6 x7 x8 x9 KC Ir It oI oJ oK oL oM oO oP oQ oS oT oU oH oV AF KD KE KF Kh Ki Vi Vj Vk Vl Vm Vn Vo Vp Vq Vr Vs Vt Vu Vv Vw Vx Vy Vz Kj Kk Kl Km Kn:aq)(a:Act)(w:ah):Prop:= ∃y14 y15 y60 y61 y62 y63 y64 y65 y66 y67 y68 y69 y70 y71 y72 y73 y74 y75 y76 y77 y78,a=⟨#[x0,ptr p,x2,x3,x4,x5,x6,x7,x8,x9,KC,Ir,It,.slice rA z.rows.length rc,y14,y15,oI,oJ,oK,oL,oM,oO,oP,oQ,oS,oT,oU,oH,oV,AF,KD,KE,KF,Kh,Ki,Vi,Vj,Vk,Vl,Vm,Vn,Vo,Vp,Vq,Vr,Vs,Vt,Vu,Vv,Vw,Vx,Vy,Vz,Kj,Kk,Kl,Km,Kn,.slice bA z.rows.length bc,.int .i64 z.rows.length,y60,y61,y62,y63,y64,y65,y66,y67,y68,y69,y70,y71,y72,y73,y74,y75,y76,y77,y78],[]⟩/\jM G w0 (cj p (sW z g z.rows.length)::ng (.slice bA z.rows.length bc) (z.rows.map λr=>g r.b)::cE (.slice rA z.rows.length rc) z.rows::l) w
theorem aeb (x0 x2 x3 x4 x5 x6 x7 x8 x9 KC Ir It qY qZ oI oJ oK oL oM oO oP oQ oS oT oU oH oV AF KD KE KF Kh Ki Vi Vj Vk Vl Vm Vn Vo Vp Vq Vr Vs Vt Vu Vv Vw Vx Vy Vz Kj Kk Kl Km Kn Ut Uu Uv Uw Ux Uy Uz UA UB UC UD UE UF UG UH UI UJ UK:aq)(hl:vO l)(hk:j9 z)(hg:Gd g)(hgk: ∀b,(g b).k=b.k)(hgf: ∀b,b.v.length=8-> ∀j,j∉kinds b.k.toNat->(g b).v.getD j 0=b.v.getD j 0)(h:In G w0 (cj p z::ng (.slice bA z.rows.length bc) (z.rows.map λr=>g r.b)::cE (.slice rA z.rows.length rc) z.rows::l) w):JC.wp Tryz.prog (wm (KL G w0 l rA bA rc bc p z g x0 x2 x3 x4 x5 x6 x7 x8 x9 KC Ir It oI oJ oK oL oM oO oP oQ oS oT oU oH oV AF KD KE KF Kh Ki Vi Vj Vk Vl Vm Vn Vo Vp Vq Vr Vs Vt Vu Vv Vw Vx Vy Vz Kj Kk Kl Km Kn)) ⟨#[x0,ptr p,x2,x3,x4,x5,x6,x7,x8,x9,KC,Ir,It,.slice rA z.rows.length rc,qY,qZ,oI,oJ,oK,oL,oM,oO,oP,oQ,oS,oT,oU,oH,oV,AF,KD,KE,KF,Kh,Ki,Vi,Vj,Vk,Vl,Vm,Vn,Vo,Vp,Vq,Vr,Vs,Vt,Vu,Vv,Vw,Vx,Vy,Vz,Kj,Kk,Kl,Km,Kn,.slice bA z.rows.length bc,.int .i64 z.rows.length,.int .i64 0,Ut,Uu,Uv,Uw,Ux,Uy,Uz,UA,UB,UC,UD,UE,UF,UG,UH,UI,UJ,UK],[]⟩ w:=by
 have k9:Hid (In G w0 (cj p (sW z g 0)::ng (.slice bA z.rows.length bc) (z.rows.map λr=>g r.b)::cE (.slice rA z.rows.length rc) z.rows::l) w):=h;have HMO:Hid (∀j,j<=z.rows.length->j9 (sW z g j)):=λj=>aa8 hk hg j
 have HMT:Hid (∀j (hj:j<z.rows.length),(sW z g j).f z.rows[j].h.1=ae (z.rows[j].h.2,z.rows[j].b)):=λj hj=>Rj hk g hj
 have VH:Hid (∀j (hj:j<z.rows.length),sW z g (j+1)=⟨(sW z g j).ls,dH (sW z g j).f z.rows[j].h.1 (ae (z.rows[j].h.2,g z.rows[j].b)),(sW z g j).B⟩):=λj hj=>He g hj
 have adQ:z.rows.length<=60:=yn hk.w;have hri:(z.rows.length:Int)<=60:=by omega
 have H8:Hid (∀r∈z.rows,bK r.b=0/\r.b.v.length=8):=λr hr=>hk.w.bo _ _ _ ((mm hk.w).1 hr)
 have HG:=af hg;have HGK:=af hgk;have HGF:=af hgf;have HPS:Hid (KL G w0 l rA bA rc bc p z g=KL G w0 l rA bA rc bc p z g):=rfl;clear h hk hg hgk hgf;unfold KL;generalize z.rows=rs at *;simp only[JC,Tryz.f13]
 go_wp2_with fail
 go_loopw [60] (λi w'=> ∃j:Nat,j<=rs.length/\i=.int .i64 j/\In G w0 (cj p (sW z g j)::ng (.slice bA rs.length bc) (rs.map λr=>g r.b)::cE (.slice rA rs.length rc) rs::l) w') (λi _=>rs.length-(intOf i).toNat)
 case atStart=>exact⟨0,bS _,rfl,k9.out⟩
 case round=>
  clear k9;obtain⟨j,hj,rfl,hI⟩:=hrel;by_cases bE:j<rs.length
  ·have OG:(j:Int)<rs.length:=by omega
   have HOJ:=af (HMO.out j (by omega));have HAT:=af (HMT.out j bE);have HNX:=af (VH.out j bE);obtain⟨NN,h8⟩:=H8.out _ (aU bE);obtain⟨afy,h8'⟩:=HG.out _ NN h8;have hgk:=HGK.out rs[j].b;have hgf:=HGF.out rs[j].b h8;obtain⟨gb,rfl,q2⟩:=Oa hI.swap (λb hb=>by obtain⟨r,hr,rfl⟩:=aN.1 hb;exact(HG.out _ (H8.out r hr).1 (H8.out r hr).2).2) (i:=j) (by simpa using bE);rw[List.getElem_map]at q2;obtain⟨gr,rfl,q1⟩:=zg hI.third (λr hr=>(H8.out r hr).2) bE;have hb9:(g rs[j].b).list.length=9:=by simp[aQ.list,h8']
   have HI:=af hI;have Sb:=af (And.intro (And.intro afy h8') (And.intro hgk hgf));clear hI NN afy h8' hgk hgf;generalize hmj:sW z g (j+1)=zn at *;have HZN:=af hmj;clear hmj;generalize sW z g j=zj at *;have HBS:Hid ((rs.map λr=>g r.b)=rs.map λr=>g r.b):=rfl;generalize g rs[j].b=now at *;generalize hrj:rs[j]=r at *;have HRJ:=af hrj;clear hrj;obtain⟨⟨x1,x2⟩,b⟩:=r;simp only at h8 HAT HNX Sb;have H8B:=af h8;clear q1
   go_upto_region 20 with(fail)
   refine cc (In G w0 (bg wr.heap.size 48 (ints now.list)::cj p zj::ng (.slice (ae ⟨gb,0,ai⟩) rs.length bc) (rs.map λr=>g r.b)::cE (.slice (ae ⟨gr,0,ai⟩) rs.length rc) rs::l)) ?_ ?_
   ·exact HI.out.struct 48 [0,0,0,0,0,0,0,0,0] now.list hb9
   generalize wr.heap.size=sb;clear HI q2;intro w3 fF;obtain⟨g',e0,q⟩:=zg fF.fourth (λr hr=>(H8.out r hr).2) bE;have e1:g'=gr:=by injection e0 with e0;injection e0 with e0;exact e0.symm
   subst e1;rw[HRJ.out]at q;have q1:row? w3 g' (j *11) 2=ae (ints [x1,x2]):=wD q 0 2 (by omega);have q2:row? w3 g' (j *11+2) 9=ae (ints b.list):=by have:=wD q 2 9 (by omega);rw[show((cz.list ⟨(x1,x2),b⟩).drop 2).take 9=b.list by show b.list.take 9=_;rw[cI (by simp[aQ.list,h8])]]at this;exact this
   have d3:row? w3 sb 0 9=ae (ints now.list):=fF.blk.bt hb9;have iY:=af fF.swap.drew;clear fF e0 q h8
   go_still_tail 12,(by kernel_rfl)
   repeat still_step
   change wpList _ _ _ _ _ w3.drew;clear q1 q2 d3;generalize w3.drew=w4 at *
   go_wp2_with fail
   refine(RG iY.out HOJ.out x1 x2 b now HAT.out Sb.out.2.1 Sb.out.1.1 Sb.out.1.2 Sb.out.2.2).mono ?_;rintro e w5 ⟨rfl,eH⟩;rw[<-HNX.out]at eH;have lV:=af eH.swap.drop;clear eH iY
   go_wp2_with fail
   go_roundw
   case rel=>exact⟨j+1,by omega,by go_num,by rw[HZN.out];exact lV.out⟩
   case measure=>simp[intOf];omega
  ·have:j=rs.length:=by omega
   subst this;have HI:=af hI;clear hI
   go_wp2_with fail
   refine⟨rfl,rfl,λtp d=>⟨_,_,_,_,_,_,_,_,_,_,_,_,_,_,_,_,_,_,_,_,_,rfl,?_⟩⟩;exact(jM.abg HI.out).dB (.cons (cj.hp _ _) (.cons (dP.hp _ _ _ _ _) (.cons (dP.hp _ _ _ _ _) hl))) tp d
end
end
section
open Rel
open Go.Conc Go.ConcN
open Go.RowKit
theorem jM.RV {G:Nat->Prop}{l:List bT}{w0 w:ah}(hl:vO l){tp:Nat->Question->Nat}{d:Nat}(h:jM G w0 l (Rel.dB w tp d)):jM G w0 l w:=jM.dB h hl w.tape w.drawn
theorem jM.size {G:Nat->Prop}{l:List bT}{w0 w:ah}(h:jM G w0 l w):w0.heap.size<=w.heap.size:=In.size (w0:=Rel.dB w0 w.tape w0.drawn) h
section
variable {O:uO} {Post:aq->ah->Prop} {G:Nat->Prop} {w0:ah} {l:List bT} {A:Option Addr} {c B p:Nat} {ss:List Sys} {z:ZS}
def nD (fI:Int)(ss:List Sys):Int:=if fI<1\/8<fI then 1 else(dF ss).2
theorem TG {ss:List Sys}(h:(dF ss).2=0):(dF ss).1=cm ss ss.length:=by
 unfold dF at h⊢
 split at h
 ·cases h
 ·rename_i h1
  split at h
  ·rename_i h2
   rw[if_neg h1,if_pos h2]
  ·rename_i h2;exact absurd h h2
theorem VX.same {w w0:ah}{tp:Nat->Question->Nat}{d b:Nat}{nB:aq}{x0 x1 x3 x4 x5 x6 x8 rK qY qZ oI oJ oK oL oM oO oP oQ oS oT oU oH oV AF KD KE KF Kh Ki Kj Kk Kl Km Kn Zk Zl Zm Ut Uu Uv Uw Ux Uy Uz UA UB UC UD UE UF UG UH UI UJ UK:aq}{a:Act}(h:VX G (Rel.dB w0 tp d) l A c ss nB b x0 x1 x3 x4 x5 x6 x8 rK qY qZ oI oJ oK oL oM oO oP oQ oS oT oU oH oV AF KD KE KF Kh Ki Kj Kk Kl Km Kn Zk Zl Zm Ut Uu Uv Uw Ux Uy Uz UA UB UC UD UE UF UG UH UI UJ UK a w):VX G w0 l A c ss nB b x0 x1 x3 x4 x5 x6 x8 rK qY qZ oI oJ oK oL oM oO oP oQ oS oT oU oH oV AF KD KE KF Kh Ki Kj Kk Kl Km Kn Zk Zl Zm Ut Uu Uv Uw Ux Uy Uz UA UB UC UD UE UF UG UH UI UJ UK a w:=by obtain⟨v,y11,y12,y35,y36,y37,y38,y39,y40,y41,y42,y43,y44,y45,y46,y47,y48,y49,y50,y51,y52,e,h⟩:=h;exact⟨v,y11,y12,y35,y36,y37,y38,y39,y40,y41,y42,y43,y44,y45,y46,y47,y48,y49,y50,y51,y52,e,jM.same h⟩
theorem KL.same {w w0:ah}{tp:Nat->Question->Nat}{d:Nat}{rA bA:Option Addr}{rc bc:Nat}{g:aQ->aQ}{x0 x2 x3 x4 x5 x6 x7 x8 x9 KC Ir It oI oJ oK oL oM oO oP oQ oS oT oU oH oV AF KD KE KF Kh Ki Vi Vj Vk Vl Vm Vn Vo Vp Vq Vr Vs Vt Vu Vv Vw Vx Vy Vz Kj Kk Kl Km Kn:aq}{a:Act}(h:KL G (Rel.dB w0 tp d) l rA bA rc bc p z g x0 x2 x3 x4 x5 x6 x7 x8 x9 KC Ir It oI oJ oK oL oM oO oP oQ oS oT oU oH oV AF KD KE KF Kh Ki Vi Vj Vk Vl Vm Vn Vo Vp Vq Vr Vs Vt Vu Vv Vw Vx Vy Vz Kj Kk Kl Km Kn a w):KL G w0 l rA bA rc bc p z g x0 x2 x3 x4 x5 x6 x7 x8 x9 KC Ir It oI oJ oK oL oM oO oP oQ oS oT oU oH oV AF KD KE KF Kh Ki Vi Vj Vk Vl Vm Vn Vo Vp Vq Vr Vs Vt Vu Vv Vw Vx Vy Vz Kj Kk Kl Km Kn a w:=by obtain⟨y14,y15,y60,y61,y62,y63,y64,y65,y66,y67,y68,y69,y70,y71,y72,y73,y74,y75,y76,y77,y78,e,h⟩:=h;exact⟨y14,y15,y60,y61,y62,y63,y64,y65,y66,y67,y68,y69,y70,y71,y72,y73,y74,y75,y76,y77,y78,e,jM.same h⟩
theorem yT {P:aS}{S S':Act->ah->Prop}{x:Code}{a:Act}{w:ah}(h:x.wp P (wm S) a w)(hs: ∀a w,S a w->S' a w):x.wp P (wm S') a w:=Code.wp_mono (λ_ _ _ ⟨h1,h2,h3⟩=>⟨h1,h2,λtp d=>hs _ _ (h3 tp d)⟩) h
def VR (O:uO)(G:Nat->Prop)(w0:ah)(l:List bT)(A:Option Addr)(c p hn:Nat)(ss:List Sys)(z:ZS)(nB:aq)(m:Nat)(a:Act)(w:ah):Prop:= ∃b:Nat,∃x3 x4 x5 x6 x8 KC Ir It rK qY qZ oI oJ oK oL oM oO oP oQ oS oT oU oH oV AF KD KE KF Kh Ki Vi Vj Vk Vl Vm Vn Vo Vp Vq Vr Vs Vt Vu Vv Vw Vx Vy Vz Kj Kk Kl Km Kn Zk Zl Zm Ut Uu Uv Uw Ux Uy Uz UA UB UC UD UE UF UG UH UI UJ UK:aq,a=⟨#[.int .i64 (hn:Int),ptr p,.slice A ss.length c,x3,x4,x5,x6,nB,x8,.int .i64 (b:Int),KC,Ir,It,rK,qY,qZ,oI,oJ,oK,oL,oM,oO,oP,oQ,oS,oT,oU,oH,oV,AF,KD,KE,KF,Kh,Ki,Vi,Vj,Vk,Vl,Vm,Vn,Vo,Vp,Vq,Vr,Vs,Vt,Vu,Vv,Vw,Vx,Vy,Vz,Kj,Kk,Kl,Km,Kn,Zk,Zl,Zm,Ut,Uu,Uv,Uw,Ux,Uy,Uz,UA,UB,UC,UD,UE,UF,UG,UH,UI,UJ,UK],[]⟩/\m=ss.length+1-b/\b<=ss.length/\jM G w0 (cj p (iK z (dI ss) b)::da nB (cm ss ss.length)::l) w
noncomputable def Ng:Code:=match Tryz.f13.body with
 |some (.seq _ (.seq _ (.seq _ (.seq _ (.seq (.seq _ (.block _ (.loop x))) _)))))=>x
 |_=>.skip
def ac3 (O:uO)(G:Nat->Prop)(w0:ah)(l:List bT)(A:Option Addr)(c p hn:Nat)(ss:List Sys)(z:ZS)(nB:aq)(m:Nat):Exit->Act->ah->Prop
 | .normal,a,w=> ∃m',m'<m/\VR O G w0 l A c p hn ss z nB m' a w
 | .exit 0,a,w=>a.tmps.size=79/\jM G w0 (cj p (jg z ss)::l) w
 |_,_,_=>False
theorem PZ {hn m:Nat}{nB:aq}{a:Act}{w:ah}(hold:O.n<=w0.heap.size)(hl:vO l)(hS:nL G w0 B A ss)(hk:j9 z)(hn1:1<=hn)(hn8:hn<=8)(h0:(dF ss).2=0)(hI:VR O G w0 l A c p hn ss z nB m a w):eJ Tryz.prog (mX O) Post 13 Ng (ac3 O G w0 l A c p hn ss z nB m) a w:=by
 obtain⟨b,x3,x4,x5,x6,x8,KC,Ir,It,rK,qY,qZ,oI,oJ,oK,oL,oM,oO,oP,oQ,oS,oT,oU,oH,oV,AF,KD,KE,KF,Kh,Ki,Vi,Vj,Vk,Vl,Vm,Vn,Vo,Vp,Vq,Vr,Vs,Vt,Vu,Vv,Vw,Vx,Vy,Vz,Kj,Kk,Kl,Km,Kn,Zk,Zl,Zm,Ut,Uu,Uv,Uw,Ux,Uy,Uz,UA,UB,UC,UD,UE,UF,UG,UH,UI,UJ,UK,rfl,rfl,hb,hI⟩:=hI;have hF:=nU O;obtain⟨XC,h20⟩:=JA h0;have hPA:nT (dI ss):=Yn XC;have hbI:(b:Int)<=20:=by omega
 have LS:(cm ss ss.length).length=ss.length:=eT ss ss.length;have afJ: ∃pA pc,nB=.slice pA (cm ss ss.length).length pc:=by obtain⟨pA,pc,e,_⟩:=In.kX (In.swap (show In G _ _ w from hI));exact⟨pA,pc,e⟩
 obtain⟨pA,pc,rfl⟩:=afJ;have hlP:vO (cj p (iK z (dI ss) b)::da (.slice pA (cm ss ss.length).length pc) (cm ss ss.length)::l):=.cons (cj.hp _ _) (.cons (dP.hp _ _ _ _ _) hl);simp only[Ng,Tryz.f13];refine ca (ca ?_);refine aiL ?_;refine S1 hF (.slice pA (cm ss ss.length).length pc) ?_;walk_nrm;refine S1 hF (.int .i64 (b:Int)) ?_;walk_nrm;refine wu hF (f:=40) (R:=λe w'=>e=.returned (.bool (decide ((b:Int)∈cm ss ss.length)))/\jM G w0 (cj p (iK z (dI ss) b)::da (.slice pA (cm ss ss.length).length pc) (cm ss ss.length)::l) w') rfl rfl rfl (by show wX.contains (40)=aA;decide+kernel) (by kernel_rfl) (λtp d=> ?_) (λe w h=>⟨_,h.1⟩) (λv w tp d h=>⟨h.1,h.2.RV hlP⟩) ?_
 ·have jU:=hI.at_ hlP tp 0 d;obtain⟨pA',pc',e,hr⟩:=In.kX jU.swap;injection e with e1 e2 e3
  subst e1;subst e3;walk_nrm;refine(FB pA pc (cm ss ss.length) b _ hr (by unfold maxLen;omega)).mono ?_;rintro e w' ⟨rfl,rfl⟩;exact⟨rfl,jM.of jU⟩
 rintro v w1 ⟨e,jU⟩;injection e with e
 subst e;walk_nrm;refine cY ?_;by_cases iM:(b:Int)∈cm ss ss.length
 rotate_left
 ·rw[show decide ((b:Int)∈cm ss ss.length)=aw from decide_eq_false iM];refine fS (t:=false) rfl ?_;rw[if_neg (by simp)];refine Oh ⟨rfl,?_⟩;have he:=Ui hk hPA (Jz ss) b (TH iM);rw[TF]at he;rw[<-he];exact In.drop (In.swap jU)
 rw[show decide ((b:Int)∈cm ss ss.length)=aA from decide_eq_true iM];refine fS (t:=true) rfl ?_;rw[if_pos rfl];refine mH ?_;have aik:=Ym iM;clear hI;show eJ _ _ _ _ _ _ _ w1;refine ca (AW ?_);refine ca (aiL ?_);refine S1 hF (.slice ai 0 0) ?_;walk_nrm;refine cY ?_;show eJ _ _ _ _ _ _ _ w1;have hxS:dm ((mX O).at 13) JZ=aA:=by kernel_rfl
 refine ca (Gk hF (S:=VX G w0 (cj p (iK z (dI ss) b)::l) A c ss (.slice pA (cm ss ss.length).length pc) b (.int .i64 (hn:Int)) (ptr p) x3 x4 x5 x6 x8 rK qY qZ oI oJ oK oL oM oO oP oQ oS oT oU oH oV AF (.slice pA (cm ss ss.length).length pc) (.int .i64 (b:Int)) (.bool aA) Kh Ki Kj Kk Kl Km Kn Zk Zl Zm Ut Uu Uv Uw Ux Uy Uz UA UB UC UD UE UF UG UH UI UJ UK) hxS (λtp d=>yT (aek _ _ _ _ _ _ _ _ _ _ _ _ _ _ _ _ _ _ _ _ _ _ _ _ _ _ _ _ _ _ _ _ _ _ _ _ _ _ _ _ _ _ _ _ _ _ _ _ _ _ _ _ _ _ _ _ _ _ _ _ _ _ _ _ _ _ _ _ _ _ _ _ _ _ _ (.cons (cj.hp _ _) hl) (hS.dB tp 0) h20 hb (In.swap (jU.at_ hlP tp 0 d))) λ_ _ h=>h.same) ?_);rintro _ w2 ⟨sv,y11,y12,y35,y36,y37,y38,y39,y40,y41,y42,y43,y44,y45,y46,y47,y48,y49,y50,y51,y52,rfl,gX⟩;clear jU;obtain⟨sA,sc,e,_⟩:=cH (In.own (show In G _ _ w2 from gX));subst e;have hOK:=Nh hk hPA.totw b;have Ta:(gU (dI ss) b).length<=20:=bP (Nf _ _) (by rw[jY];exact h20);have hlS:vO (nl (.slice sA (gU (dI ss) b).length sc) (gU (dI ss) b)::da (.slice pA (cm ss ss.length).length pc) (cm ss ss.length)::cj p (iK z (dI ss) b)::l):=.cons (dP.hp _ _ _ _ _) (.cons (dP.hp _ _ _ _ _) (.cons (cj.hp _ _) hl));show eJ _ _ _ _ _ _ _ w2;refine ca (aiL ?_);refine S1 hF (ptr p) ?_;walk_nrm;have hrl:(iK z (dI ss) b).rows.length<=60:=yn hOK.w;refine wu hF (f:=37) (R:=λe w'=> ∃rA rc,e=.returned (.slice rA (iK z (dI ss) b).rows.length rc)/\jM G w0 (cE (.slice rA (iK z (dI ss) b).rows.length rc) (iK z (dI ss) b).rows::nl (.slice sA (gU (dI ss) b).length sc) (gU (dI ss) b)::cj p (iK z (dI ss) b)::da (.slice pA (cm ss ss.length).length pc) (cm ss ss.length)::l) w') rfl rfl rfl (by show wX.contains (37)=aA;decide+kernel) (by kernel_rfl) (λtp d=> ?_) (λe w ⟨_,_,h,_⟩=>⟨_,h⟩) (λv w tp d ⟨_,_,h,h'⟩=>⟨_,_,h,h'.RV (.cons (dP.hp _ _ _ _ _) (.cons (dP.hp _ _ _ _ _) (.cons (cj.hp _ _) (.cons (dP.hp _ _ _ _ _) hl))))⟩) ?_
 ·have h2:=In.third (gX.at_ hlS tp 0 d);walk_nrm;refine(Na h2 hOK).mono ?_;rintro e w' ⟨rA,rc,rfl,h3⟩;exact⟨rA,rc,rfl,jM.of (h3.reorder 4 [0,2,1,3] rfl (by simp))⟩
 rintro _ w3 ⟨rA,rc,e,fF⟩;injection e with e
 subst e;clear gX;walk_nrm;refine S1 hF (.slice rA (iK z (dI ss) b).rows.length rc) ?_;walk_nrm;refine cY ?_;show eJ _ _ _ _ _ _ _ w3;refine ca (aiL ?_);refine S1 hF (.int .i64 (hn:Int)) ?_;walk_nrm;refine S1 hF (.slice rA (iK z (dI ss) b).rows.length rc) ?_;walk_nrm;refine S1 hF (.slice sA (gU (dI ss) b).length sc) ?_;walk_nrm;refine pR (f:=41) (R:=λv w'=>jM G w0 (ng v ((iK z (dI ss) b).rows.map λr=>iz r.b (gU (dI ss) b))::cE (.slice rA (iK z (dI ss) b).rows.length rc) (iK z (dI ss) b).rows::nl (.slice sA (gU (dI ss) b).length sc) (gU (dI ss) b)::cj p (iK z (dI ss) b)::da (.slice pA (cm ss ss.length).length pc) (cm ss ss.length)::l) w') rfl rfl rfl (λj u hj=>.inl ?_) ?_ ?_
 ·rcases j with _|_|_|j
  ·cases hj;kernel_rfl
  ·cases hj;kernel_rfl
  ·cases hj;kernel_rfl
  ·simp at hj
 ·walk_nrm;exact ac9 (by have:=fF.size;omega) (.cons (cj.hp _ _) (.cons (dP.hp _ _ _ _ _) hl)) (λr hr=>hOK.w.bo _ _ _ ((mm hOK.w).1 hr)) hrl Ta (Cv hPA.totw b) hn1 hn8 fF
 intro bv w4 fX;clear fF;obtain⟨bA,bc,e,_⟩:=cH (In.own (show In G _ _ w4 from fX));rw[List.length_map]at e;subst e;walk_nrm;refine S1 hF (.int .i64 (iK z (dI ss) b).rows.length) ?_;walk_nrm;refine S1 hF (.int .i64 0) ?_;walk_nrm;refine cY ?_;show eJ _ _ _ _ _ _ _ w4;have eH:jM G w0 (cj p (iK z (dI ss) b)::ng (.slice bA (iK z (dI ss) b).rows.length bc) ((iK z (dI ss) b).rows.map λr=>iz r.b (gU (dI ss) b))::cE (.slice rA (iK z (dI ss) b).rows.length rc) (iK z (dI ss) b).rows::nl (.slice sA (gU (dI ss) b).length sc) (gU (dI ss) b)::da (.slice pA (cm ss ss.length).length pc) (cm ss ss.length)::l) w4:=In.fourth (show In G _ _ w4 from fX);have hlQ:vO (nl (.slice sA (gU (dI ss) b).length sc) (gU (dI ss) b)::da (.slice pA (cm ss ss.length).length pc) (cm ss ss.length)::l):=.cons (dP.hp _ _ _ _ _) (.cons (dP.hp _ _ _ _ _) hl);have hxP:dm ((mX O).at 13) JC=aA:=by kernel_rfl
 have af7:=PX hk hPA b;clear fX;generalize hzb:iK z (dI ss) b=zb at *;refine Gk hF (S:=KL G w0 (nl (.slice sA (gU (dI ss) b).length sc) (gU (dI ss) b)::da (.slice pA (cm ss ss.length).length pc) (cm ss ss.length)::l) rA bA rc bc p zb (λx=>iz x (gU (dI ss) b)) (.int .i64 (hn:Int)) (.slice A ss.length c) _ _ _ _ (.slice pA (cm ss ss.length).length pc) _ (.int .i64 (b:Int)) _ _ _ _ _ _ _ _ _ _ _ _ _ _ _ _ _ _ _ _ _ _ _ _ _ _ _ _ _ _ _ _ _ _ _ _ _ _ _ _ _ _ _ _ _) hxP (λtp d=>yT (aeb _ _ _ _ _ _ _ _ _ _ _ _ _ _ _ _ _ _ _ _ _ _ _ _ _ _ _ _ _ _ _ _ _ _ _ _ _ _ _ _ _ _ _ _ _ _ _ _ _ _ _ _ _ _ _ _ _ _ _ _ _ _ _ _ _ _ _ _ _ _ _ _ _ _ hlQ hOK (N8 hPA b) (λ_=>rfl) (λx hx=>KU hPA b hx) (eH.at_ (.cons (cj.hp _ _) (.cons (dP.hp _ _ _ _ _) (.cons (dP.hp _ _ _ _ _) hlQ))) tp 0 d)) λ_ _ h=>h.same) ?_;rintro _ w5 ⟨y14,y15,y60,y61,y62,y63,y64,y65,y66,y67,y68,y69,y70,y71,y72,y73,y74,y75,y76,y77,y78,rfl,iC⟩;clear eH;show eJ _ _ _ _ _ _ _ w5;refine aiL ?_;have BL:IntKind.i64.wrap ((b:Int)+1)=(b:Int)+1:=IntWalk.i64_in _ (by omega);refine S1 hF (.int .i64 (b:Int)) ?_;walk_nrm;refine S1 hF (.int .i64 ((b+1:Nat):Int)) ?_;walk_nrm;refine S1 hF (.int .i64 ((b+1:Nat):Int)) ?_;walk_nrm;refine cY ?_;rw[af7]at iC;refine⟨ss.length+1-(b+1),by omega,b+1,_,_,_,_,_,_,_,_,_,_,_,_,_,_,_,_,_,_,_,_,_,_,_,_,_,_,_,_,_,_,_,_,_,_,_,_,_,_,_,_,_,_,_,_,_,_,_,_,_,_,_,_,_,_,_,_,_,_,_,_,_,_,_,_,_,_,_,_,_,_,_,_,_,_,rfl,rfl,by omega,?_⟩;have qW:=In.reorder (show In G _ _ w5 from iC) 5 [0,4,1,2,3] rfl (by simp);exact In.swap (In.drop (In.third (In.swap (In.drop (In.third (In.swap (In.drop (In.third (In.swap qW)))))))))
theorem YX {fI:Int}{w:ah}(hold:O.n<=w0.heap.size)(hl:vO l)(hS:nL G w0 B A ss)(hB:B<=w0.heap.size)(hlen:ss.length<=maxLen)(hk:j9 z)(h:jM G w0 (cj p z::l) w):uL Tryz.prog (mX O) Post 13 #[.int .i64 fI,ptr p,.slice A ss.length c] w λv w'=>v=.int .i64 (nD fI ss)/\jM G w0 (cj p (if nD fI ss=0 then jg z ss else z)::l) w':=by
 refine⟨_,_,Tryz.func13,rfl,rfl,rfl,?_⟩;have hF:=nU O;have yf:Tryz.f13.ntmps=79:=rfl;have hlZ:vO (cj p z::l):=.cons (cj.hp _ _) hl;simp only[yf,ec,dJ,cL,au,aj,ax,Nat.reduceAdd,Nat.reduceSub,dR,dS,eX];simp only[Tryz.f13];refine ca (aiL ?_);refine S1 hF (.int .i64 0) ?_;walk_nrm;refine cY ?_;show eJ _ _ _ _ _ _ _ w;refine ca (ca ?_);by_cases C8:fI<1\/8<fI
 ·have hE:nD fI ss=1:=by unfold nD;rw[if_pos C8]
  have fin: ∀{F:Func} {a:Act},F.results= #[.tmp 6]->a.tmps.getD 6 undef=.int .i64 1->zM Tryz.prog F (λv w'=>v=.int .i64 (nD fI ss)/\jM G w0 (cj p (if nD fI ss=0 then jg z ss else z)::l) w') .ret a w:=λhr ht=>⟨.int .i64 1,by rw[results_tmp hr,ht],by rw[hE],by rw[hE,if_neg (by decide)];exact h⟩
  by_cases h1:fI<1
  ·refine aiL ?_;refine S1 hF (.int .i64 fI) ?_;walk_nrm;refine S1 hF (.bool aA) ?_;walk_nrm;refine S1 hF (.bool aA) ?_;walk_nrm;refine Hj rfl rfl ?_;walk_nrm;refine Hj rfl rfl ?_;walk_nrm;refine S1 hF (.bool aA) ?_;walk_nrm;refine cY ?_;refine fS (t:=true) rfl ?_;rw[if_pos rfl];refine ca (aiL ?_);refine S1 hF (.int .i64 1) ?_;walk_nrm;refine cY ?_;refine mQ ?_;exact fin rfl rfl
  ·have h8:8<fI:=C8.resolve_left h1;refine aiL ?_;refine S1 hF (.int .i64 fI) ?_;walk_nrm;refine S1 hF (.bool aw) ?_;walk_nrm;refine S1 hF (.bool aw) ?_;walk_nrm;refine S1 hF (.int .i64 fI) ?_;walk_nrm;refine S1 hF (.bool aA) ?_;walk_nrm;refine S1 hF (.bool aA) ?_;walk_nrm;refine cY ?_;refine fS (t:=true) rfl ?_;rw[if_pos rfl];refine ca (aiL ?_);refine S1 hF (.int .i64 1) ?_;walk_nrm;refine cY ?_;refine mQ ?_;exact fin rfl rfl
 have h1: ¬fI<1:=λh=>C8 (.inl h)
 have h8: ¬8<fI:=λh=>C8 (.inr h)
 have hE:nD fI ss=(dF ss).2:=by unfold nD;rw[if_neg C8]
 obtain⟨hn,rfl⟩: ∃hn:Nat,fI=(hn:Int):=⟨fI.toNat,by omega⟩;rw[hE];refine aiL ?_;refine S1 hF (.int .i64 (hn:Int)) ?_;walk_nrm;refine S1 hF (.bool aw) ?_;walk_nrm;refine S1 hF (.bool aw) ?_;walk_nrm;refine S1 hF (.int .i64 (hn:Int)) ?_;walk_nrm;refine S1 hF (.bool aw) ?_;walk_nrm;refine S1 hF (.bool aw) ?_;walk_nrm;refine cY ?_;refine fS (t:=false) rfl ?_;rw[if_neg (by simp)];refine mH ?_;show eJ _ _ _ _ _ _ _ w;refine ca (aiL ?_);refine S1 hF (.slice A ss.length c) ?_;walk_nrm;refine wu hF (f:=36) (R:=λe w'=> ∃v,e=.returned (.tuple #[v,.int .i64 (dF ss).2])/\jM G w0 (da v (dF ss).1::cj p z::l) w') rfl rfl rfl (by show wX.contains (36)=aA;decide+kernel) (by kernel_rfl) (λtp d=> ?_) (λe w ⟨_,h,_⟩=>⟨_,h⟩) (λv w tp d ⟨_,h,h'⟩=>⟨_,h,h'.RV (.cons (dP.hp _ _ _ _ _) hlZ)⟩) ?_
 ·have h2:=h.at_ hlZ tp 0 d;walk_nrm;refine(MK A c ss _ (gu.more (hS.dB tp 0 h2.bare) (bP hB h2.size)) hlen).mono ?_;rintro e w' ⟨v,rfl,ho,hb⟩;exact⟨v,rfl,jM.of (In.wo h2 ho hb)⟩
 rintro _ w1 ⟨pv,e,jU⟩;injection e with e
 subst e;clear h;walk_nrm;have hpf:=cH (In.own (show In G _ _ w1 from jU));obtain⟨pA,pc,e,_⟩:=hpf;subst e;refine S1 hF (.tuple #[.slice pA (dF ss).1.length pc,.int .i64 (dF ss).2]) ?_;walk_nrm;refine S1 hF (.slice pA (dF ss).1.length pc) ?_;walk_nrm;refine S1 hF (.int .i64 (dF ss).2) ?_;walk_nrm;refine S1 hF (.slice pA (dF ss).1.length pc) ?_;walk_nrm;refine S1 hF (.int .i64 (dF ss).2) ?_;walk_nrm;refine cY ?_;show eJ _ _ _ _ _ _ _ w1;refine ca (ca ?_);by_cases hp0:(dF ss).2=0
 rotate_left
 ·refine aiL ?_;refine S1 hF (.int .i64 (dF ss).2) ?_;walk_nrm;refine S1 hF (.bool aA) ?_;walk_nrm;refine cY ?_;refine fS (t:=true) rfl ?_;rw[if_pos rfl];refine ca (aiL ?_);refine S1 hF (.int .i64 (dF ss).2) ?_;walk_nrm;refine S1 hF (.int .i64 (dF ss).2) ?_;walk_nrm;refine cY ?_;refine mQ ?_;refine⟨.int .i64 (dF ss).2,by rw[results_tmp rfl];rfl,rfl,?_⟩;rw[if_neg hp0];exact In.drop jU
 simp only[TG hp0,hp0]at jU⊢;refine aiL ?_;refine S1 hF (.int .i64 0) ?_;walk_nrm;refine S1 hF (.bool aw) ?_;walk_nrm;refine cY ?_;refine fS (t:=false) rfl ?_;rw[if_neg (by simp)];refine mH ?_;show eJ _ _ _ _ _ _ _ w1;refine ca (ca ?_);refine aiL ?_;refine S1 hF (.int .i64 ((0:Nat):Int)) ?_;walk_nrm;refine cY ?_;show eJ _ _ _ _ _ _ _ w1;refine AW ?_;refine Oi (VR O G w0 l A c p hn ss z (.slice pA (cm ss ss.length).length pc)) (ss.length+1-0) ⟨0,_,_,_,_,_,_,_,_,_,_,_,_,_,_,_,_,_,_,_,_,_,_,_,_,_,_,_,_,_,_,_,_,_,_,_,_,_,_,_,_,_,_,_,_,_,_,_,_,_,_,_,_,_,_,_,_,_,_,_,_,_,_,_,_,_,_,_,_,_,_,_,_,_,_,rfl,rfl,bS _,?_⟩ λm a w2 hI=> ?_
 ·rw[PY];exact In.swap jU
 ·refine xE (PZ hold hl hS hk (by omega) (by omega) hp0 hI) λe a w3 hq=> ?_
  match e,hq with
  | .normal,hq=>exact hq
  | .exit 0,hq=>
    obtain⟨km,fF⟩:=hq;show eJ _ _ _ _ _ _ _ w3;refine ca (aiL ?_);refine S1 hF (.int .i64 0) ?_;refine cY ?_;refine mQ ?_;refine⟨.int .i64 0,?_,rfl,?_⟩
    ·rw[results_tmp rfl];show Result.ok ((a.tmps.setIfInBounds 6 (.int .i64 0)).getD 6 undef) w3=_;rw[bF,aW (by omega)]
     rfl
    ·rw[if_pos trivial];exact fF
  | .exit (n+1),hq=>exact hq.elim
  | .ret,hq=>exact hq.elim
  | .goto _,hq=>exact hq.elim
  | .panic _,hq=>exact hq.elim
  | .outgrown,hq=>exact hq.elim
end
end
section
open Rel
open Go.Conc Go.ConcN
open Go.RowKit
theorem aiN.dB {G:Nat->Prop}{w0:ah}{B:Nat}{A:Option Addr}{os:List ik}(h:aiN G w0 B A os)(tp:Nat->Question->Nat)(d:Nat):aiN G (Rel.dB w0 tp d) B A os:=λ{W} hI=>by have h1:In G w0 [] (Rel.dB W w0.tape W.drawn):=⟨trivial,⟨hI.only.os,rfl,hI.only.output,hI.only.size,hI.only.block⟩⟩;have h2:=h h1;exact h2
section
variable {O:uO} {Post:aq->ah->Prop} {G:Nat->Prop} {w0 w:ah} {L:List bT} {fn:bQ} {ops:Array Oper} {i:Nat} {rest:List Nat} {o:Oper} {f:bQ} {args:Array cw} {tE:Array aF} {Q:Exit->Act->ah->Prop} {a:Act}
theorem kN (R:aq->List bT->Prop)(ho:ops[i]? =ae o)(hw:bu o (yielded ops a.tmps)=aA)(hop:o.op=.call {callee:=.value (.func f),args,argTypes:=tE})(hf:wX.contains f=aA)(po:kY ((mX O).at fn) f 0 args.toList=aA)(hl:vO L)(h:jM G w0 L w)(hR: ∀v L',R v L'->vO L')(u9: ∀tp d,In G (Rel.dB w0 tp 0) L (Rel.dB w tp d)->Calls Tryz.prog f (args.map a.eval) (Rel.dB w tp d) λe u=> ∃v L',e=.returned v/\R v L'/\In G (Rel.dB w0 tp 0) L' u)(rz: ∀v L' w',R v L'->jM G w0 L' w'->sa Tryz.prog (mX O) Post fn ops rest Q (a.put o.dst v) w'):sa Tryz.prog (mX O) Post fn ops (i::rest) Q a w:=
 wu (nU O) (R:=λe u=> ∃v L',e=.returned v/\R v L'/\jM G w0 L' u) ho hw hop hf po
  (λtp d=>(u9 tp d (h.at_ hl tp 0 d)).mono λe u ⟨v,L',h1,h2,h3⟩=>⟨v,L',h1,h2,jM.of h3⟩) (λe u ⟨v,_,h,_⟩=>⟨v,h⟩)
  (λv u tp d ⟨v',L',h1,h2,h3⟩=>⟨v',L',h1,h2,h3.RV (hR v' L' h2)⟩)
  λv u ⟨v',L',h1,h2,h3⟩=>by
   injection h1 with h1
   subst h1;exact rz v L' u h2 h3
end
end
section
open Rel
open Go.Conc Go.ConcN
open Go.RowKit
section
variable {O:uO} {Post:aq->ah->Prop} {A A':Option Addr} {c c':Nat} {os:List ik} {ss:List Sys} {fI:Int} {w:ah} {z:ZS} {sp:List Hd}
abbrev Bx (g:Nat):bT:=bg g 36 #[.slice ai 0 0,.slice ai 0 0,.slice ai 0 0]
theorem abM (hold:O.n<=w.heap.size)(hO:aiN (λ_=>False) w w.heap.size A os)(h80:os.length<=80)(h8: ∀o∈os,o.b.v.length=8)(hS:nL (λ_=>False) w w.heap.size A' ss)(Ta:ss.length<=maxLen)(hr:pM (zB,[]) os=ae (z,sp))(hE:(if fI=0 then(dF ss).2 else nD fI ss)=0):uL Tryz.prog (mX O) Post 22 #[.slice A os.length c,.slice A' ss.length c',.int .i64 fI] w λv w'=> ∃gv rv bv,v=.tuple #[.agg #[gv,rv,bv],.int .i64 0]/\jM (λ_=>False) w (da gv (cX z.ls)::cE rv (jg z ss).rows::kG bv z.B::[]) w':=by
 refine⟨_,_,Tryz.func22,rfl,rfl,rfl,?_⟩;have hF:=nU O;have yf:Tryz.f22.ntmps=35:=rfl;simp only[yf,ec,dJ,cL,au,aj,ax,Nat.reduceAdd,Nat.reduceSub,dR,dS,eX];simp only[Tryz.f22];refine ca (aiL ?_);refine aJ hF (w':=w.alloc (.cells #[.slice ai 0 0,.slice ai 0 0,.slice ai 0 0] 36)) (v:=ptr w.heap.size) rfl rfl (by kernel_rfl) ⟨rfl,rfl⟩ (λtp d=>by go_simp;exact⟨rfl,rfl⟩) ?_;walk_nrm;have jU:jM (λ_=>False) w [Bx w.heap.size] (w.alloc (.cells #[.slice ai 0 0,.slice ai 0 0,.slice ai 0 0] 36)):=jM.abg ((In.nil w (λ_=>False)).alloc 36 _);generalize w.alloc (.cells #[.slice ai 0 0,.slice ai 0 0,.slice ai 0 0] 36)=w1 at *;refine S1 hF (.int .i64 0) ?_;walk_nrm;refine cY ?_;show eJ _ _ _ _ _ _ _ w1;refine ca (aiL ?_);refine kN (f:=35) (λv L'=> ∃p,v=ptr p/\L'=[cj p zB,Bx w.heap.size]) rfl rfl rfl (by decide+kernel) (by kernel_rfl) (.cons (bg.hp _ _ _) .nil) jU (by rintro v L' ⟨p,_,rfl⟩;exact .cons (cj.hp _ _) (.cons (bg.hp _ _ _) .nil)) (λtp d h1=> ?_) ?_
 ·walk_nrm;refine(R9 h1).mono ?_;rintro e u ⟨p,rfl,h2⟩;exact⟨_,_,rfl,⟨p,rfl,rfl⟩,h2⟩
 rintro _ _ w2 ⟨p,rfl,rfl⟩ gX;clear jU;walk_nrm;refine S1 hF (ptr p) ?_;walk_nrm;refine cY ?_;show eJ _ _ _ _ _ _ _ w2;refine ca (aiL ?_);refine S1 hF (ptr p) ?_;walk_nrm;refine S1 hF (.slice A os.length c) ?_;walk_nrm;refine kN (f:=49) (λv L'=>v=.tuple #[.int .i64 (os.length:Int),.int .i64 0]/\L'=[cj p z,Bx w.heap.size]) rfl rfl rfl (by decide+kernel) (by kernel_rfl) (.cons (cj.hp _ _) (.cons (bg.hp _ _ _) .nil)) gX (by rintro v L' ⟨_,rfl⟩;exact .cons (cj.hp _ _) (.cons (bg.hp _ _ _) .nil)) (λtp d h1=> ?_) ?_
 ·walk_nrm;refine(aca (hO.dB tp 0) (by omega) h8 j9.nil h1).mono ?_;rintro e u ⟨n,en,rfl,hp⟩;rcases hp with⟨z',sp',_,we,rfl,rfl,h2⟩|⟨_,_,_,wM,_⟩
  ·rw[hr]at we;cases we;exact⟨_,_,rfl,⟨rfl,rfl⟩,h2⟩
  ·rw[wM h80]at hr;cases hr
 rintro _ _ w3 ⟨rfl,rfl⟩ fF;clear gX;walk_nrm;refine S1 hF (.tuple #[.int .i64 (os.length:Int),.int .i64 0]) ?_;walk_nrm;refine S1 hF (.int .i64 (os.length:Int)) ?_;walk_nrm;refine S1 hF (.int .i64 0) ?_;walk_nrm;refine S1 hF (.int .i64 (os.length:Int)) ?_;walk_nrm;refine S1 hF (.int .i64 0) ?_;walk_nrm;refine cY ?_;show eJ _ _ _ _ _ _ _ w3;have aaO:j9 z:=RH (s:=(zB,[])) (s':=(z,sp)) j9.nil h8 hr;refine ca (ca ?_);refine aiL ?_;refine S1 hF (.int .i64 0) ?_;walk_nrm;refine S1 hF (.bool aA) ?_;walk_nrm;refine cY ?_;refine fS (t:=true) rfl ?_;rw[if_pos rfl];by_cases hh:fI=0
 ·rw[if_pos hh]at hE;refine ca (aiL ?_);refine S1 hF (.int .i64 fI) ?_;walk_nrm;refine S1 hF (.bool aA) ?_;walk_nrm;refine cY ?_;refine fS (t:=true) rfl ?_;rw[if_pos rfl];refine aiL ?_;refine S1 hF (ptr p) ?_;walk_nrm;refine S1 hF (.slice A' ss.length c') ?_;walk_nrm;refine kN (f:=12) (λv L'=>v=.int .i64 0/\L'=[cj p (jg z ss),Bx w.heap.size]) rfl rfl rfl (by decide+kernel) (by kernel_rfl) (.cons (cj.hp _ _) (.cons (bg.hp _ _ _) .nil)) fF (by rintro v L' ⟨_,rfl⟩;exact .cons (cj.hp _ _) (.cons (bg.hp _ _ _) .nil)) (λtp d h1=> ?_) ?_
  ·walk_nrm;refine(D6 (hS.dB tp 0) (az _) Ta h1 aaO).mono ?_;rintro e u ⟨rfl,h2⟩;rw[hE,if_pos rfl]at h2;exact⟨_,_,rfl,⟨by rw[hE],rfl⟩,h2⟩
  rintro _ _ w4 ⟨rfl,rfl⟩ fX;clear fF;walk_nrm;refine S1 hF (.int .i64 0) ?_;walk_nrm;refine cY ?_;show eJ _ _ _ _ _ _ _ w4;refine ca (ca ?_);refine aiL ?_;refine S1 hF (.int .i64 0) ?_;walk_nrm;refine S1 hF (.bool aw) ?_;walk_nrm;refine cY ?_;refine fS (t:=false) rfl ?_;rw[if_neg (by simp)];refine mH ?_;show eJ _ _ _ _ _ _ _ w4;refine ca (aiL ?_);refine S1 hF (ptr p) ?_;walk_nrm;refine kN (f:=16) (λv L'=> ∃A1 c1 A2 c2 A3 c3,v=.agg #[.slice A1 (cX z.ls).length c1,.slice A2 (jg z ss).rows.length c2,.slice A3 z.B.length c3]/\L'=[Bx w.heap.size,da (.slice A1 (cX z.ls).length c1) (cX z.ls),cE (.slice A2 (jg z ss).rows.length c2) (jg z ss).rows,kG (.slice A3 z.B.length c3) z.B,cj p (jg z ss)]) rfl rfl rfl (by decide+kernel) (by kernel_rfl) (.cons (cj.hp _ _) (.cons (bg.hp _ _ _) .nil)) fX (by rintro v L' ⟨_,_,_,_,_,_,_,rfl⟩;exact .cons (bg.hp _ _ _) (.cons (dP.hp _ _ _ _ _) (.cons (dP.hp _ _ _ _ _) (.cons (dP.hp _ _ _ _ _) (.cons (cj.hp _ _) .nil))))) (λtp d h1=> ?_) ?_
  ·walk_nrm;refine(ug h1 (aaO.run ss)).mono ?_;rintro e u ⟨A1,c1,A2,c2,A3,c3,rfl,h2⟩;rw[(Ct z ss).1,(Ct z ss).2]at *;exact⟨_,_,rfl,⟨A1,c1,A2,c2,A3,c3,rfl,rfl⟩,h2.reorder 5 [4,0,1,2,3] rfl (by simp)⟩
  rintro _ _ w5 ⟨A1,c1,A2,c2,A3,c3,rfl,rfl⟩ eH;clear fX;walk_nrm;have f1: ∀tp d,fits (Rel.dB w5 tp d) w.heap.size 0 3=aA:=λtp d=>(In.blk (show In _ _ _ w5 from eH)).fits 0 3 (by simp)
  have iC:=jM.of (tp:=w5.tape) (d:=w.drawn) (w0:=w) (In.Pz (show In _ _ _ w5 from eH) [.slice A1 (cX z.ls).length c1,.slice A2 (jg z ss).rows.length c2,.slice A3 z.B.length c3] rfl);refine wx hF (w':=fV w5 w.heap.size 0 [.slice A1 (cX z.ls).length c1,.slice A2 (jg z ss).rows.length c2,.slice A3 z.B.length c3]) rfl rfl (by kernel_rfl) (λtp d=>by have h:=f1 tp d;go_simp;rfl) ?_;walk_nrm;clear eH f1;generalize fV w5 w.heap.size 0 [.slice A1 (cX z.ls).length c1,.slice A2 (jg z ss).rows.length c2,.slice A3 z.B.length c3]=w6 at *;refine S1 hF (.int .i64 0) ?_;walk_nrm;refine cY ?_;refine mQ ?_;refine⟨.tuple #[.agg #[.slice A1 (cX z.ls).length c1,.slice A2 (jg z ss).rows.length c2,.slice A3 z.B.length c3],.int .i64 0],?_,_,_,_,rfl,?_⟩
  ·have hz: ∀(fn:Func) (tmps:Array aq),fn.results= #[.cell 6 36,.tmp 7]->tmps.getD 6 undef=ptr w.heap.size->(results fn tmps).run Tryz.prog w6=.ok (.tuple #[.agg #[.slice A1 (cX z.ls).length c1,.slice A2 (jg z ss).rows.length c2,.slice A3 z.B.length c3],tmps.getD 7 undef]) w6:=λfn tmps h1 h2=>pd h1 tmps w6 w.heap.size 36 #[.slice A1 (cX z.ls).length c1,.slice A2 (jg z ss).rows.length c2,.slice A3 z.B.length c3] (0,0) _ h2 (In.blk iC) Tryz.underlying36 rfl qQ
   exact hz _ _ rfl rfl
  ·exact In.drop (In.fourth (In.drop iC))
 ·rw[if_neg hh]at hE;refine ca (aiL ?_);refine S1 hF (.int .i64 fI) ?_;walk_nrm;refine S1 hF (.bool aw) ?_;walk_nrm;refine cY ?_;refine fS (t:=false) rfl ?_;rw[if_neg (by simp)];refine aiL ?_;refine S1 hF (.int .i64 fI) ?_;walk_nrm;refine S1 hF (ptr p) ?_;walk_nrm;refine S1 hF (.slice A' ss.length c') ?_;walk_nrm;refine pR (f:=13) (R:=λv w'=>v=.int .i64 (nD fI ss)/\jM (λ_=>False) w (cj p (if nD fI ss=0 then jg z ss else z)::[Bx w.heap.size]) w') rfl rfl rfl (λj u hj=>.inl ?_) ?_ ?_
  ·rcases j with _|_|_|j
   ·cases hj;kernel_rfl
   ·cases hj;kernel_rfl
   ·cases hj;kernel_rfl
   ·simp at hj
  ·walk_nrm;exact YX hold (.cons (bg.hp _ _ _) .nil) hS (az _) Ta aaO fF
  rintro _ w4 ⟨rfl,fX⟩;rw[hE,if_pos rfl]at fX;rw[hE];clear fF;walk_nrm;refine S1 hF (.int .i64 0) ?_;walk_nrm;refine cY ?_;show eJ _ _ _ _ _ _ _ w4;refine ca (ca ?_);refine aiL ?_;refine S1 hF (.int .i64 0) ?_;walk_nrm;refine S1 hF (.bool aw) ?_;walk_nrm;refine cY ?_;refine fS (t:=false) rfl ?_;rw[if_neg (by simp)];refine mH ?_;show eJ _ _ _ _ _ _ _ w4;refine ca (aiL ?_);refine S1 hF (ptr p) ?_;walk_nrm;refine kN (f:=16) (λv L'=> ∃A1 c1 A2 c2 A3 c3,v=.agg #[.slice A1 (cX z.ls).length c1,.slice A2 (jg z ss).rows.length c2,.slice A3 z.B.length c3]/\L'=[Bx w.heap.size,da (.slice A1 (cX z.ls).length c1) (cX z.ls),cE (.slice A2 (jg z ss).rows.length c2) (jg z ss).rows,kG (.slice A3 z.B.length c3) z.B,cj p (jg z ss)]) rfl rfl rfl (by decide+kernel) (by kernel_rfl) (.cons (cj.hp _ _) (.cons (bg.hp _ _ _) .nil)) fX (by rintro v L' ⟨_,_,_,_,_,_,_,rfl⟩;exact .cons (bg.hp _ _ _) (.cons (dP.hp _ _ _ _ _) (.cons (dP.hp _ _ _ _ _) (.cons (dP.hp _ _ _ _ _) (.cons (cj.hp _ _) .nil))))) (λtp d h1=> ?_) ?_
  ·walk_nrm;refine(ug h1 (aaO.run ss)).mono ?_;rintro e u ⟨A1,c1,A2,c2,A3,c3,rfl,h2⟩;rw[(Ct z ss).1,(Ct z ss).2]at *;exact⟨_,_,rfl,⟨A1,c1,A2,c2,A3,c3,rfl,rfl⟩,h2.reorder 5 [4,0,1,2,3] rfl (by simp)⟩
  rintro _ _ w5 ⟨A1,c1,A2,c2,A3,c3,rfl,rfl⟩ eH;clear fX;walk_nrm;have f1: ∀tp d,fits (Rel.dB w5 tp d) w.heap.size 0 3=aA:=λtp d=>(In.blk (show In _ _ _ w5 from eH)).fits 0 3 (by simp)
  have iC:=jM.of (tp:=w5.tape) (d:=w.drawn) (w0:=w) (In.Pz (show In _ _ _ w5 from eH) [.slice A1 (cX z.ls).length c1,.slice A2 (jg z ss).rows.length c2,.slice A3 z.B.length c3] rfl);refine wx hF (w':=fV w5 w.heap.size 0 [.slice A1 (cX z.ls).length c1,.slice A2 (jg z ss).rows.length c2,.slice A3 z.B.length c3]) rfl rfl (by kernel_rfl) (λtp d=>by have h:=f1 tp d;go_simp;rfl) ?_;walk_nrm;clear eH f1;generalize fV w5 w.heap.size 0 [.slice A1 (cX z.ls).length c1,.slice A2 (jg z ss).rows.length c2,.slice A3 z.B.length c3]=w6 at *;refine S1 hF (.int .i64 0) ?_;walk_nrm;refine cY ?_;refine mQ ?_;refine⟨.tuple #[.agg #[.slice A1 (cX z.ls).length c1,.slice A2 (jg z ss).rows.length c2,.slice A3 z.B.length c3],.int .i64 0],?_,_,_,_,rfl,?_⟩
  ·have hz: ∀(fn:Func) (tmps:Array aq),fn.results= #[.cell 6 36,.tmp 7]->tmps.getD 6 undef=ptr w.heap.size->(results fn tmps).run Tryz.prog w6=.ok (.tuple #[.agg #[.slice A1 (cX z.ls).length c1,.slice A2 (jg z ss).rows.length c2,.slice A3 z.B.length c3],tmps.getD 7 undef]) w6:=λfn tmps h1 h2=>pd h1 tmps w6 w.heap.size 36 #[.slice A1 (cX z.ls).length c1,.slice A2 (jg z ss).rows.length c2,.slice A3 z.B.length c3] (0,0) _ h2 (In.blk iC) Tryz.underlying36 rfl qQ
   exact hz _ _ rfl rfl
  ·exact In.drop (In.fourth (In.drop iC))
end
end
section
open Rel
open Go.Conc Go.ConcN
open Go.RowKit
theorem jM.join {F:Nat->Prop}{w0 w1 w2:ah}(h1:jM F w0 [] w1)(h2:jM F w1 [] w2):jM F w0 [] w2:=by have a:=h1.only;have b:=h2.only;exact⟨trivial,⟨b.os.trans a.os,rfl,b.output.trans a.output,bP a.size b.size,λk hk hn=>(b.block k (bX hk a.size) hn).trans (a.block k hk hn)⟩⟩
theorem jM.bare {F:Nat->Prop}{w0 w:ah}{l:List bT}(h:jM F w0 l w):jM F w0 [] w:=In.bare (show In F _ _ w from h)
def DD:ik:=⟨1,⟨1,[0,0,0,0,0,0,0,0]⟩,(0,0),(0,0),0,0⟩
def JF:Sys:=⟨⟨0,0,0⟩,0,1,1,5⟩
theorem YB:pM (zB,[]) [DD]=ae (⟨[(0,aA)],dH (λ_=>ai) 0 (ae (0,DD.b)),[]⟩,[(0,0)]):=by
 have s1:fQ zB.ls zB.f DD.b=(([(0,aA)],dH (λ_=>ai) 0 (ae (0,DD.b))),(0,0),0):=rfl;have d1:ti zB DD=(⟨[(0,aA)],dH (λ_=>ai) 0 (ae (0,DD.b)),[]⟩,(0,0),0):=by rw[acp _ _ rfl,s1];rfl
 have l1:mL [] DD=ae DD:=rfl;have t1:vG (zB,[]) DD=ae (⟨[(0,aA)],dH (λ_=>ai) 0 (ae (0,DD.b)),[]⟩,[(0,0)]):=by
  unfold vG Lg Mx;rw[l1];simp only[eY,bI,d1]
  rfl
 rw[pM,t1]
 rfl
theorem YA:(jg ⟨[(0,aA)],dH (λ_=>ai) 0 (ae (0,DD.b)),[]⟩ [JF]).rows=[⟨(0,0),⟨1,[5,0,0,0,0,0,0,0]⟩⟩]:=by rfl
section
variable {O:uO} {Post:aq->ah->Prop} {w:ah}
theorem ahU (hold:O.n<=w.heap.size):uL Tryz.prog (mX O) Post 10 #[] w λv w'=>v=.bool aA/\jM (λ_=>False) w [] w':=by
 have h8: ∀o∈[DD],o.b.v.length=8:=by intro o ho;rw[eC]at ho;rw[ho];rfl
 refine⟨_,_,Tryz.func10,rfl,rfl,rfl,?_⟩;have hF:=nU O;have yf:Tryz.f10.ntmps=30:=rfl;simp only[yf,ec,dJ,cL,au,aj,ax,Nat.reduceAdd,Nat.reduceSub,dR,dS,eX];simp only[Tryz.f10];refine ca (aiL ?_);refine S1 hF (.bool aw) ?_;walk_nrm;refine cY ?_;show eJ _ _ _ _ _ _ _ w;refine ca (aiL ?_);refine aJ hF (w':=w) (v:=.agg (ints [1,0,0,0,0,0,0,0,0])) rfl rfl (by kernel_rfl) ⟨rfl,rfl⟩ (λtp d=>by kernel_rfl) ?_;walk_nrm;refine aJ hF (w':=w) (v:=.agg (ints [1,1,0,0,0,0,0,0,0,0,0,0,0,0,0,0])) rfl rfl (by kernel_rfl) ⟨rfl,rfl⟩ (λtp d=>by kernel_rfl) ?_;walk_nrm;refine aJ hF (w':=w.alloc (.cells (ints ([DD].flatMap ik.list)) 74)) (v:=.slice (ae ⟨w.heap.size,0,ai⟩) 1 1) rfl rfl (by kernel_rfl) ⟨rfl,rfl⟩ (λtp d=>by kernel_rfl) ?_;walk_nrm;refine aJ hF (w':=w.alloc (.cells (ints ([DD].flatMap ik.list)) 74)) (v:=.agg (ints [0,0,0,0,1,1,5])) rfl rfl (by kernel_rfl) ⟨rfl,rfl⟩ (λtp d=>by kernel_rfl) ?_;walk_nrm;refine aJ hF (w':=(w.alloc (.cells (ints ([DD].flatMap ik.list)) 74)).alloc (.cells (ints ([JF].flatMap Sys.list)) 54)) (v:=.slice (ae ⟨w.heap.size+1,0,ai⟩) 1 1) rfl rfl (by kernel_rfl) ⟨rfl,rfl⟩ (λtp d=>by rw[show w.heap.size+1=((w.alloc (.cells (ints ([DD].flatMap ik.list)) 74)).heap.size)by simp];kernel_rfl) ?_;walk_nrm;have hI:In (λ_=>False) w [bg (w.heap.size+1) 54 (ints ([JF].flatMap Sys.list)),bg w.heap.size 74 (ints ([DD].flatMap ik.list))] ((w.alloc (.cells (ints ([DD].flatMap ik.list)) 74)).alloc (.cells (ints ([JF].flatMap Sys.list)) 54)):=by have:=((In.nil w (λ_=>False)).alloc 74 (ints ([DD].flatMap ik.list))).alloc 54 (ints ([JF].flatMap Sys.list));rw[cQ]at this;exact this
 have hO:=aiN.Du (F:=λ_=>False) hI.swap.blk h8 (λh=>h) (In.nil _ _);have hS:=nL.Du (F:=λ_=>False) hI.blk (λh=>h) (In.nil _ _);have km:((w.alloc (.cells (ints ([DD].flatMap ik.list)) 74)).alloc (.cells (ints ([JF].flatMap Sys.list)) 54)).heap.size=w.heap.size+2:=by simp
 have hB:jM (λ_=>False) w [] ((w.alloc (.cells (ints ([DD].flatMap ik.list)) 74)).alloc (.cells (ints ([JF].flatMap Sys.list)) 54)):=jM.abg hI.bare;generalize (w.alloc (.cells (ints ([DD].flatMap ik.list)) 74)).alloc (.cells (ints ([JF].flatMap Sys.list)) 54)=w2 at *;refine pR (f:=22) (R:=λv w'=> ∃gv rv bv,v=.tuple #[.agg #[gv,rv,bv],.int .i64 0]/\jM (λ_=>False) w2 (da gv (cX [(0,aA)])::cE rv [⟨(0,0),⟨1,[5,0,0,0,0,0,0,0]⟩⟩]::kG bv []::[]) w') rfl rfl rfl (λj u hj=>.inl ?_) ?_ ?_
 ·rcases j with _|_|_|j
  ·cases hj;kernel_rfl
  ·cases hj;kernel_rfl
  ·cases hj;kernel_rfl
  ·simp at hj
 ·walk_nrm;have:=abM (O:=O) (Post:=Post) (A:=ae ⟨w.heap.size,0,ai⟩) (A':=ae ⟨w.heap.size+1,0,ai⟩) (c:=1) (c':=1) (os:=[DD]) (ss:=[JF]) (fI:=3) (w:=w2) (by omega) (aiN.Dt (gu.more hO (by omega))) (by decide) h8 (nL.Dt (gu.more hS (by omega))) (by decide) YB (by decide);rw[YA]at this;exact this
 rintro _ w3 ⟨gv,rv,bv,rfl,fF⟩;obtain⟨A1,c1,rfl,_,_,_⟩:=cH (In.own (show In _ _ _ w3 from fF));obtain⟨A2,c2,rfl,_,_,_⟩:=cH (In.own (In.swap (show In _ _ _ w3 from fF)));obtain⟨A3,c3,rfl,_,_,_⟩:=cH (In.own (In.third (show In _ _ _ w3 from fF)));obtain⟨g,rfl,_⟩:=qK (In.swap (show In _ _ _ w3 from fF)) (k:=0) (by simp) rfl;walk_nrm;refine S1 hF (.tuple #[.agg #[.slice A1 (cX [(0,aA)]).length c1,.slice (ae ⟨g,0,ai⟩) [(⟨(0,0),⟨1,[5,0,0,0,0,0,0,0]⟩⟩:cz)].length c2,.slice A3 ([]:List (Hd×Hd)).length c3],.int .i64 0]) ?_;walk_nrm;refine S1 hF (.agg #[.slice A1 (cX [(0,aA)]).length c1,.slice (ae ⟨g,0,ai⟩) [(⟨(0,0),⟨1,[5,0,0,0,0,0,0,0]⟩⟩:cz)].length c2,.slice A3 ([]:List (Hd×Hd)).length c3]) ?_;walk_nrm;refine S1 hF (.int .i64 0) ?_;walk_nrm;refine aJ hF (w':=w3.alloc (.cells #[.slice ai 0 0,.slice ai 0 0,.slice ai 0 0] 36)) (v:=ptr w3.heap.size) rfl rfl (by kernel_rfl) ⟨rfl,rfl⟩ (λtp d=>by go_simp;exact⟨rfl,rfl⟩) ?_;walk_nrm;have fX:jM (λ_=>False) w2 (Bx w3.heap.size::da (.slice A1 (cX [(0,aA)]).length c1) (cX [(0,aA)])::cE (.slice (ae ⟨g,0,ai⟩) [(⟨(0,0),⟨1,[5,0,0,0,0,0,0,0]⟩⟩:cz)].length c2) [⟨(0,0),⟨1,[5,0,0,0,0,0,0,0]⟩⟩]::kG (.slice A3 ([]:List (Hd×Hd)).length c3) []::[]) (w3.alloc (.cells #[.slice ai 0 0,.slice ai 0 0,.slice ai 0 0] 36)):=In.alloc (show In _ _ _ w3 from fF) _ _;generalize w3.alloc (.cells #[.slice ai 0 0,.slice ai 0 0,.slice ai 0 0] 36)=w4 at *;generalize w3.heap.size=sb at *;have f1: ∀tp d,fits (Rel.dB w4 tp d) sb 0 3=aA:=λtp d=>(In.blk (show In _ _ _ w4 from fX)).fits 0 3 (by simp)
 have eH:=jM.of (tp:=w4.tape) (d:=w2.drawn) (w0:=w2) (In.Pz (show In _ _ _ w4 from fX) [.slice A1 (cX [(0,aA)]).length c1,.slice (ae ⟨g,0,ai⟩) [(⟨(0,0),⟨1,[5,0,0,0,0,0,0,0]⟩⟩:cz)].length c2,.slice A3 ([]:List (Hd×Hd)).length c3] rfl);refine wx hF (w':=fV w4 sb 0 [.slice A1 (cX [(0,aA)]).length c1,.slice (ae ⟨g,0,ai⟩) [(⟨(0,0),⟨1,[5,0,0,0,0,0,0,0]⟩⟩:cz)].length c2,.slice A3 ([]:List (Hd×Hd)).length c3]) rfl rfl (by kernel_rfl) (λtp d=>by have h:=f1 tp d;go_simp;rfl) ?_;walk_nrm;clear fF fX f1;generalize fV w4 sb 0 [.slice A1 (cX [(0,aA)]).length c1,.slice (ae ⟨g,0,ai⟩) [(⟨(0,0),⟨1,[5,0,0,0,0,0,0,0]⟩⟩:cz)].length c2,.slice A3 ([]:List (Hd×Hd)).length c3]=w5 at *;refine S1 hF (.int .i64 0) ?_;walk_nrm;refine cY ?_;show eJ _ _ _ _ _ _ _ w5;have k1: ∀tp d,(Rel.dB w5 tp d).cell? ⟨sb,1,ai⟩=ae (.slice (ae ⟨g,0,ai⟩) 1 c2):=λtp d=>(In.blk (show In _ _ _ w5 from eH)).cell 1
 obtain⟨g',e0,q⟩:=qK (In.third (show In _ _ _ w5 from eH)) (k:=0) (by simp) rfl;have e1:g'=g:=by injection e0 with e0;injection e0 with e0;exact e0.symm
 subst e1;refine ca (aiL ?_);have k2: ∀tp d,(Rel.dB w5 tp d).cell? ⟨g',3,ai⟩=ae (.int .i64 5):=λtp d=>by have q3:row? w5 g' 3 8=ae (ints [5,0,0,0,0,0,0,0]):=wD q 3 8 (by omega);exact CS (j:=0) q3 rfl rfl
 refine S1 hF (.int .i64 0) ?_;walk_nrm;refine S1 hF (.bool aA) ?_;walk_nrm;refine S1 hF (.bool aA) ?_;walk_nrm;refine S1 hF (.pointer (ae ⟨sb,1,ai⟩)) ?_;walk_nrm;refine aJ hF (w':=w5) (v:=.slice (ae ⟨g',0,ai⟩) 1 c2) rfl rfl (by kernel_rfl) ⟨rfl,rfl⟩ (λtp d=>by have h:=k1 tp d;go_simp) ?_;walk_nrm;refine S1 hF (.int .i64 1) ?_;walk_nrm;refine S1 hF (.bool aA) ?_;walk_nrm;refine S1 hF (.bool aA) ?_;walk_nrm;refine S1 hF (.bool aA) ?_;walk_nrm;refine S1 hF (.pointer (ae ⟨sb,1,ai⟩)) ?_;walk_nrm;refine aJ hF (w':=w5) (v:=.slice (ae ⟨g',0,ai⟩) 1 c2) rfl rfl (by kernel_rfl) ⟨rfl,rfl⟩ (λtp d=>by have h:=k1 tp d;go_simp) ?_;walk_nrm;refine S1 hF (.pointer (ae ⟨g',0,ai⟩)) ?_;walk_nrm;refine S1 hF (.pointer (ae ⟨g',2,ai⟩)) ?_;walk_nrm;refine S1 hF (.pointer (ae ⟨g',3,ai⟩)) ?_;walk_nrm;refine S1 hF (.pointer (ae ⟨g',3,ai⟩)) ?_;walk_nrm;refine aJ hF (w':=w5) (v:=.int .i64 5) rfl rfl (by kernel_rfl) ⟨rfl,rfl⟩ (λtp d=>by have h:=k2 tp d;go_simp) ?_;walk_nrm;refine S1 hF (.bool aA) ?_;walk_nrm;refine S1 hF (.bool aA) ?_;walk_nrm;refine S1 hF (.bool aA) ?_;walk_nrm;refine cY ?_;refine mQ ⟨.bool aA,by rw[results_tmp rfl];rfl,rfl,?_⟩;exact hB.join (jM.bare eH)
end
end
section
open Rel
open Go.Conc Go.ConcN
open Go.RowKit Go.ChangeShapes Go.WideShapes Go.ChangeAt Go.Deep
def vt (W:ah):uO:=⟨W.heap.size,λa=>match W.cell? a with|some (.int .i64 x)=>ae x|_=>Option.none,λa x h=>by
 split at h
 ·rename_i hc;exact Cc hc
 ·cases h⟩
theorem Pr {W:ah}{a:Addr}{x:Int}(h:(vt W).mem a=ae x):W.cell? a=ae (.int .i64 x):=by
 have h:(match W.cell? a with|some (.int .i64 x)=>ae x|_=>Option.none)=ae x:=h
 split at h
 ·rename_i hc;cases h;exact hc
 ·cases h
theorem Tx {W:ah}{a:Addr}{x:Int}(h:W.cell? a=ae (.int .i64 x)):(vt W).mem a=ae x:=by show(match W.cell? a with|some (.int .i64 x)=>ae x|_=>Option.none)=ae x;rw[h]
theorem abF {W:ah}{b o n:Nat}{xs:List Int}(h:row? W b o n=ae (ints xs))(hn:xs.length=n): ∀j,j<n-> ∃x,(vt W).mem ⟨b,o+j,ai⟩=ae x:=λj hj=>⟨xs[j],Tx (CS h hn (ao (by omega)))⟩
def Z9 (W:ah)(f:bQ)(i:Nat)(v:aq):Prop:=(i∈bdM f/\lU (mX (vt W)) (kdM f i) v)\/AH (mX (vt W)).sig v
theorem AO {W:ah}{e:aF}{m:Nat}(hm:Lr e=ae m){A:Option Addr}{rs:List (List Int)}(h:gu W W.heap.size m A rs)(c:Nat):lU (mX (vt W)) (.sl e) (.slice A rs.length c)\/AH (mX (vt W)).sig (.slice A rs.length c):=by
 cases A with
 |none=>exact .inr λπ=>.j6 _ _
 |some a=>refine .inl ⟨a,_,_,rfl,λm' U7 i hi=> ?_⟩;have U7:Lr e=ae m':=U7;rw[hm]at U7;cases U7;obtain⟨b,o,e1,_,hr⟩:=gu.at_ h hi;cases e1;have ea:(⟨b,o,ai⟩:Addr).add (i *m)=⟨b,o+i *m,ai⟩:=ym _ rfl _;rw[ea];exact⟨rfl,m,hm,abF hr (h.1 _ (aU hi))⟩
theorem V4 {W:ah}{f:bQ}{i:Nat}(hi:i∈bdM f)(hk:kdM f i=.sl 74){A:Option Addr}{os:List ik}(h:uP W W.heap.size A os)(c:Nat):Z9 W f i (.slice A os.length c):=by
 have:=AO (e:=74) rfl h c;rw[List.length_map]at this;rcases this with h1|h1
 ·exact .inl ⟨hi,by rw[hk];exact h1⟩
 ·exact .inr h1
theorem V5 {W:ah}{f:bQ}{i:Nat}(hi:i∈bdM f)(hk:kdM f i=.sl 54){A:Option Addr}{ss:List Sys}(h:ui W W.heap.size A ss)(c:Nat):Z9 W f i (.slice A ss.length c):=by
 have:=AO (e:=54) rfl h c;rw[List.length_map]at this;rcases this with h1|h1
 ·exact .inl ⟨hi,by rw[hk];exact h1⟩
 ·exact .inr h1
theorem JB:Tryz.prog.globals.size=0:=by decide+kernel
theorem Ti {os:Os}(started:os.Started){H:Type}{enc:aF×aq->H}{f:bQ}{fn:Func}{s:ChangeSpec}(ad5:Tryz.checked.prog.inits.idxOf? f=ai)(NO:Tryz.checked.prog.funcs[f]? =ae fn)(hts: ∀t∈fn.params.toList,Tryz.prog.readableRec t=aA/\t<Tryz.prog.types.size)(sO:fn.resultTypes= #[4])(GQ:s.vars=[])(hs: ∀ds:List (DataW H),ds.length=fn.params.toList.length->s.fn H ds={results:=[.lit (.bool aA)],args:=ds})(witness: ∃(w:ah) (tape:Tape) (i:Input),w.os=os/\(w.forCall tape i).Shaped Tryz.checked.prog/\i.vars=[]/\Input.okWide Tryz.checked.prog (w.forCall tape i) .any w.heap.size f i/\s.pre6 enc Tryz.checked.prog fn [] aw (w.forCall tape i).memory i.args/\Assume.holds {} Tryz.checked.prog (lone (fu Tryz.checked.prog f i.args .normal) [] (w.forCall tape i)))(walk: ∀(W:ah) (base:Nat) (args:Array aq) (ds:List (DataW H)) (p:List MemPlace),(∀(j:Nat) t v,fn.params[j]? =ae t->args[j]? =ae v->Value.okWide Tryz.prog W .any base t v)->DataW.TrodAll enc Tryz.prog W 0 (λ_=>aA) aA fn.params.toList args.toList ds p->(∀x∈p,x.block<W.heap.size)->(DataW.weightsEach Tryz.prog fn.params.toList ds).all (· <=reachBytes)=aA->(∀i v,args[i]? =ae v->Z9 W f i v)/\ ∀Post,uL Tryz.prog (mX (vt W)) Post f args W λv W'=>v=.bool aA/\jM (λ_=>False) W [] W'):ReturnsInLeavingWide {} Tryz.checked os f .any (s.pre6 enc Tryz.prog fn [] aw) (s.post enc Tryz.prog fn aw aA aw aw):=by
 refine returnsInLeavingWide_of_change_sized (C:=Tryz.checked) Yj started NO witness ?_;intro W base args ds gs before L3 hW _ km _;have hW':=hW;obtain⟨p,q,hA,hV,rfl,_,_⟩:=hW;rw[GQ]at hV;obtain⟨rfl,rfl⟩:=trodVars_none hV;have bE: ∀x∈p,x.block<W.heap.size:=λx hx=>hW'.lt x (by simpa using hx)
 have hv:s.plain.varTypes Tryz.checked.prog=[]:=by simp[ChangeSpec.plain,DataSpec.varTypes,GQ]
 rw[hv,eN,eN]at km;have hlen:ds.length=fn.params.toList.length:=by
  have ahB: ∀(ts:List aF) (vs:List aq) (ds:List (DataW H)) (ps:List MemPlace),DataW.TrodAll enc Tryz.prog W 0 (λ_=>aA) aA ts vs ds ps->ds.length=ts.length:=by
   intro ts
   induction ts with
   |nil=>intro vs ds ps h;obtain⟨_,rfl,_⟩:=trodAll_nil h;rfl
   |cons t ts ih=>intro vs ds ps h;obtain⟨v,vs',d,UX,p,q,_,rfl,_,_,h2⟩:=trodAll_cons h;simp[ih _ _ _ h2]
  exact ahB _ _ _ _ hA
 obtain⟨po,u9⟩:=walk W base args ds p L3 hA bE km;refine XQ (P:=Tryz.prog) (c:=mX (vt W)) (f:=f) (args:=args) (w:=W) (by rw[JB];exact bS _) ad5 po (λa x h=>Pr h) ?_ (u9 _);rintro v w' ⟨rfl,hI⟩ tp d;have jU:=hI.dB .nil tp d;have hb:Below W.heap.size (Rel.dB W tp W.drawn) (Rel.dB w' tp d):=In.II (show In (λ_=>False) (Rel.dB W tp W.drawn) [] (Rel.dB w' tp d)from jU);have hW1:DataW.Whole enc Tryz.checked.prog fn.params.toList s.vars aw (Rel.dB W tp W.drawn) args.toList ds [] (p++[]):=DataW.Whole.of_heap (w':=Rel.dB W tp W.drawn) (by rfl) hW';have LV:=XP (W:=Rel.dB W tp W.drawn) XO hts sO Tryz.underlying4 GQ (hs ds hlen) hW1 hb;obtain⟨UX,sH,bf,pr,pa,pv,g1,g2,g3,g4,g5,g6⟩:=LV;exact⟨UX,sH,bf,pr,pa,pv,DataW.Whole.of_heap (w':=W) (by rfl) g1,g2,g3,g4,g5,g6⟩
end
section
open Rel
open Go.Conc Go.ConcN
open Go.RowKit
end
section
open Rel
open Go.Conc Go.ConcN
open Go.RowKit Go.ChangeShapes Go.WideShapes Go.ChangeAt
theorem ajJ {ss:List Sys}(h:(dF ss).2=0):ss.length<=20/\ ∀s∈ss,eQ s=0:=by
 unfold dF at h
 split at h
 ·exact absurd h (by decide)
 ·split at h
  ·rename_i h1 h2
   exact⟨by omega,ajD h2⟩
  ·rename_i h1 h2
   exact absurd h h2
end
section
open Rel
open Go.Conc Go.ConcN
open Go.RowKit
theorem ajL (ls:List (Int×Bool))(f:BF)(g:aQ->aQ):mf ls (ra f g)=(mf ls f).map λr=>⟨r.h,g r.b⟩:=by unfold mf ra;rw[List.map_filterMap];congr 1;funext h;show Option.map _ (Option.map _ (f h.1))=Option.map _ (Option.map _ (f h.1));cases f h.1<;>rfl
theorem ajO (z:ZS)(ss:List Sys):(jg z ss).rows=z.rows.map λr=>⟨r.h,jh r.b ss⟩:=by rw[YM];exact ajL z.ls z.f (λb=>jh b ss)
theorem ajI {b:aQ}{ss:List Sys}{j:Nat}(hj:j<ss.length):jh b (ss.take (j+1))=cq (jh b (ss.take j)) ss[j]:=by rw[aR hj,Ol]
theorem In.ajV {G:Nat->Prop}{A B C:bT}{l:List bT}{w0 w:ah}(h:In G w0 (A::B::C::l) w):In G w0 [A,B,C] w:=by
 induction l with
 |nil=>exact h
 |cons D l ih=>exact ih (In.drop (In.fourth h))
theorem ajX {v:List Int}(h:v.length=8): ∃y0 y1 y2 y3 y4 y5 y6 y7,v=[y0,y1,y2,y3,y4,y5,y6,y7]:=by
 match v,h with
 | [_,_,_,_,_,_,_,_],_=>exact⟨_,_,_,_,_,_,_,_,rfl⟩
noncomputable def aiU:Code:=match Tryz.f5.body with|some (.seq _ (.seq _ x))=>x|_=>.skip
section
variable {G:Nat->Prop} {w0 w:ah} {A A':Option Addr} {c c' B:Nat} {os:List ik} {ss:List Sys}
theorem ajF (hO:aiN (λ_=>False) w0 B A os)(hlen:os.length<=1099511627776)(h8: ∀o∈os,o.b.v.length=8)(hS:nL (λ_=>False) w0 B A' ss)(hB:B<=w0.heap.size)(Ta:ss.length<=maxLen)(h:In (λ_=>False) w0 [] w):aiU.wp Tryz.prog (yz Tryz.prog Tryz.f5 λv w'=>v=.bool aA/\jM (λ_=>False) w0 [] w') ⟨#[.slice A os.length c,.slice A' ss.length c',undef,undef,.bool aw,undef,undef,undef,undef,undef,undef,undef,undef,undef,undef,.bool aA,.bool aw,undef,undef,undef,undef,undef,undef,undef,undef,undef,undef,undef,undef,undef,undef,undef,undef,undef,undef,undef,undef,undef,undef,undef,undef,undef,undef,undef,undef,undef,undef,undef,undef,undef,undef,undef,undef,undef,undef,undef,undef,undef,undef,undef,undef,undef,undef,undef,undef,undef,undef,undef,undef,undef,undef,undef,undef,undef,undef,undef,undef,undef,undef,undef,undef,undef,undef,undef,undef,undef,undef,undef,undef,undef,undef,undef,undef],[]⟩ w:=by
 have HO:Hid (aiN (λ_=>False) w0 B A os):=hO;have HS:Hid (nL (λ_=>False) w0 B A' ss):=hS;have H8:=af h8;have Se:=af (Ld h8);have pY:=af h;clear hO hS h8 h;simp only[aiU,Tryz.f5]
 go_wp2_with fail
 refine(NG (c:=c) HO.out hlen H8.out pY.out).mono ?_;rintro e w2 ⟨p,rfl,gX⟩;generalize CW os=z at *;have gd:=af gX;clear gX pY HO H8;have hrl:z.rows.length<=60:=yn Se.out.w;have zD:z.B.length<=60:=Se.out.len;have I8:(cX z.ls).length<=60:=by rw[sE];exact Se.out.w.so.1
 go_wp2_with fail
 refine(ug gd.out Se.out).mono ?_;rintro e w3 ⟨A1,c1,A2,c2,A3,c3,rfl,fF⟩
 go_upto_region 7 with(fail)
 refine cc (In (λ_=>False) w0 [cj p z,bg w3.heap.size 36 #[.slice A1 (cX z.ls).length c1,.slice A2 z.rows.length c2,.slice A3 z.B.length c3],da (.slice A1 (cX z.ls).length c1) (cX z.ls),cE (.slice A2 z.rows.length c2) z.rows,kG (.slice A3 z.B.length c3) z.B]) ((fF.ajH _ _ _).reorder 5 [4,0,1,2,3] rfl (by simp)) ?_;generalize w3.heap.size=sb;clear fF gd;intro w4 fX;have iY:=af fX;clear fX
 go_wp2_with fail
 refine(D6 (c:=c') HS.out hB Ta iY.out Se.out).mono ?_;rintro e w5 ⟨rfl,eH⟩;have hp0:=ajJ (ss:=ss);generalize Ky:(dF ss).2=pe at *;by_cases LS:pe=0
 rotate_left
 ·rw[if_neg LS]at eH;have dQ:(pe !=0)=aA:=by simpa using LS
  have HFS:Hid (∀W L,In (λ_=>False) w0 (cj p z::bg sb 36 #[.slice A1 (cX z.ls).length c1,.slice A2 z.rows.length c2,.slice A3 z.B.length c3]::L) W->row? W sb 0 3=ae #[.slice A1 (cX z.ls).length c1,.slice A2 z.rows.length c2,.slice A3 z.B.length c3]):=λW L h=>by rw[h.swap.blk.row 0 3 (by simp)];rfl
  have q3:=HFS.out _ _ eH;have kh:=af eH;clear eH iY hp0
  go_upto_region 8 with(fail)
  go_region_held3 (λW=>row? W sb 0 3=ae #[.slice A1 (cX z.ls).length c1,.slice A2 z.rows.length c2,.slice A3 z.B.length c3])
   (assumption)
   (first
     |(go_at_call 15;refine(abL pO.out).mono ?_;rintro e w9 ⟨rfl,hb9⟩;have pZ:=af (pO.out.below hb9);have t1:=HFS.out _ _ (pZ.out.reorder 8 [6,7,0,1,2,3,4,5] rfl (by simp));have HB:=af (pZ.out.drop.drop.drop.drop.drop.drop.drop.drop);clear hb9)
     |(go_at_call 16;refine(Iv kh.out.drew Se.out).mono ?_;rintro e w8 ⟨gv,rv,bv,rfl,l9⟩;have s1:=HFS.out _ _ l9.drop.drop.drop;have pO:Hid (In (λ_=>False) w0 [da (.slice A1 (cX z.ls).length c1) (cX z.ls),cE (.slice A2 z.rows.length c2) z.rows,kG (.slice A3 z.B.length c3) z.B,da gv (cX z.ls),cE rv z.rows,kG bv z.B,cj p z,bg sb 36 #[.slice A1 (cX z.ls).length c1,.slice A2 z.rows.length c2,.slice A3 z.B.length c3]] w8):=l9.reorder 8 [5,6,7,0,1,2,3,4] rfl (by simp);clear l9))
  all_goals
   go_wp2_with fail
   refine⟨.inr rfl,rfl,_,λtp d=>results_tmp rfl _ _ _,λtp d=>⟨rfl,?_⟩⟩;exact jM.of (HB.out.dB .nil tp 0 d)
 rw[if_pos LS]at eH;obtain⟨ajZ,XC⟩:=hp0 LS;subst LS;have HSO:=af XC;have ae0:=af (Se.out.run ss);obtain⟨hls,hBB⟩:=Ct z ss;have HR:=af (ajO z ss);generalize jg z ss=zf at *;have lV:=af eH;have H8R:Hid (∀r∈z.rows,bK r.b=0/\r.b.v.length=8):=λr hr=>⟨(Qu Se.out.w hr).2.1,(Qu Se.out.w hr).1⟩
 clear eH iY XC hp0
 go_wp2_with fail
 refine(ug lV.out ae0.out).mono ?_;rintro e w6 ⟨B1,d1,B2,d2,B3,d3,rfl,iC⟩;rw[hls,hBB]at iC⊢
 go_upto_region 10 with(fail)
 refine cc (In (λ_=>False) w0 [bg w6.heap.size 36 #[.slice B1 (cX z.ls).length d1,.slice B2 zf.rows.length d2,.slice B3 z.B.length d3],da (.slice B1 (cX z.ls).length d1) (cX z.ls),cE (.slice B2 zf.rows.length d2) zf.rows,kG (.slice B3 z.B.length d3) z.B,cj p zf,bg sb 36 #[.slice A1 (cX z.ls).length c1,.slice A2 z.rows.length c2,.slice A3 z.B.length c3],da (.slice A1 (cX z.ls).length c1) (cX z.ls),cE (.slice A2 z.rows.length c2) z.rows,kG (.slice A3 z.B.length c3) z.B]) (iC.ajH _ _ _) ?_;generalize w6.heap.size=nb;clear iC lV;intro w7 qW;have ajM:zf.rows.length=z.rows.length:=by rw[HR.out,List.length_map]
 have s0:w7.cell? ⟨sb,0,ai⟩=ae (.slice A1 (cX z.ls).length c1):=(qW.nth 5 (by simp)).blk.cell 0;have s1:w7.cell? ⟨sb,1,ai⟩=ae (.slice A2 z.rows.length c2):=(qW.nth 5 (by simp)).blk.cell 1;have s2:w7.cell? ⟨sb,2,ai⟩=ae (.slice A3 z.B.length c3):=(qW.nth 5 (by simp)).blk.cell 2;have n0:w7.cell? ⟨nb,0,ai⟩=ae (.slice B1 (cX z.ls).length d1):=qW.blk.cell 0;have n1:w7.cell? ⟨nb,1,ai⟩=ae (.slice B2 z.rows.length d2):=(qW.blk.cell 1).trans (by rw[<-ajM];rfl);have n2:w7.cell? ⟨nb,2,ai⟩=ae (.slice B3 z.B.length d3):=qW.blk.cell 2;have HEG:=af (adj (by unfold maxLen;omega) (qW.nth 6 (by simp)) (qW.nth 1 (by simp)));have HEB:=af (adi (qW.reorder 9 [8,3,0,1,2,4,5,6,7] rfl (by simp)));have kE:=af qW;clear qW
 go_wp2_with fail
 refine HEG.out.mono ?_;rintro e w8 ⟨rfl,rfl⟩
 go_wp2_with fail
 refine HEB.out.mono ?_;rintro e w8 ⟨rfl,U0⟩;simp only[decide_true];have l9:=kE.out.below U0;clear s0 s1 s2 n0 n1 n2 HEG HEB kE U0;have s1:w8.cell? ⟨sb,1,ai⟩=ae (.slice A2 z.rows.length c2):=(l9.nth 5 (by simp)).blk.cell 1;have n1:w8.cell? ⟨nb,1,ai⟩=ae (.slice B2 z.rows.length d2):=(l9.blk.cell 1).trans (by rw[<-ajM];rfl);have pO:Hid (In (λ_=>False) w0 [bg nb 36 #[.slice B1 (cX z.ls).length d1,.slice B2 zf.rows.length d2,.slice B3 z.B.length d3],cE (.slice B2 zf.rows.length d2) zf.rows,cE (.slice A2 z.rows.length c2) z.rows] w8):=In.ajV (l9.reorder 9 [0,2,7,1,3,4,5,6,8] rfl (by simp));have hri:(z.rows.length:Int)<=60:=by omega
 have hsi:(ss.length:Int)<=20:=by omega
 clear l9 hls hBB Se ae0 zD I8;generalize (cX z.ls).length=g0 at *;generalize z.B.length=b0 at *;generalize zf.rows=rs2 at *;generalize z.rows=rs at *
 go_wp2_with fail
 clear s1 n1
 go_loopw [59] (λi w'=> ∃k:Nat,k<=rs.length/\i=.int .i64 k/\In (λ_=>False) w0 [bg nb 36 #[.slice B1 g0 d1,.slice B2 rs2.length d2,.slice B3 b0 d3],cE (.slice B2 rs2.length d2) rs2,cE (.slice A2 rs.length c2) rs] w') (λi _=>rs.length-(intOf i).toNat)
 case atStart=>exact⟨0,bS _,rfl,pO.out⟩
 case round=>
  clear pO;obtain⟨k,hk,rfl,hI⟩:=hrel;by_cases bE:k<rs.length
  ·have xH:(k:Int)<rs.length:=by omega
   obtain⟨g,rfl,q1⟩:=zg (hI.nth 2 (by simp)) (λr hr=>(H8R.out r hr).2) bE;have I':(rs[k]).list.length=11:=by simp[cz.list,aQ.list,(H8R.out _ (aU bE)).2]
   have HI:=af hI;have hB:=H8R.out _ (aU bE);clear hI
   go_upto_region 15 with(fail)
   refine cc (In (λ_=>False) w0 (bg wr.heap.size 50 (ints (rs[k]).list)::bg nb 36 #[.slice B1 g0 d1,.slice B2 rs2.length d2,.slice B3 b0 d3]::cE (.slice B2 rs2.length d2) rs2::cE (.slice (ae ⟨g,0,ai⟩) rs.length c2) rs::[])) (HI.out.struct 50 [0,0,0,0,0,0,0,0,0,0,0] (rs[k]).list I') ?_;generalize wr.heap.size=rb;clear HI q1;intro w2 hI;have hb9:(rs[k]).b.list.length=9:=by simp[aQ.list,hB.2]
   have q2:row? w2 rb 2 9=ae (ints (rs[k]).b.list):=by rw[hI.blk.eb 2 9 (by omega)];show ae (ints ((rs[k]).b.list.take 9))=_;rw[cI (by omega)]
   have HI:=af hI;clear hI
   go_upto_region 16 with(fail)
   refine cc (In (λ_=>False) w0 (bg w2.heap.size 48 (ints (rs[k]).b.list)::bg rb 50 (ints (rs[k]).list)::bg nb 36 #[.slice B1 g0 d1,.slice B2 rs2.length d2,.slice B3 b0 d3]::cE (.slice B2 rs2.length d2) rs2::cE (.slice (ae ⟨g,0,ai⟩) rs.length c2) rs::[])) (HI.out.struct 48 [0,0,0,0,0,0,0,0,0] (rs[k]).b.list hb9) ?_;generalize w2.heap.size=bb;clear HI q2;intro w3 hI;have HI:=af hI;clear hI
   go_wp2_with fail
   go_loopw [68] (λi w'=> ∃j:Nat,j<=ss.length/\i=.int .i64 j/\In (λ_=>False) w0 (bg bb 48 (ints (jh (rs[k]).b (ss.take j)).list)::bg rb 50 (ints (rs[k]).list)::bg nb 36 #[.slice B1 g0 d1,.slice B2 rs2.length d2,.slice B3 b0 d3]::cE (.slice B2 rs2.length d2) rs2::cE (.slice (ae ⟨g,0,ai⟩) rs.length c2) rs::[]) w') (λi _=>ss.length-(intOf i).toNat)
   case atStart=>exact⟨0,bS _,rfl,HI.out⟩
   case round=>
    clear HI;obtain⟨j,hj,rfl,hI⟩:=hrel;by_cases hlj:j<ss.length
    ·have OG:(j:Int)<ss.length:=by omega
     obtain⟨g5,o5,rfl,ZG,q5⟩:=(HS.out hI.bare).at_ hlj;have e1:ss.getD j du=ss[j]:=by simp[bp,hlj]
     rw[e1]at q5;have HDT:=af (ajI (b:=(rs[k]).b) hlj);have hse:=HSO.out _ (aU hlj);have hd8:(jh (rs[k]).b (ss.take j)).v.length=8:=by rw[vS];exact hB.2
     have hde:=Lb (ss.take j) _ hB.2 hB.1;have HI:=af hI;clear hI e1;generalize ss[j]=s at *;generalize jh (rs[k]).b (ss.take j)=bj at *
     go_upto_region 19 with(fail)
     refine cc (In (λ_=>False) w0 (bg wr.heap.size 54 (ints s.list)::bg bb 48 (ints bj.list)::bg rb 50 (ints (rs[k]).list)::bg nb 36 #[.slice B1 g0 d1,.slice B2 rs2.length d2,.slice B3 b0 d3]::cE (.slice B2 rs2.length d2) rs2::cE (.slice (ae ⟨g,0,ai⟩) rs.length c2) rs::[])) (HI.out.struct 54 [0,0,0,0,0,0,0] s.list rfl) ?_;generalize wr.heap.size=yb;clear HI q5;intro w4 hI;have hj9:bj.list.length=9:=by simp[aQ.list,hd8]
     have q6:row? w4 bb 0 9=ae (ints bj.list):=by rw[hI.swap.blk.eb 0 9 (by omega)];rw[List.drop_zero,cI (by omega)]
     have q7:row? w4 yb 0 7=ae (ints s.list):=by rw[hI.blk.eb 0 7 (by simp[Sys.list])];rw[List.drop_zero,cI (by simp[Sys.list])]
     have HI:=af hI.drop;clear hI
     go_wp2_with fail
     refine(ajP bj s hd8 hse hde _).mono ?_;rintro e w5 ⟨rfl,hb5⟩;have lV:=af (HI.out.below hb5);have hn8:(cq bj s).v.length=8:=by rw[fM];exact hd8
     have hn9:(cq bj s).list.length=9:=by simp[aQ.list,hn8]
     clear hb5 q6 q7 HI
     go_upto_region 20 with(fail)
     have hx:=lV.out.struct 48 [0,0,0,0,0,0,0,0,0] (cq bj s).list hn9;refine cc (In (λ_=>False) w0 (bg w5.heap.size 48 (ints (cq bj s).list)::bg bb 48 (ints bj.list)::bg rb 50 (ints (rs[k]).list)::bg nb 36 #[.slice B1 g0 d1,.slice B2 rs2.length d2,.slice B3 b0 d3]::cE (.slice B2 rs2.length d2) rs2::cE (.slice (ae ⟨g,0,ai⟩) rs.length c2) rs::[])) ?_ ?_
     ·exact hx
     clear hx;generalize w5.heap.size=xb;clear lV;intro w6 hI;have q8:row? w6 xb 0 9=ae (ints (cq bj s).list):=by rw[hI.blk.eb 0 9 (by omega)];rw[List.drop_zero,cI (by omega)]
     have q9:fits w6 bb 0 9=aA:=hI.swap.blk.fits 0 9 (by rw[bJ];omega);have adP:=hI.swap.fc (cq bj s).list (by omega);clear hI
     go_upto_region 23 with(fail)
     refine cc (In (λ_=>False) w0 (bg bb 48 (ints (cq bj s).list)::bg xb 48 (ints (cq bj s).list)::bg rb 50 (ints (rs[k]).list)::bg nb 36 #[.slice B1 g0 d1,.slice B2 rs2.length d2,.slice B3 b0 d3]::cE (.slice B2 rs2.length d2) rs2::cE (.slice (ae ⟨g,0,ai⟩) rs.length c2) rs::[])) ?_ ?_
     ·exact adP
     clear adP q8 q9;intro w7 hI;have HI:=af hI.swap.drop;clear hI
     go_wp2_with fail
     go_roundw
     case rel=>exact⟨j+1,by omega,by go_num,by rw[HDT.out];exact HI.out⟩
     case measure=>simp[intOf];omega
    ·have:j=ss.length:=by omega
     subst this;rw[cD]at hI;have hk2:k<rs2.length:=by rw[ajM];exact bE
     have e2:rs2[k]=⟨(rs[k]).h,jh (rs[k]).b ss⟩:=by have:=HR.out;simp[this]
     obtain⟨g2,rfl,q1⟩:=zg (hI.nth 3 (by simp)) (λr hr=>by rw[HR.out]at hr;obtain⟨x,hx,rfl⟩:=aN.1 hr;show(jh x.b ss).v.length=8;rw[vS];exact(H8R.out x hx).2) hk2;rw[e2]at q1;have hd8:(jh (rs[k]).b ss).v.length=8:=by rw[vS];exact(H8R.out _ (aU bE)).2
     have n1:wr.cell? ⟨nb,1,ai⟩=ae (.slice (ae ⟨g2,0,ai⟩) rs.length d2):=((hI.nth 2 (by simp)).blk.cell 1).trans (by rw[<-ajM];rfl);have q2:row? wr rb 0 2=ae (ints [(rs[k]).h.1,(rs[k]).h.2]):=by
      rw[hI.swap.blk.eb 0 2 (by omega)]
      rfl
     have q4:row? wr bb 0 9=ae (ints (jh (rs[k]).b ss).list):=by
      have h9:(jh (rs[k]).b ss).list.length=9:=by simp[aQ.list,hd8]
      rw[hI.blk.eb 0 9 (by omega)];rw[List.drop_zero,cI (by omega)]
     have HI:=af hI.drop.drop;have HRL:=af ajM;clear hI e2 ajM;generalize jh (rs[k]).b ss=bj at *;generalize (rs[k]).h=hh at *;obtain⟨bk,bv⟩:=bj;obtain⟨y0,y1,y2,y3,y4,y5,y6,y7,rfl⟩:=ajX hd8;obtain⟨h1,h2⟩:=hh;have z1:(ints [h1,h2]).size=2:=rfl;have z2:(ints (aQ.list ⟨bk,[y0,y1,y2,y3,y4,y5,y6,y7]⟩)).size=9:=rfl;have hn: ∀W,(binOp .neq 50 (.agg (ints (cz.list ⟨(h1,h2),⟨bk,[y0,y1,y2,y3,y4,y5,y6,y7]⟩⟩))) (.agg (ints (h1::h2::aQ.list ⟨bk,[y0,y1,y2,y3,y4,y5,y6,y7]⟩)))).run Tryz.prog W=.ok (.bool aw) W:=λW=>by have:=abb (cz.list ⟨(h1,h2),⟨bk,[y0,y1,y2,y3,y4,y5,y6,y7]⟩⟩) (cz.list ⟨(h1,h2),⟨bk,[y0,y1,y2,y3,y4,y5,y6,y7]⟩⟩) rfl rfl W;rw[decide_eq_true rfl]at this;exact this
     go_wp2_with fail
     go_region
     go_wp2_with fail
     go_roundw
     case rel=>exact⟨k+1,by omega,by go_num,by first|exact HI.out|exact HI.out.drew⟩
     case measure=>simp[intOf];omega
  ·have:k=rs.length:=by omega
   subst this;have HI:=af hI;clear hI
   go_wp2_with fail
   refine⟨.inr rfl,rfl,_,λtp d=>results_tmp rfl _ _ _,λtp d=>⟨rfl,?_⟩⟩;exact jM.of (HI.out.drop.drop.drop.dB .nil tp 0 d)
end
theorem ajR (A A':Option Addr)(c c':Nat)(os:List ik)(ss:List Sys)(W:ah)(hO:uP W W.heap.size A os)(hlen:os.length<=1099511627776)(h8: ∀o∈os,o.b.v.length=8)(hS:ui W W.heap.size A' ss)(Ta:ss.length<=maxLen)(Post:aq->ah->Prop):uL Tryz.prog (mX (vt W)) Post 5 #[.slice A os.length c,.slice A' ss.length c'] W λv W'=>v=.bool aA/\jM (λ_=>False) W [] W':=by
 have hO':aiN (λ_=>False) W W.heap.size A os:=aiN.Dt hO;have hS':nL (λ_=>False) W W.heap.size A' ss:=nL.Dt hS;refine⟨_,_,Tryz.func5,rfl,rfl,rfl,?_⟩;have hF:=nU (vt W);have yf:Tryz.f5.ntmps=93:=rfl;simp only[yf,ec,dJ,cL,au,aj,ax,Nat.reduceAdd,Nat.reduceSub,dR,dS,eX];simp only[Tryz.f5];refine ca (aiL ?_);refine S1 hF (.bool aw) ?_;walk_nrm;refine cY ?_;show eJ _ _ _ _ _ _ _ W;refine ca (ca ?_);refine aiL ?_;refine pR (f:=10) (R:=λv w'=>v=.bool aA/\jM (λ_=>False) W [] w') rfl rfl rfl (λj u hj=>by simp at hj) ?_ ?_
 ·walk_nrm;exact ahU (az _)
 rintro _ w1 ⟨rfl,jU⟩;walk_nrm;refine S1 hF (.bool aw) ?_;walk_nrm;refine cY ?_;refine fS (t:=false) rfl ?_;rw[if_neg (by simp)];refine mH ?_;show eJ _ _ _ _ _ _ _ w1;have hx:dm ((mX (vt W)).at 5) aiU=aA:=by kernel_rfl
 refine Sz hF hx λtp d=> ?_
 have hw:=ajF (c:=c) (c':=c') (hO'.dB tp 0) hlen h8 (hS'.dB tp 0) (az _) Ta (jU.at_ .nil tp 0 d);exact IW hw λv w' h=>⟨h.1,jM.same h.2⟩
end
end Go.Proofs.YtknejlcijdngoaaGreat
