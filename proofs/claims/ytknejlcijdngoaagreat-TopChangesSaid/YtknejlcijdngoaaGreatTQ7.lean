/- Several texts in one, made short by a program of mine. -/
import Derived.Test.YtknejlcijdngoaaGreatTQ6
import Derived.RangeFuncNested
import Derived.RangeFuncBound
import Derived.RangeFuncCalls
import Derived.RangeFuncLeaves
import Derived.RegionIn
import Derived.BigRegionIn
import Derived.OwnWalkIn
import Derived.TacticsInMore
import Derived.LoopNIn
import Derived.LoopIn
import Derived.Sort.MapsRangeIn
import Derived.Maps.OwnIn
import Derived.Deep.RegionHeld3
import Derived.Deep.RegionLawGrows
import Derived.BigRegion
set_option linter.defProp false
set_option linter.unusedVariables false
set_option linter.unusedSimpArgs false
set_option linter.unusedSectionVars false
set_option maxHeartbeats 16000000
set_option maxRecDepth 100000
open Array renaming all_eq_true→eY,ext'→oz,getD_eq_getD_getElem?→bH,getElem?_eq_getElem→aX,getElem?_eq_some_iff→aI,getElem?_modify→bq,getElem?_setIfInBounds_ne→aK,getElem?_setIfInBounds_self_of_lt→aU,replicate_succ→dD,replicate_zero→dE
open Bool renaming and_eq_true→aG,eq_iff_iff→l8,false_eq_true→dP,not_eq_true'→iT,or_eq_true→gi,false→ay,true→aw
open Classical renaming choose→sY
open Go renaming Frame→bp,FuncId→bK,Operand→cG,Program→aS,TypeId→aA,Value→ao,World→ah
open Go.Act renaming eval→bX
open Go.Instr renaming buildSlice→gh,lookup→j9
open Go.Lib renaming hid→af
open Go.Proofs.Tryz renaming prog→aj
open Go.Region renaming ready→ig,wanted→bu
open Go.Result renaming andThen→dQ
open Go.Value renaming int→aF,oneCell'→kT,ownBlock→fx,slice→eA
open Go.World renaming block_lt_of_cell?→rX,cell?→c8,cell?_of_block→da,ownsRow_nil→oh,setCell→dJ,size_alloc→dw
open Go.World.ownsRow renaming lt→gJ
open Int renaming toNat_natCast→fw
open List renaming append_assoc→cx,append_nil→ew,append_toArray→dT,cons_append→dF,drop_append→qd,drop_of_length_le→iU,drop_succ_cons→mZ,eq_nil_of_length_eq_zero→ft,ext_getElem?→mf,filter_cons→qg,flatMap_append→dG,flatMap_cons→bN,foldl_append→j5,foldl_cons→l9,getD→bB,getD_eq_getElem?_getD→aY,getElem?_eq_getElem→aq,getElem?_eq_none→jz,getElem?_eq_some_iff→bz,getElem?_map→dN,getElem?_set→fh,getElem_mem→bg,length_append→aZ,length_cons→aD,length_filter_le→jA,length_map→aL,length_nil→aP,length_set→de,length_take→cK,map_append→ey,map_cons→eN,mem_append→jh,mem_cons→cj,mem_filter→cm,mem_iff_getElem→dK,mem_map→aH,mem_of_mem_take→pN,mem_range→ng,mem_singleton→eO,nil_append→cy,not_mem_nil→jH,pairwise_iff_getElem→lO,push_toArray→ez,range→bP,replicate→bW,set_append_right→oA,size_toArray→aV,take_length→dm,take_of_length_le→ck,take_succ_eq_append_getElem→bh
open List.Perm renaming append_left→dy,swap→cJ,trans→pK
open List.range renaming loop→cu
open Nat renaming add_assoc→sZ,add_comm→dA,add_mul→gY,add_sub_cancel_left→iL,add_zero→lC,le_refl→ax,le_trans→bM,lt_of_lt_of_le→cc,mul_le_mul_right→fC,one_mul→jE,strongRecOn→mQ,zero_add→bS,zero_le→cE
open Option renaming getD_some→bT,map_eq_some_iff→aJ,map_some→fS,none→ai,some→ae
open Option.some renaming inj→be,injEq→dS
open Or renaming inl→bm,inr→bO
namespace Go.Proofs.YtknejlcijdngoaaGreat
section
open Go.RowKit
attribute [local go_sem] Oper.semAt_some
def TK (p:Nat)(h:Hd)(w:ah):Calls aj 136 #[.pointer (ae ⟨p,0,ai⟩),lf h] w λe w'=>
 e=.returned (.func (.func 182) #[] #[.pointer (ae ⟨w.heap.size,0,ai⟩),.pointer (ae ⟨w.heap.size+1,0,ai⟩)])/\
 w'=(w.alloc (.cells #[.pointer (ae ⟨p,0,ai⟩)] 81)).alloc (.cells (ints (hL h)) 43):=by
 obtain⟨h1,h2⟩:=h;rw[kX]
 go_enter Tryz.func136,Tryz.ntmps136
 go_wp2_with fail
 go_ret;exact⟨rfl,rfl⟩
def mS.uniq {m:kN}{h:Hd}{xs:List Hd}(hx:mS m h xs): ∀{ys:List Hd},mS m h ys->xs=ys:=by
 induction hx with
 |nil hn=>
  intro ys hy;cases hy with
  |nil _=>rfl
  |cons h _=>rw[hn]at h;cases h
 |cons hm _ ih=>
  intro ys hy;cases hy with
  |nil h=>rw[hm]at h;cases h
  |cons h hy=>rw[hm]at h;cases be h;rw[ih hy]
open Classical in
noncomputable def D6 (m:kN)(h:Hd):Nat:=if hx: ∃xs,mS m h xs then(sY hx).length else 0
def Mv {m:kN}{h:Hd}{xs:List Hd}(hx:mS m h xs):D6 m h=xs.length:=by have he: ∃xs,mS m h xs:=⟨xs,hx⟩;unfold D6;rw[dif_pos he,(Classical.choose_spec he).uniq hx]
noncomputable def lp (m:kN)(v4 v5:ao)(w:ah):Nat:=
 match v5,v4 with
 | .bool aw,.pointer (ae a)=>(match w.cell? ⟨a.block,0,ai⟩,w.cell? ⟨a.block,1,ai⟩with
   |some (.int .i64 x),ae (.int .i64 y)=>D6 m (x,y)+1
   |_,_=>0)
 |_,_=>0
def za {m:kN}{cb:Nat}{w:ah}{t:aA}{h:Hd}{xs:List Hd}(hx:mS m h xs)(hB:dt w cb t (ints (hL h))):lp m (.pointer (ae ⟨cb,0,ai⟩)) (.bool aw) w=xs.length+1:=by obtain⟨h1,h2⟩:=h;have c0:w.cell? ⟨cb,0,ai⟩=ae (.int .i64 h1):=hB.cell 0;have c1:w.cell? ⟨cb,1,ai⟩=ae (.int .i64 h2):=hB.cell 1;unfold lp;simp only[c0,c1];rw[Mv hx]
def aao {F:Fence}{n:Nat}{P:aS}{c:Code}{Q:Exit->Act->ah->Prop}{a:Act}{w:ah}(I:ah->Prop)(h:I w)(k: ∀w',I w'->c.wpIn F n P Q a w'):c.wpIn F n P Q a w:=k w h
structure eK (A B:ah):Prop where
 size:A.heap.size<=B.heap.size
 same: ∀(k:Nat) (o:Obj),A.heap[k]? =ae o->(o.isCells||o.isWalk)=aw->B.heap[k]? =ae o
def eK.refl (A:ah):eK A A:=⟨ax _,λ_ _ h _=>h⟩
def eK.trans {A B C:ah}(h:eK A B)(h':eK B C):eK A C:=⟨bM h.size h'.size,λk o hk ho=>h'.same k o (h.same k o hk ho) ho⟩
def eK.gA {A B:ah}(h:Below A.heap.size A B):eK A B:=⟨h.size,λk o hk _=>(h.block k (aI.1 hk).1).trans hk⟩
def eK.blk {A B:ah}(h:eK A B){g:Nat}{t:aA}{cs:Array ao}(hb:dt A g t cs):dt B g t cs:=h.same g _ hb rfl
def eK.map {A B:ah}(h:eK A B){κ ν:Type}{ek:κ->ao}{ev:ν->ao}{good:κ->Prop}{b:Nat}{m:List (κ×ν)}(hm:dW ek ev good A b m):dW ek ev good B b m:=by refine hm.block ?_;obtain⟨es,clock,hb,_⟩:=hm;rw[hb];exact h.same b _ hb rfl
def eK.yw {A B:ah}(h:eK A B){p b:Nat}{m:kN}(hs:uk A p b m):uk B p b m:=⟨hs.ok,h.blk hs.blk,h.map hs.map⟩
def Nx {A B C:ah}:eK A B->eK B C->eK A C:=eK.trans
def Nw {n:Nat}: ∀(W:ah) (l:Nat) (o o':Obj),n<=l->W.heap[l]? =ae o->o.isCells=ay->o.isWalk=ay->eK W (W.putObj l o'):=λW l o o' _ hl h1 h2=>
 ⟨by simp,λk q hk hq=>by
   by_cases e:k=l
   ·subst e;rw[hl]at hk;cases hk;rw[h1,h2]at hq;cases hq
   ·rw[World.putObj_heap_other e];exact hk⟩
def kl {A B:ah}(h:Below A.heap.size A B):A.grownBy B ai:=⟨h.os,h.tape,h.output,h.size,λk hk _=>h.block k hk⟩
def Mb (n:Nat)(hn:1<=n)(fb hb p b:Nat)(m:kN)(h:Hd)(xs:List Hd)(hc:mS m h xs)(w:ah)(hF:dt w fb 81 #[.pointer (ae ⟨p,0,ai⟩)])(hH:dt w hb 43 (ints (hL h)))(hS:uk w p b m):SeqStopsK Fence.wide n aj 182 #[.pointer (ae ⟨fb,0,ai⟩),.pointer (ae ⟨hb,0,ai⟩)] (λx:Hd=> #[lf x]) eK (λys=>ys=xs) (λpre=>pre <+: xs) xs.length w:=λl J Jx W hW hJ hJx hY h0=>by
 have HJ:=af hJ;have HY:=af hY;have HW:=af hW;have HS:=af hS;have HC:=af hc;have HF:=af hF;have HJ0:=af h0;obtain⟨h1,h2⟩:=h;have hS1:=HS.out.after hW;have k0:W.cell? ⟨p,0,ai⟩=ae (.map (ae b)):=hS1.blk.cell 0;have k1:row? W hb 0 2=ae #[.int .i64 h1,.int .i64 h2]:=(hH.after hW).bt (xs:=[h1,h2]) rfl;have k2:W.cell? ⟨fb,0,ai⟩=ae (.pointer (ae ⟨p,0,ai⟩)):=(hF.after hW).cell 0;have Wi:=(Below.refl W.heap.size W).alloc (ax _) (.cells #[.int .i64 0,.int .i64 0] 43);have k3:row? (W.alloc (.cells #[.int .i64 0,.int .i64 0] 43)) hb 0 2=ae #[.int .i64 h1,.int .i64 h2]:=((hH.after hW).after Wi).bt (xs:=[h1,h2]) rfl;have k4:(W.alloc (.cells #[.int .i64 0,.int .i64 0] 43)).cell? ⟨p,0,ai⟩=ae (.map (ae b)):=(hS1.blk.after Wi).cell 0;have k5:(W.alloc (.cells #[.int .i64 0,.int .i64 0] 43)).cell? ⟨fb,0,ai⟩=ae (.pointer (ae ⟨p,0,ai⟩)):=((hF.after hW).after Wi).cell 0;have o8:=wF hS1.map (h1,h2) (Below.refl _ _).drew;have Dm:=wF hS1.map (h1,h2) (((Below.refl _ W).alloc (ax _) (.cells #[.int .i64 0,.int .i64 0] 43)).drew);rw[kX]at o8 Dm;have HPR:Hid (n4 m (h1,h2)=(xs.head?.getD (0,0),xs.head?.isSome)):=by unfold Hid n4;rw[hc.get]
 generalize n4 m (h1,h2)=r at *;obtain⟨⟨r1,r2⟩,is⟩:=r;simp only[kX]at o8 Dm;clear hJ hY hW hS hc hF hH h0 hS1 Wi;refine callsIn_of_wp Tryz.func182 rfl trivial ?_ rfl;simp only[Tryz.ntmps182,aV,aD,aP,Nat.reduceAdd,Nat.reduceSub,dD,dE,ez,dT,cy,dF];have HJ1:Hid (∀w1,w1=(putRow (W.alloc (.cells (ints [0,0]) 43)) W.heap.size 0 [r1,r2]).drew->J [] w1/\dt w1 W.heap.size 43 (ints [r1,r2])/\Below W.heap.size W w1):=by rintro w1 rfl;have hbb:=(dV W 43 [0,0] [r1,r2]).drew;exact⟨HJ.out [] W _ ai HJ0.out (kl hbb) (λr e=>by cases e),(gD W 43 [0,0] [r1,r2] rfl).drew,hbb⟩
 have HFW:Hid (dt W fb 81 #[.pointer (ae ⟨p,0,ai⟩)]):=HF.out.after HW.out;have HSW:Hid (uk W p b m):=HS.out.after HW.out
 gi_wp2
 gi_region
 all_goals
  clear k0 k1 k2 k3 k4 k5 o8 Dm
  gi_wp2
  gi_loopw [4,5] (λv4 v5 wr=> ∃(pre rest:List Hd) (h':Hd) (cb:Nat),v4=.pointer (ae ⟨cb,0,ai⟩)/\v5=.bool rest.head?.isSome/\xs=pre++rest/\mS m h' rest/\J pre wr/\dt wr cb 43 (ints (hL (rest.head?.getD (0,0))))/\dt wr fb 81 #[.pointer (ae ⟨p,0,ai⟩)]/\uk wr p b m) (λv4 v5 wr=>lp m v4 v5 wr)
  case atStart=>obtain⟨g1,g2,g3⟩:=HJ1.out _ rfl;have e1:xs.head?.getD (0,0)=(r1,r2):=(congrArg Prod.fst HPR.out).symm;have e2:xs.head?.isSome=is:=(congrArg Prod.snd HPR.out).symm;exact⟨[],xs,(h1,h2),W.heap.size,rfl,by rw[e2],rfl,HC.out,g1,by rw[e1];exact g2,HFW.out.after g3,HSW.out.after g3⟩
  case round=>
   clear HJ1 HFW HSW;obtain⟨pre,rest,h',cb,rfl,rfl,hx,vG,hJp,uh,hfb,hfs⟩:=hrel;cases rest with
   |nil=>
    gi_wp2
    go_end0
    exact⟨⟨_,rfl⟩,.inl ⟨pre,by simp[hx],hJp⟩⟩
   |cons q rest=>
    obtain⟨q1,q2⟩:=q;have hq:dY m h'=ae (q1,q2)/\mS m (q1,q2) rest:=by cases vG with|cons a b=>exact⟨a,b⟩
    obtain⟨fn,tmps,assign,body,hy,hR⟩:=HY.out pre (q1,q2) wr hJp (by rw[hx];simp);simp only[kX]at hy;have q3:row? wr cb 0 2=ae #[.int .i64 q1,.int .i64 q2]:=uh.bt (xs:=[q1,q2]) rfl;have HX:=af hx;have HQ:=af hq.2;have HCB:Hid (dt wr cb 43 (ints (hL (q1,q2)))):=uh;have HFB:=af hfb;have HFS:=af hfs;have V5:=af hR;clear hx vG hJp uh hfb hfs hq hR
    gi_wp2
    refine V5.out.mono ?_;rintro e W3 (⟨rfl,Ye,Yw⟩|⟨rfl,Yf⟩)
    ·have HJ3:=af Ye;have af4:=Yw.blk HCB.out;have afp:=af (Yw.blk HFB.out);have afq:=af (Yw.yw HFS.out);have q4:row? W3 cb 0 2=ae #[.int .i64 q1,.int .i64 q2]:=af4.bt (xs:=[q1,q2]) rfl;clear Ye Yw af4 hy q3
     gi_wp2
     refine aao (λw4=>dt w4 W3.heap.size 43 (ints [q1,q2])/\Below W3.heap.size W3 w4) ⟨gD W3 43 [0,0] [q1,q2] rfl,dV W3 43 [0,0] [q1,q2]⟩ ?_;rintro W4 ⟨hn4,LO⟩;have hS4:=afq.out.after LO;have k0:W4.cell? ⟨p,0,ai⟩=ae (.map (ae b)):=hS4.blk.cell 0;have k1:row? W4 W3.heap.size 0 2=ae #[.int .i64 q1,.int .i64 q2]:=hn4.bt (xs:=[q1,q2]) rfl;have k2:W4.cell? ⟨fb,0,ai⟩=ae (.pointer (ae ⟨p,0,ai⟩)):=(afp.out.after LO).cell 0;have f4:fits W4 W3.heap.size 0 2=aw:=hn4.fits 0 2 (by rw[bD];simp);have hl4:=wF hS4.map (q1,q2) (Below.refl _ _).drew;rw[kX]at hl4;have HPR:Hid (n4 m (q1,q2)=(rest.head?.getD (0,0),rest.head?.isSome)):=by unfold Hid n4;rw[HQ.out.get]
     generalize n4 m (q1,q2)=r at *;obtain⟨⟨r1,r2⟩,is⟩:=r;simp only[kX]at hl4;have aaI:Hid (∀w5,w5=(putRow W4 W3.heap.size 0 [r1,r2]).drew->dt w5 W3.heap.size 43 (ints [r1,r2])/\Below W3.heap.size W3 w5):=by rintro w5 rfl;exact⟨(hn4.eU [r1,r2] rfl).drew,(jL LO (ax _) 0 _).drew⟩
     clear hn4 LO hS4 q4
     gi_region
     all_goals
      gi_wp2
      go_roundw
      case rel=>obtain⟨g1,g2⟩:=aaI.out _ rfl;have e1:rest.head?.getD (0,0)=(r1,r2):=(congrArg Prod.fst HPR.out).symm;have e2:rest.head?.isSome=is:=(congrArg Prod.snd HPR.out).symm;exact⟨pre++[(q1,q2)],rest,(q1,q2),W3.heap.size,rfl,by rw[e2],by rw[HX.out];simp,HQ.out,HJ.out _ W3 _ ai HJ3.out (kl g2) (λr e=>by cases e),by rw[e1];exact g1,afp.out.after g2,afq.out.after g2⟩
      case measure=>
       obtain⟨g1,g2⟩:=aaI.out _ rfl;have e1:rest.head?.getD (0,0)=(r1,r2):=(congrArg Prod.fst HPR.out).symm;have e2:rest.head?.isSome=is:=(congrArg Prod.snd HPR.out).symm;have hR:lp m (.pointer (ae ⟨cb,0,ai⟩)) (.bool aw) wr=rest.length+1:=za HQ.out HCB.out;rw[<-e2];cases hrs:rest with
       |nil=>rw[hrs]at hR;show lp m _ (.bool ay) _<lp m _ (.bool aw) wr;rw[hR];simp[lp]
       |cons s adg=>
        have vG:=HQ.out;rw[hrs]at vG hR e1;have hs:mS m s adg:=by cases vG with|cons a b=>exact b
        have e3:s=(r1,r2):=e1;have hL:lp m (.pointer (ae ⟨W3.heap.size,0,ai⟩)) (.bool aw) _=adg.length+1:=za hs (by rw[e3];exact g1);show lp m _ (.bool aw) _<lp m _ (.bool aw) wr;rw[hL,hR];simp
    ·gi_wp2
     refine bodyPost_ret (results_none rfl _ _ _) rfl ?_;exact⟨⟨_,rfl⟩,.inr ⟨pre++[(q1,q2)],⟨rest,by simp[HX.out]⟩,Yf⟩⟩
end
section
open Go.RowKit
section
variable {κ ν:Type} [DecidableEq κ] {P:aS} {F:Fence} {nF:Nat} {k:aA} {ek:κ->ao} {ev:ν->ao} {good:κ->Prop} {w:ah}
def vt (K:nQ P k ek good){ops:Array Oper}{rest:List Oper}{o:Oper}{a:Act}{Q:Exit->Act->ah->Prop}(sN:o.guard=ai)(it:cG)(hop:o.op=Op.next it ay)(b r:Nat)(m left:List (κ×ν))(hit:a.eval it=.pointer (ae ⟨r,0,ai⟩))(h:dn ek ev good w b r m left)(Yd:left=[]->wpListIn F nF P ops Q rest (a.put o.dst (.tuple #[.bool ay])) w)(Yj: ∀x v w',(x,v)∈left->dn ek ev good w' b r m (dZ left x)->db (· =r) w w'->w'.heap.size=w.heap.size->(dZ left x).length<left.length->(Instr.entry (.pointer (ae ⟨r,0,ai⟩))).run P w'=.ok (.tuple #[ek x,ev v]) w'->wpListIn F nF P ops Q rest (a.put o.dst (.tuple #[.bool aw,ek x,ev v])) w'):wpListIn F nF P ops Q (o::rest) a w:=by
 refine wpListIn_plain sN λK' jX=> ?_
 unfold Oper.wpIn;refine⟨by simp[Oper.about,hop],?_⟩;rw[Oper.semAt_plain F _ _ (by rw[hop];intro c Wj;cases Wj)];rcases h.step K o.type with⟨h0,cT⟩|⟨x,v,w',hx,cT,h1,h2,h3,h4,h5⟩
 ·simp[execOp,hop,hit,cT,dQ];exact jX _ _ (Yd h0)
 ·simp[execOp,hop,hit,cT,dQ];exact jX _ _ (Yj x v w' hx h1 h2 h3 h4 h5)
end
section
variable {κ ν:Type} {P:aS} {F:Fence} {nF:Nat} {k:aA} {ek:κ->ao} {ev:ν->ao} {good:κ->Prop} {w:ah}
def rV {ops:Array Oper}{rest:List Oper}{o:Oper}{a:Act}{Q:Exit->Act->ah->Prop}(sN:o.guard=ai)(mo:cG)(t e:aA)(hop:o.op=Op.range t mo)(ht:P.underlying t=ae (.map k e))(b:Nat)(m:List (κ×ν))(hm:a.eval mo=.map (ae b))(h:dW ek ev good w b m)(hK: ∀w',dn ek ev good w' b w.heap.size m m->Below w.heap.size w w'->w'.heap.size=w.heap.size+1->wpListIn F nF P ops Q rest (a.put o.dst (.pointer (ae ⟨w.heap.size,0,ai⟩))) w'):wpListIn F nF P ops Q (o::rest) a w:=by
 refine wpListIn_plain sN λK' jX=> ?_
 unfold Oper.wpIn;refine⟨by simp[Oper.about,hop],?_⟩;rw[Oper.semAt_plain F _ _ (by rw[hop];intro c Wj;cases Wj)];obtain⟨w',cT,h1,h2,h3⟩:=h.range ht;simp[execOp,hop,hm,cT,dQ];exact jX _ _ (hK w' h1 h2 h3)
def dn.walks {b r:Nat}{m left:List (κ×ν)}{w':ah}(h:dn ek ev good w b r m left)(hk:KeepsWalks w w'):dn ek ev good w' b r m left:=by have h':=h;obtain⟨es,clock,since,seen,c0,h1,_,_,_,h5,_⟩:=h';exact h.block (by rw[h1];exact hk.same b _ h1 rfl) (by rw[h5];exact hk.same r _ h5 rfl)
def dn.walk {b r:Nat}{m left:List (κ×ν)}(h:dn ek ev good w b r m left): ∃o:Obj,w.heap[r]? =ae o/\o.isWalk=aw:=by obtain⟨es,clock,since,seen,c0,h1,_,_,_,h5,_⟩:=h;exact⟨_,h5,rfl⟩
end
def db.Jj {r:Nat}{w w':ah}(h:db (· =r) w w'):w.grownBy w' (ae r):=⟨h.os,h.tape,h.output,h.size,λk hk eb=>h.block k hk (λe=>eb (by rw[e]))⟩
structure qM (E T:aA) (size:Nat) (w0:ah) (sb:Nat) (n:Nat) (xs:List ao) (W:ah):Prop where
 has: ∃v,dt W sb T #[v]/\W.ownsRow w0.heap.size E size v n xs
 below:Below w0.heap.size w0 W
def oY {W:ah}{base:Nat}{e:aA}{size:Nat}{v:ao}{k:Nat}{xs:List ao}(h:W.ownsRow base e size v k xs){j:Nat}{o:Obj}(hj:W.heap[j]? =ae o)(C1: ∀cur,o≠ .cells cur e (0,0)):v.ownBlock≠ae j:=by
 rcases h.2 with⟨rfl,_⟩|⟨g,cap,cur,rfl,_,hgb,_⟩
 ·simp[fx]
 ·intro e';have:g=j:=by simpa[fx]using e'
  subst this;rw[hgb]at hj;cases hj;exact C1 cur rfl
def Hq {W W':ah}{row:Option Nat}{base:Nat}{e:aA}{size:Nat}{v:ao}{k:Nat}{xs:List ao}(h:W.ownsRow base e size v k xs)(hg:W.grownBy W' row)(fg: ∀r,row=ae r-> ∃o:Obj,W.heap[r]? =ae o/\o.isCells=ay):W'.ownsRow base e size v k xs:=by
 refine h.kept hg ?_;rcases h.2 with⟨rfl,_⟩|⟨g,cap,cur,rfl,_,hgb,_⟩
 ·exact .inl rfl
 ·refine .inr λe'=> ?_
  obtain⟨o,ho,hw⟩:=fg g (by simpa[fx]using e'.symm);rw[hgb]at ho;cases ho;cases hw
def qM.kept {E T:aA}{size:Nat}{w0:ah}{sb n:Nat}{xs:List ao}{A B:ah}{row:Option Nat}(h:qM E T size w0 sb n xs A)(hg:A.grownBy B row)(hr: ∀r,row=ae r->w0.heap.size<=r/\ ∃o:Obj,A.heap[r]? =ae o/\o.isCells=ay):qM E T size w0 sb n xs B:=by obtain⟨⟨v,h1,h2⟩,h3⟩:=h;exact⟨⟨v,(grownBy_keeps_cells hg (λr e=>(hr r e).2) h1 rfl).trans h1,Hq h2 hg λr e=>(hr r e).2⟩,h3.grown hg h3.size λk hk=>(hr k hk).1⟩
def vq {W:ah}{base:Nat}{e:aA}{size:Nat}{v:ao}{k:Nat}{xs:List ao}(h:W.ownsRow base e size v k xs): ∀(j:Nat) (o:Obj),v.ownBlock=ae j->W.heap[j]? =ae o->o.isCells=aw:=by
 intro j o hj ho;rcases h.2 with⟨rfl,_⟩|⟨g,cap,cur,rfl,_,hgb,_⟩
 ·simp[fx]at hj
 ·have:g=j:=by simpa[fx]using hj
  subst this;rw[hgb]at ho;cases ho;rfl
def p9 {P:aS}{F:Fence}{nF:Nat}{w:ah}{ops:Array Oper}{rest:List Oper}{o:Oper}{a:Act}{Q:Exit->Act->ah->Prop}(sN:o.guard=ai)(s x:cG)(t:aA)(ho:o.op=.call {callee:=.builtin .append,args:= #[s,x],argTypes:= #[t,t]})(base:Nat)(e:aA)(i:TypeInfo)(z:ao)(size bytes:Nat)(ht:P.underlying t=ae (.slice e))(hi:P.info? e=ae i)(hz:i.zero=ae z)(wy:i.size=size)(M3:i.bytes=bytes)(SG:z.cells.size=size)(kJ:0<size)(v:ao)(n:Nat)(xs:List ao)(hs:a.eval s=v)(jg:w.ownsRow base e size v n xs)(news:List ao)(hx:a.eval x=.slice (ae ⟨w.heap.size,0,ai⟩) 1 1)(hl:news.length=size)(h1: ∀u∈news,u.oneCell'=aw)(Yc:n+1<=maxLen)(rq:(n+1) *bytes<=140737488355328)(IW:base<=w.heap.size)(h: ∀v' w',w'.ownsRow base e size v' (n+1) (xs++news)->(w.alloc (.cells news.toArray e)).grownBy w' v.ownBlock->(v'.ownBlock=v.ownBlock\/v'.ownBlock=ae (w.heap.size+1))->wpListIn F nF P ops Q rest (a.put o.dst v') w'):wpListIn F nF P ops Q (o::rest) a (w.alloc (.cells news.toArray e)):=by
 refine wpListIn_append_own_at _ sN s x t ho base e i z size bytes ht hi hz wy M3 SG kJ v n xs hs (jg.alloc _) ⟨w.heap.size,0,ai⟩ 1 1 news hx (by rw[hl,jE]) ?_ h1 Yc rq (by simp;omega) ?_
 ·intro j u hu;rw[show(⟨w.heap.size,0,ai⟩:Addr).add j=⟨w.heap.size,j,ai⟩from by unfold Addr.add;split<;>simp_all];rw[cell_of_row _ w.heap.size j news.toArray e (0,0) (heap_alloc_new w _)];simpa using hu
 ·intro v' w' Ci hg _ vl;exact h v' w' Ci hg (by simpa using vl)
def EE {P:aS}{fn:Func}{R:Ending->ah->Prop}{p:Tmp}{tmps:Array ao}{w:ah}{v:ao}(h:fn.results= #[.tmp p])(hp:tmps.getD p undef=v)(hR:R (.returned v) w):LeavesInM Fence.wide 3 P fn tmps R [] .returning w:=by
 refine⟨v,?_,hR⟩;have Nd:tmps[p]?.getD undef=v:=by simpa using hp
 simp[results,h,Nd]
end
section
open Go.RowKit
attribute [local go_sem] Oper.semAt_some
def Hz {B:Nat}{A W:ah}(h:Below B A W)(g o:Nat)(v:ao):Below B (A.setCell ⟨g,o,ai⟩ v) (W.setCell ⟨g,o,ai⟩ v):=by refine⟨h.os,h.tape,h.output,by simpa[dJ]using h.size,λk hk=> ?_⟩;show(W.heap.modify g _)[k]? =(A.heap.modify g _)[k]?;rw[bq,bq,h.block k hk]
def db.ack {F:Nat->Prop}{A W:ah}(h:db F A W)(g o:Nat)(v:ao):db F (A.setCell ⟨g,o,ai⟩ v) (W.setCell ⟨g,o,ai⟩ v):=by refine⟨h.os,h.tape,h.output,by simpa[dJ]using h.size,λk hk hf=> ?_⟩;show(W.heap.modify g _)[k]? =(A.heap.modify g _)[k]?;rw[bq,bq,h.block k (by simpa[dJ]using hk) hf]
def db.putObj {F:Nat->Prop}{A W:ah}(h:db F A W){D:Nat}(hD:A.heap.size<=D)(o:Obj):db F A (W.putObj D o):=⟨h.os,h.tape,h.output,by simpa using h.size,λk hk hf=>(World.putObj_heap_other (by omega)).trans (h.block k hk hf)⟩
def B3 {B:Nat}{A W:ah}(h:Below B A W){D:Nat}(hD:B<=D)(o:Obj):Below B A (W.putObj D o):=⟨h.os,h.tape,h.output,by simpa using h.size,λk hk=>(World.putObj_heap_other (by omega)).trans (h.block k hk)⟩
def rE {B:Nat}{A W:ah}(h:Below A.heap.size A W):KeepsFrom B A W:=⟨h.size,λk o _ hk _=>(h.block k (aI.1 hk).1).trans hk⟩
def J7 {P:aS}{w:ah}{g:Nat}{ty:aA}{x:Int}(ha: ∀w,(isAgg ty).run P w=.ok ay w)(hc:w.cell? ⟨g,0,ai⟩=ae (.int .i64 x)):((asAddr (.pointer (ae ⟨g,0,ai⟩))).run P w).andThen (λa w'=>(loadVar ty a).run P w')=.ok (.int .i64 x) w:=by simp[asAddr,go_sem,ha,hc]
def wC {P:aS}{fn:Func}{R:Ending->ah->Prop}{p:Tmp}{ty:aA}{tmps:Array ao}{w:ah}(h:fn.results= #[.cell p ty]){g:Nat}{x:Int}(hp:tmps.getD p undef=.pointer (ae ⟨g,0,ai⟩))(hu: ∀w,(isAgg ty).run P w=.ok ay w)(hc:w.cell? ⟨g,0,ai⟩=ae (.int .i64 x))(hR:R (.returned (.int .i64 x)) w):LeavesInM Fence.wide 3 P fn tmps R [] .returning w:=by
 refine⟨.int .i64 x,?_,hR⟩;have Nd:tmps[p]?.getD undef=.pointer (ae ⟨g,0,ai⟩):=by simpa using hp
 simp[results,h,Nd];exact J7 hu hc
def T' {G:Nat->Prop}{w0 w:ah}{l:List bU}{p:Nat}{m:kN}(h:In G w0 (j3 p m::l) w)(c q:Hd):Calls aj 69 #[.pointer (ae ⟨p,0,ai⟩),lf c,lf q] w λe w'=>e=.returned (.int .i64 (ik m c q).2)/\In G w0 (j3 p (ik m c q).1::l) w':=by
 obtain⟨hm,b,hI⟩:=h.xx;have HM:=af hm;have kZ:=af hI;clear h hm hI;obtain⟨xs,hc⟩:=mS.exists HM.out.yq q;have HC:=af hc;clear hc;obtain⟨c1,c2⟩:=c;obtain⟨q1,q2⟩:=q;rw[kX,kX];have heq: ∀(x y:List Int) W,x.length=2->y.length=2->(binOp .eql 43 (.agg (ints x)) (.agg (ints y))).run aj W=.ok (.bool (decide (x=y))) W:=λx y W h1 h2=>yv x y h1 h2 W
 have HEQ:=af heq;clear heq;refine(callsIn_wide (n:=3)).1 ?_;refine callsIn_of_wp_marks Tryz.func69 rfl trivial ?_ rfl;simp only[Tryz.ntmps69,aV,aD,aP,Nat.reduceAdd,Nat.reduceSub,dD,dE,ez,dT,cy,dF];rw[wpIn_wide]
 go_upto_region 1 with(fail)
 refine bZ (In G w0 (br (w.heap.size+1+1) 27 #[.int .i64 0]::br (w.heap.size+1) 43 (ints [q1,q2])::br w.heap.size 43 (ints [c1,c2])::br p 175 #[.map (ae b)]::Az b m::l)) (by have:=((kZ.out.alloc 43 (ints [c1,c2])).alloc 43 (ints [q1,q2])).alloc 27 #[.int .i64 0];simp only[dw]at this;exact this) ?_
 generalize w.heap.size+1+1=rb;generalize w.heap.size+1=qb;generalize w.heap.size=cb;intro w1 hI;have k1:row? w1 cb 0 2=ae (ints [c1,c2]):=hI.third.blk.bt rfl;have k2:row? w1 qb 0 2=ae (ints [q1,q2]):=hI.swap.blk.bt rfl;have k3:w1.cell? ⟨rb,0,ai⟩=ae (.int .i64 0):=hI.blk.cell 0;have k4:w1.frozen? ⟨rb,0,ai⟩=ay:=hI.blk.frozen 0;have hn:=λW=>HEQ.out [c1,c2] [q1,q2] W rfl rfl
 have HI:=af hI;clear hI kZ;by_cases e:(c1,c2)=(q1,q2)
 ·have hd:decide ([c1,c2]=[q1,q2])=aw:=by rw[decide_eq_true_eq];injection e with e1 e2;rw[e1,e2]
  rw[hd]at hn;have HA:Hid (ik m (c1,c2) (q1,q2)=(m,8)):=by unfold Hid ik;rw[if_pos (bm e)]
  clear hd e
  go_wp2_with fail
  have gu:=HI.out.set 0 (.int .i64 8);refine wC (p:=6) (ty:=27) rfl (g:=rb) (x:=8) rfl Tryz.isAgg27 (gu.blk.cell 0) ?_;rw[HA.out];exact⟨rfl,In.qz HM.out gu.drop.drop.drop⟩
 ·have hd:decide ([c1,c2]=[q1,q2])=ay:=by
   rw[decide_eq_false_iff_not];intro e';injection e' with e1 e2
   injection e2 with e2 _
   exact e (by rw[e1,e2])
  rw[hd]at hn;have GK:=af e;clear hd e
  go_wp2_with fail
  refine(TK p (q1,q2) w1).mono ?_;rintro e w2 ⟨rfl,rfl⟩
  go_wp2_with fail
  have hb0:Below w1.heap.size w1 ((w1.alloc (.cells #[.pointer (ae ⟨p,0,ai⟩)] 81)).alloc (.cells (ints (hL (q1,q2))) 43)):=((Below.refl _ _).alloc (ax _) _).alloc (by simp) _;have hF:=(dt.new w1 81 #[.pointer (ae ⟨p,0,ai⟩)]).alloc (.cells (ints (hL (q1,q2))) 43);have hH:=dt.new (w1.alloc (.cells #[.pointer (ae ⟨p,0,ai⟩)] 81)) 43 (ints (hL (q1,q2)));rw[dw]at hH;have gu:=af (HI.out.below hb0);generalize ((w1.alloc (.cells #[.pointer (ae ⟨p,0,ai⟩)] 81)).alloc (.cells (ints (hL (q1,q2))) 43))=W0 at *;generalize w1.heap.size+1=hb at *;generalize w1.heap.size=fb at *;have hS:uk W0 p b m:=⟨HM.out,gu.out.fourth.blk,(gu.out.fifth).fU⟩;clear hb0 k1 k2 k3 k4 HI;refine(wpIn_wide (n:=3)).1 ?_;refine wpIn_rangeFunc_ownH (F:=Fence.wide) (n:=3) rfl (by decide) (gf:=182) (lb:= #[.pointer (ae ⟨fb,0,ai⟩),.pointer (ae ⟨hb,0,ai⟩)]) rfl trivial (enters_of Tryz.func182 (by kernel_rfl) rfl)
   (Mb 2 (by decide) fb hb p b m (q1,q2) xs HC.out W0 hF hH hS) Nx Nw (Below.refl _ _) (λ_=>rfl)
   (λpre W=>(∀x∈pre,x≠(c1,c2))/\Below W0.heap.size W0 W)
   (λc pre W=>c=.ret/\(c1,c2)∈pre/\Below W0.heap.size (W0.setCell ⟨rb,0,ai⟩ (.int .i64 8)) W)
   (λs A B row hs hg hr=>⟨hs.1,hs.2.grown hg hs.2.size λk hk=>(hr k hk).1⟩)
   (λc s A B row hs hg hr=>⟨hs.1,hs.2.1,hs.2.2.grown hg (by have:=hs.2.2.size;simpa[dJ]using this) λk hk=>(hr k hk).1⟩)
   ⟨by simp,Below.refl _ _⟩
   (λx a' W=> ∃xb,dt W xb 43 (ints (hL x))/\a'={tmps:= #[.pointer (ae ⟨p,0,ai⟩),.agg #[.int .i64 c1,.int .i64 c2],.agg #[.int .i64 q1,.int .i64 q2],undef,.pointer (ae ⟨cb,0,ai⟩),.pointer (ae ⟨qb,0,ai⟩),.pointer (ae ⟨rb,0,ai⟩),.pointer (ae ⟨xb,0,ai⟩),.agg (ints [c1,c2]),.agg (ints [q1,q2]),.bool ay,.pointer (ae ⟨p,0,ai⟩),.agg (ints [q1,q2]),.func (.func 182) #[] #[.pointer (ae ⟨fb,0,ai⟩),.pointer (ae ⟨hb,0,ai⟩)],lf x,undef,undef,undef,undef,undef,undef,undef,undef,undef],defers:=[]})
   (λx a' _ A B row hs hg hr=>by obtain⟨xb,h1,h2⟩:=hs;exact⟨xb,(grownBy_keeps_cells hg (λr e=>(hr r e).2) h1 rfl).trans h1,h2⟩)
   ?assign ?body ?done ?stop
  case assign=>
   rintro l1 pre ⟨x1,x2⟩ W K hi hK
   gi_wp2
   have lJ:=dV W 43 [0,0] [x1,x2];exact hK _ _ (rE lJ) (eK.gA lJ) ⟨hi.1,hi.2.trans (lJ.mono hi.2.size)⟩ ⟨W.heap.size,gD W 43 [0,0] [x1,x2] rfl,rfl⟩
  case body=>
   rintro l1 pre ⟨x1,x2⟩ a' W o8 ⟨r,hr⟩ ⟨C1,hbW⟩ ⟨xb,hxb,rfl⟩ bJ;have HIW:=gu.out.below hbW;have k1:row? W xb 0 2=ae (ints [x1,x2]):=hxb.bt rfl;have k2:row? W cb 0 2=ae (ints [c1,c2]):=HIW.third.blk.bt rfl;have k3:W.cell? ⟨rb,0,ai⟩=ae (.int .i64 0):=HIW.blk.cell 0;have k4:W.frozen? ⟨rb,0,ai⟩=ay:=HIW.blk.frozen 0;have hn:=λW=>HEQ.out [x1,x2] [c1,c2] W rfl rfl
   have HNO:=af C1;have HBW:=af hbW;have HSZ:Hid (rb<W0.heap.size):=gu.out.blk.lt;clear C1 hbW HIW hxb;by_cases e:(x1,x2)=(c1,c2)
   ·have hd:decide ([x1,x2]=[c1,c2])=aw:=by rw[decide_eq_true_eq];injection e with e1 e2;rw[e1,e2]
    rw[hd]at hn;have HE:=af e;clear hd e
    gi_wp2
    exact⟨(KeepsOthers.setCell _ _ _).from _,rfl,by rw[HE.out];simp,Hz HBW.out _ _ _⟩
   ·have hd:decide ([x1,x2]=[c1,c2])=ay:=by
     rw[decide_eq_false_iff_not];intro e';injection e' with e1 e2
     injection e2 with e2 _
     exact e (by rw[e1,e2])
    rw[hd]at hn;have HE:=af e;clear hd e
    gi_wp2
    exact⟨KeepsFrom.refl _ _,eK.refl _,λy hy=>by rcases jh.1 hy with hy|hy;exact HNO.out y hy;rw[eO.1 hy];exact HE.out,HBW.out⟩
  case done=>
   rintro D ys W hD rfl ⟨C1,hbW⟩ hK;have HA:Hid (ik m (c1,c2) (q1,q2)=(hZ m (c1,c2) (q1,q2),0)):=by
    unfold Hid ik;rw[if_neg];rintro(e|e)
    ·exact GK.out e
    ·exact C1 _ (HC.out.mem.2 e) rfl
   have HIW:=gu.out.below hbW;have k1:row? W cb 0 2=ae (ints [c1,c2]):=HIW.third.blk.bt rfl;have k2:row? W qb 0 2=ae (ints [q1,q2]):=HIW.swap.blk.bt rfl;have k3:W.cell? ⟨p,0,ai⟩=ae (.map (ae b)):=HIW.fourth.blk.cell 0;have HBW:=af hbW;have HD:=af hD;have HK:=af hK;have CO:Hid (dW lf lf (λ_=>True) W b m):=HIW.fifth.fU;clear C1 hbW hD hK HIW hS hF hH
   go_wp2_with fail
   go_still_tail 6,(by kernel_rfl)
   change wpList _ _ _ _ _ W.drew;have RS:Hid (dW lf lf (λ_=>True) W.drew b m):=CO.out;have afn:Hid (Below W0.heap.size W0 W.drew):=HBW.out.drew;have HK3:Hid (W.drew.heap[D]? =ae (.deferred (ae []))):=HK.out;clear CO HBW HK k1 k2 k3;generalize W.drew=W2 at *
   go_wp2_with (at_mapUpdate;go_loud (refine iZ pf rfl _ _ _ 173 43 rfl Tryz.underlying173 b m rfl RS.out (c1,c2) rfl trivial (q1,q2) rfl ?_))
   intro W3 h1 h2 h3;have HO:Hid (db (· =b) W0 W3):=(db.gA afn.out).trans h2;have hK4:W3.heap[D]? =ae (.deferred (ae [])):=by have bJ:=(aI.1 HK3.out).1;refine(h2.block D bJ ?_).trans HK3.out;intro e;obtain⟨es,clock,jP,_⟩:=RS.out;rw[<-e,HK3.out]at jP;cases jP
   have HMP:=af h1;have eb:rb≠b:=λe=>by obtain⟨es,clock,jP,_⟩:=(gu.out.fifth).fU;have:=gu.out.blk;rw[e]at this;unfold dt at this;rw[this]at jP;cases jP
   have sO:dt W3 rb 27 #[.int .i64 0]:=HO.out.blk gu.out.blk eb;have HRB:=af sO;have k5:W3.cell? ⟨rb,0,ai⟩=ae (.int .i64 0):=sO.cell 0;have k6:W3.frozen? ⟨rb,0,ai⟩=ay:=sO.frozen 0;have HK4:=af hK4;clear h1 h2 h3 RS afn HK3 hK4 eb sO
   go_wp2_with fail
   have hKD:(W3.setCell ⟨rb,0,ai⟩ (.int .i64 0)).heap[D]? =ae (.deferred (ae [])):=by
    rw[Below.heap_setCell _ _ _ _ (by intro e;have h1:=HRB.out;unfold dt at h1;simp only at e;rw[<-e,HK4.out]at h1;cases h1)]
    exact HK4.out
   have fW:=gu.out.set 0 (.int .i64 0);have Yk:db (· =b) (W0.setCell ⟨rb,0,ai⟩ (.int .i64 0)) ((W3.setCell ⟨rb,0,ai⟩ (.int .i64 0)).putObj D (.deferred ai)):=(HO.out.ack rb 0 (.int .i64 0)).putObj (by simpa[dJ]using HD.out) _;have hlb:b<W0.heap.size:=((gu.out.fifth).fU).lt;have hM4:dW lf lf (λ_=>True) ((W3.setCell ⟨rb,0,ai⟩ (.int .i64 0)).putObj D (.deferred ai)) b (hZ m (c1,c2) (q1,q2)):=by refine HMP.out.block ?_;rw[World.putObj_heap_other (by have:=HD.out;omega),Below.heap_setCell];intro e;obtain⟨es,clock,jP,_⟩:=HMP.out;have h1:=HRB.out;unfold dt at h1;simp only at e;rw[<-e,jP]at h1;cases h1
   have iR:=In.oJ fW.fifth hM4 Yk;refine⟨by simp,.inl ⟨D,_,rfl,run_takeDeferred hKD,?_⟩⟩;refine wC (p:=6) (ty:=27) rfl (g:=rb) (x:=0) rfl Tryz.isAgg27 (iR.swap.blk.cell 0) ?_;rw[HA.out];have rY:=HM.out.zd (c1,c2) (q1,q2);rw[HA.out]at rY;exact⟨rfl,In.qz rY (iR.swap.drop.swap.drop.swap.drop.swap)⟩
  case stop=>
   rintro D c pre W hD aef ⟨rfl,jB,hbW⟩ hK;have HA:Hid (ik m (c1,c2) (q1,q2)=(m,8)):=by unfold Hid ik;rw[if_pos (bO (HC.out.mem.1 (aef.subset jB)))]
   have fW:=gu.out.set 0 (.int .i64 8);have iR:=fW.below ((B3 hbW (D:=D) (by simpa[dJ]using hD) (.deferred ai)).mono (by simp[dJ]))
   gi_wp2
   refine⟨by simp,.inl ⟨D,_,rfl,run_takeDeferred hK,?_⟩⟩;refine wC (p:=6) (ty:=27) rfl (g:=rb) (x:=8) rfl Tryz.isAgg27 (iR.blk.cell 0) ?_;rw[HA.out];exact⟨rfl,In.qz HM.out iR.drop.drop.drop⟩
end
section
open Go.RowKit
section
variable {G:Nat->Prop} {w0 w:ah} {l:List bU} {v u:ao}
def Ub {p:Nat}{m:kN}(h:In G w0 (j3 p m::l) w)(hl:m.length<=1099511627776)(a:Hd):Calls aj 129 #[.pointer (ae ⟨p,0,ai⟩),lf a] w λe w'=> ∃v,e=.returned v/\In G w0 (iy v (under m a)::j3 p m::l) w':=by obtain⟨rk,R,hr⟩:=h.XV.yq;exact P4 h.XV hl rk R hr (R-rk a+1) a (Nat.lt_succ_self _) h
end
end
section
open Go.RowKit
attribute [local go_sem] Oper.semAt_some
def adX {A B:ah}(h:Below A.heap.size A B):A.grownBy B ai:=⟨h.os,h.tape,h.output,h.size,λk hk _=>h.block k hk⟩
def TO {B:Nat}{A W:ah}(h:Below B A W){D:Nat}(hD:B<=D)(o:Obj):Below B A (W.putObj D o):=⟨h.os,h.tape,h.output,by simpa using h.size,λk hk=>(World.putObj_heap_other (by omega)).trans (h.block k hk)⟩
def VA (b:Nat)(w:ah):Calls aj 95 #[.map (ae b)] w λe w'=>
 e=.returned (.func (.func 147) #[] #[.pointer (ae ⟨w.heap.size,0,ai⟩)])/\w'=w.alloc (.cells #[.map (ae b)] 105):=by
 go_enter Tryz.func95,Tryz.ntmps95
 go_wp2_with fail
 go_ret;exact⟨rfl,rfl⟩
def Qs {m left:List (Int×Nat)}{pre:List Int}{x:Int}{v:Nat}(hn:(aW left).Nodup)(hx:(x,v)∈left)(hp:(pre++aW left).Perm (aW m)):((pre++[x])++aW (dZ left x)).Perm (aW m):=by refine pK ?_ hp;rw[cx];exact dy _ ((xv hn hx).map (λp:Int×Nat=>p.1)).symm
def OV (n:Nat)(hn:1<=n)(kb b:Nat)(m:List (Int×Nat))(w:ah)(hB:dt w kb 105 #[.map (ae b)])(hM:dW (aF .i64) wJ ot w b m):SeqStopsK Fence.wide n aj 147 #[.pointer (ae ⟨kb,0,ai⟩)] (λx:Int=> #[.int .i64 x]) KeepsWalks (λys=>ys.Perm (aW m)) (λ_=>True) m.length w:=λl J Jx W hW hJ hJx hY h0=>by
 have HJ:=af hJ;have HY:=af hY;have HJ0:=af h0;have hM1:=hM.after hW;have k0:W.cell? ⟨kb,0,ai⟩=ae (.map (ae b)):=(hB.after hW).cell 0;have FO:Hid ((aW m).Nodup):=hM.nodup wz;clear hJ hY hW hJx h0 hB;refine callsIn_of_wp Tryz.func147 rfl trivial ?_ rfl;simp only[Tryz.ntmps147,aV,aD,aP,Nat.reduceAdd,Nat.reduceSub,dD,dE,ez,dT,cy,dF]
 gi_wp2_with (first
  |(gi_at_range;refine rV rfl _ 105 134 rfl Tryz.underlying105 b _ rfl hM1 ?_;intro w2 Aw gF tF)
  |gi_in)
 have JW:=af Aw;have HJ2:Hid (J [] w2):=HJ.out [] W w2 ai HJ0.out (adX gF) (λr e=>by cases e);have HLE:Hid (W.heap.size<=W.heap.size):=ax _;generalize Wu:W.heap.size=ri at *;clear Aw gF tF hM1 k0 hM HJ0
 gi_loopw [6] (λ_ wr=> ∃(left:List (Int×Nat)) (pre:List Int),(aW left).Nodup/\(pre++aW left).Perm (aW m)/\dn (aF .i64) wJ ot wr b ri m left/\J pre wr) (λ_ wr=>wr.rangeLeft b ri)
 case atStart=>exact⟨m,[],FO.out,by simp,JW.out,HJ2.out⟩
 case round=>
  clear HJ2 JW;obtain⟨left,pre,Ey,hp,hr,hJp⟩:=hrel;have FO:=af Ey;have HP:=af hp;have HR:=af hr;have HJP:=af hJp;clear Ey hp hr hJp
  gi_wp2_with (first
   |(gi_at_next;refine vt wz rfl _ rfl b ri _ left rfl HR.out ?_ ?_)
   |gi_in)
  ·intro Na;subst Na
   gi_wp2
   go_end0
   exact⟨⟨_,rfl⟩,.inl ⟨pre,by have:=HP.out;simpa[aW]using this,HJP.out⟩⟩
  ·intro x v w7 hx AY Au Ni o9 Uj;have HR7:=af AY;have um:=af o9;have qN:=af (Qs FO.out hx HP.out);have ads:Hid ((aW (dZ left x)).Nodup):=lW FO.out _;have HPL:Hid (pre.length<m.length):=by have:=qN.out.length_eq;simp[aW]at this;unfold Hid;omega
   have HJ7:Hid (J pre w7):=HJ.out pre wr w7 (ae ri) HJP.out Au.Jj (λr e=>by cases e;exact⟨HLE.out,HR.out.walk⟩);obtain⟨fn,tmps,assign,body,hy,hR⟩:=HY.out pre x w7 HJ7.out HPL.out;have V5:=af hR;clear AY Au Ni o9 hx hR
   gi_wp2
   refine V5.out.mono ?_;rintro e W3 (⟨rfl,Ye,Yw⟩|⟨rfl,Yf⟩)
   ·have HJ3:=af Ye;have HR3:=af (HR7.out.walks Yw);clear Ye Yw hy Uj
    gi_wp2
    go_roundw
    case rel=>exact⟨dZ left x,pre++[x],ads.out,qN.out,HR3.out,HJ3.out⟩
    case measure=>rw[HR3.out.count,HR.out.count];exact um.out
   ·gi_wp2
    refine bodyPost_ret (results_none rfl _ _ _) rfl ?_;exact⟨⟨_,rfl⟩,.inr ⟨pre++[x],trivial,Yf⟩⟩
def Qn:(Tryz.prog.info? 3).map (λi=>(i.zero,i.size,i.bytes))=ae (ae (.int .i64 0),1,8):=by kernel_rfl
def D2 (gf:Nat)(lb:Array ao)(eg: ∀args w,(callFunc gf args).run aj w=.ok (.enter gf args) w)(S Sp:List Int->Prop)(N:Nat)(hN:N<=1099511627776)(w:ah)(Nl:SeqStopsK Fence.wide 2 aj gf lb (λx:Int=> #[.int .i64 x]) KeepsWalks S Sp N w):Calls aj 146 #[.slice ai 0 0,.func (.func gf) #[] lb] w λe w'=> ∃v,∃ys:List Int,e=.returned v/\S ys/\w'.ownsRow w.heap.size 3 1 v ys.length (ys.map (aF .i64))/\Below w.heap.size w w':=by
 have adw:=af Nl;have HEG:=af eg;clear Nl eg;obtain⟨i0,qE,uM,sX,tH⟩:=info_parts Qn;refine(callsIn_wide (n:=3)).1 ?_;refine callsIn_of_wp_marks Tryz.func146 rfl trivial ?_ rfl;simp only[Tryz.ntmps146,aV,aD,aP,Nat.reduceAdd,Nat.reduceSub,dD,dE,ez,dT,cy,dF];rw[wpIn_wide]
 go_wp2_with fail
 have HB0:Hid (Below w.heap.size w (w.alloc (.cells #[.slice ai 0 0] 32))):=(Below.refl _ _).alloc (ax _) _;have HC0:Hid (qM 3 32 1 w w.heap.size 0 [] (w.alloc (.cells #[.slice ai 0 0] 32))):=⟨⟨_,dt.new w _ _,oh _ _ _ _⟩,HB0.out⟩;have HSZ:Hid ((w.alloc (.cells #[.slice ai 0 0] 32)).heap.size=w.heap.size+1):=by simp[Hid]
 generalize (w.alloc (.cells #[.slice ai 0 0] 32))=W0 at *;refine(wpIn_wide (n:=3)).1 ?_;refine wpIn_rangeFunc_ownH (F:=Fence.wide) (n:=3) rfl (by decide) (gf:=gf) (lb:=lb) rfl trivial HEG.out
  adw.out walksK_t walksK_b HB0.out (λ_=>rfl)
  (λpre W=>qM 3 32 1 w w.heap.size pre.length (pre.map (aF .i64)) W)
  (λ_ _ _=>False)
  (λs A B row hs hg hr=>hs.kept hg λr e=>⟨by have:=(hr r e).1;have:=HSZ.out;omega,(hr r e).2⟩)
  (λc s A B row hs hg hr=>hs)
  HC0.out
  (λx a' W=>a'={tmps:= #[.slice ai 0 0,.func (.func gf) #[] lb,.pointer (ae ⟨w.heap.size,0,ai⟩),undef,.slice ai 0 0,.int .i64 x,.func (.func gf) #[] lb,.int .i64 x,undef,undef,undef,undef,undef],defers:=[]})
  (λx a' _ A B row hs hg hr=>hs)
  ?assign ?body ?done ?stop
 case assign=>
  rintro l1 pre x W K hi hK
  gi_wp2
  exact hK _ _ (KeepsFrom.refl _ _) (KeepsWalks.refl _) hi rfl
 case body=>
  rintro l1 pre x a' W o8 ⟨r,hr⟩ ⟨⟨v,xY,KA⟩,hb⟩ rfl bJ;have k2:W.cell? ⟨w.heap.size,0,ai⟩=ae v:=xY.cell 0;have HV1:=af xY;have TF:=af KA;have HB:=af hb;have hp1:pre.length+1<=maxLen:=by unfold maxLen;omega
  have hp2:(pre.length+1) *8<=140737488355328:=by omega
  have hp3:=hb.size;clear xY KA hb hr
  gi_wp2_with (first
   |(gi_at_builtin;refine p9 rfl _ _ 32 rfl w.heap.size 3 i0 _ 1 8 Tryz.underlying32 qE uM sX tH rfl (by decide) v pre.length (pre.map (aF .i64)) rfl TF.out [.int .i64 x] rfl rfl (by simp[kT]) hp1 hp2 hp3 ?_
     intro v' w9 ho hg wx;have hv9:dt w9 w.heap.size 32 #[v]:=by have h1:=HV1.out.alloc (.cells [aF .i64 x].toArray 3);refine(hg.block w.heap.size h1.lt ?_).trans h1;exact λe=>oY (TF.out.alloc (.cells [aF .i64 x].toArray 3)) h1 (λcur e=>by injection e with _ e2;exact absurd e2 (by decide)) e.symm
     have HK9:Hid (KeepsOthers W w9):=(KeepsOthers.alloc W _).trans (KeepsOthers.of_grownBy hg (vq (TF.out.alloc _)));have HB9:Hid (Below w.heap.size w w9):=(HB.out.alloc HB.out.size _).grown hg (by have:=HB.out.size;simp;omega) (λk e=>(gJ TF.out k e).1);have HV9:=af hv9;have HO9:=af ho;have k3:=hv9.cell 0;have k4:=hv9.frozen 0;clear hg wx hv9 k2;obtain⟨g',aaX,rfl⟩:=ownsRow_succ ho;clear ho
     go_frame)
   |gi_in)
  refine⟨((HK9.out.trans (KeepsOthers.setCell _ _ _)).from _),(HK9.out.trans (KeepsOthers.setCell _ _ _)).walks,⟨⟨_,HV9.out.set 0 _,?_⟩,HB9.out.setCell (p:=⟨w.heap.size,0,ai⟩) (ax _) _⟩⟩;have h5:=HO9.out.kept (grownBy_setCell' w9 w.heap.size (.slice (ae ⟨g',0,ai⟩) (pre.length+1) aaX)) (bO (oY HO9.out HV9.out (λcur e=>by injection e with _ e2;exact absurd e2 (by decide))));rw[aZ,ey];exact h5
 case done=>
  rintro D ys W hD hS ⟨⟨v,xY,KA⟩,hb⟩ hK;have k2:W.cell? ⟨w.heap.size,0,ai⟩=ae v:=xY.cell 0;have TF:=af KA;have HB:=af hb;have HS:=af hS;have HK:=af hK;have HD:Hid (w.heap.size<=D):=by have:=HSZ.out;unfold Hid;omega
  clear xY KA hb hS hK hD
  go_wp2_with fail
  refine⟨by simp,.inl ⟨_,_,rfl,run_takeDeferred HK.out,?_⟩⟩;refine EE (p:=4) (v:=v) rfl rfl ?_;exact⟨v,ys,rfl,HS.out,ownsRow_putObj TF.out _ HK.out rfl,TO HB.out HD.out _⟩
 case stop=>rintro D c pre W hD aef hF hK;exact hF.elim
def BJ {w:ah}{kb b:Nat}{m:List (Int×Nat)}(hB:dt w kb 105 #[.map (ae b)])(hM:dW (aF .i64) wJ ot w b m)(hl:m.length<=1099511627776):Calls aj 94 #[.func (.func 147) #[] #[.pointer (ae ⟨kb,0,ai⟩)]] w λe w'=> ∃v,∃ys:List Int,e=.returned v/\ys.Perm (aW m)/\w'.ownsRow w.heap.size 3 1 v ys.length (ys.map (aF .i64))/\Below w.heap.size w w':=by
 have HC:=af (D2 147 #[.pointer (ae ⟨kb,0,ai⟩)] (enters_of Tryz.func147 (by kernel_rfl) rfl) _ _ m.length hl w (OV 2 (by decide) kb b m w hB hM));clear hB hM
 go_enter Tryz.func94,Tryz.ntmps94
 go_wp2_with fail
 refine HC.out.mono ?_;rintro e w' ⟨v,ys,rfl,h1,h2,h3⟩;have H1:=af h1;have H2:=af h2;have H3:=af h3;clear h1 h2 h3 HC
 go_wp2_with fail
 go_ret;exact⟨v,ys,rfl,H1.out,H2.out,H3.out⟩
end
section
open Go.RowKit
attribute [local go_sem] Oper.semAt_some
def Jf (b:Nat)(w:ah):Calls aj 79 #[.map (ae b)] w λe w'=>
 e=.returned (.func (.func 142) #[] #[.pointer (ae ⟨w.heap.size,0,ai⟩)])/\w'=w.alloc (.cells #[.map (ae b)] 138):=by
 go_enter Tryz.func79,Tryz.ntmps79
 go_wp2_with fail
 go_ret;exact⟨rfl,rfl⟩
def keys_perm {m left:List eE}{pre:List Hd}{x:Hd}{v:List Int}(hn:(aW left).Nodup)(hx:(x,v)∈left)(hp:(pre++aW left).Perm (aW m)):((pre++[x])++aW (dZ left x)).Perm (aW m):=by refine pK ?_ hp;rw[cx];exact dy _ ((xv hn hx).map (λp:eE=>p.1)).symm
def Qt (n:Nat)(hn:1<=n)(kb b:Nat)(m:List eE)(w:ah)(hB:dt w kb 138 #[.map (ae b)])(hM:dW lf bV (λ_=>True) w b m):SeqStopsK Fence.wide n aj 142 #[.pointer (ae ⟨kb,0,ai⟩)] (λx:Hd=> #[lf x]) KeepsWalks (λys=>ys.Perm (aW m)) (λ_=>True) m.length w:=λl J Jx W hW hJ hJx hY h0=>by
 have HJ:=af hJ;have HY:=af hY;have HJ0:=af h0;have hM1:=hM.after hW;have k0:W.cell? ⟨kb,0,ai⟩=ae (.map (ae b)):=(hB.after hW).cell 0;have FO:Hid ((aW m).Nodup):=hM.nodup pf;clear hJ hY hW hJx h0 hB;refine callsIn_of_wp Tryz.func142 rfl trivial ?_ rfl;simp only[Tryz.ntmps142,aV,aD,aP,Nat.reduceAdd,Nat.reduceSub,dD,dE,ez,dT,cy,dF]
 gi_wp2_with (first
  |(gi_at_range;refine rV rfl _ 138 48 rfl Tryz.underlying138 b _ rfl hM1 ?_;intro w2 Aw gF tF)
  |gi_in)
 have JW:=af Aw;have HJ2:Hid (J [] w2):=HJ.out [] W w2 ai HJ0.out (kl gF) (λr e=>by cases e);have HLE:Hid (W.heap.size<=W.heap.size):=ax _;generalize Wu:W.heap.size=ri at *;clear Aw gF tF hM1 k0 hM HJ0
 gi_loopw [6] (λ_ wr=> ∃(left:List eE) (pre:List Hd),(aW left).Nodup/\(pre++aW left).Perm (aW m)/\dn lf bV (λ_=>True) wr b ri m left/\J pre wr) (λ_ wr=>wr.rangeLeft b ri)
 case atStart=>exact⟨m,[],FO.out,by simp,JW.out,HJ2.out⟩
 case round=>
  clear HJ2 JW;obtain⟨left,pre,Ey,hp,hr,hJp⟩:=hrel;have FO:=af Ey;have HP:=af hp;have HR:=af hr;have HJP:=af hJp;clear Ey hp hr hJp
  gi_wp2_with (first
   |(gi_at_next;refine vt pf rfl _ rfl b ri _ left rfl HR.out ?_ ?_)
   |gi_in)
  ·intro Na;subst Na
   gi_wp2
   go_end0
   exact⟨⟨_,rfl⟩,.inl ⟨pre,by have:=HP.out;simpa[aW]using this,HJP.out⟩⟩
  ·intro x1 x2 bb w7 hx AY Au Ni o9 Uj;have HR7:=af AY;have um:=af o9;have qN:=af (keys_perm FO.out hx HP.out);have ads:Hid ((aW (dZ left (x1,x2))).Nodup):=lW FO.out _;have HPL:Hid (pre.length<m.length):=by have:=qN.out.length_eq;simp[aW]at this;unfold Hid;omega
   have HJ7:Hid (J pre w7):=HJ.out pre wr w7 (ae ri) HJP.out Au.Jj (λr e=>by cases e;exact⟨HLE.out,HR.out.walk⟩);have Kv:=dV w7 43 [0,0] [x1,x2];have HR8:Hid (dn lf bV (λ_=>True) (putRow (w7.alloc (.cells #[.int .i64 0,.int .i64 0] 43)) w7.heap.size 0 [x1,x2]) b ri m (dZ left (x1,x2))):=AY.after Kv;have k1:row? (putRow (w7.alloc (.cells #[.int .i64 0,.int .i64 0] 43)) w7.heap.size 0 [x1,x2]) w7.heap.size 0 2=ae #[.int .i64 x1,.int .i64 x2]:=(gD w7 43 [0,0] [x1,x2] rfl).bt (xs:=[x1,x2]) rfl;have f1:fits (w7.alloc (.cells #[.int .i64 0,.int .i64 0] 43)) w7.heap.size 0 2=aw:=(dt.new w7 43 (ints [0,0])).fits 0 2 (by rw[bD];simp);obtain⟨fn,tmps,assign,body,hy,hR⟩:=HY.out pre (x1,x2) (putRow (w7.alloc (.cells #[.int .i64 0,.int .i64 0] 43)) w7.heap.size 0 [x1,x2]) (HJ.out pre w7 _ ai HJ7.out (kl Kv) (λr e=>by cases e)) HPL.out;simp only[kX]at hy;have V5:=af hR;clear AY Au Ni o9 hx Kv hR HR7
   gi_wp2
   refine V5.out.mono ?_;rintro e W3 (⟨rfl,Ye,Yw⟩|⟨rfl,Yf⟩)
   ·have HJ3:=af Ye;have HR3:=af (HR8.out.walks Yw);clear Ye Yw hy k1 f1
    gi_wp2
    go_roundw
    case rel=>exact⟨dZ left (x1,x2),pre++[(x1,x2)],ads.out,qN.out,HR3.out,HJ3.out⟩
    case measure=>rw[HR3.out.count,HR.out.count];exact um.out
   ·gi_wp2
    refine bodyPost_ret (results_none rfl _ _ _) rfl ?_;exact⟨⟨_,rfl⟩,.inr ⟨pre++[(x1,x2)],trivial,Yf⟩⟩
def G5 (gf:Nat)(lb:Array ao)(eg: ∀args w,(callFunc gf args).run aj w=.ok (.enter gf args) w)(S Sp:List Hd->Prop)(N:Nat)(hN:N<=1099511627776)(w:ah)(Nl:SeqStopsK Fence.wide 2 aj gf lb (λx:Hd=> #[lf x]) KeepsWalks S Sp N w):Calls aj 183 #[.slice ai 0 0,.func (.func gf) #[] lb] w λe w'=> ∃v ys,e=.returned v/\S ys/\w'.ownsRow w.heap.size 43 2 v ys.length (ys.flatMap hC)/\Below w.heap.size w w':=by
 have adw:=af Nl;have HEG:=af eg;clear Nl eg;obtain⟨i0,qE,uM,sX,tH⟩:=info_parts lu;refine(callsIn_wide (n:=3)).1 ?_;refine callsIn_of_wp_marks Tryz.func183 rfl trivial ?_ rfl;simp only[Tryz.ntmps183,aV,aD,aP,Nat.reduceAdd,Nat.reduceSub,dD,dE,ez,dT,cy,dF];rw[wpIn_wide]
 go_wp2_with fail
 have HB0:Hid (Below w.heap.size w (w.alloc (.cells #[.slice ai 0 0] 122))):=(Below.refl _ _).alloc (ax _) _;have HC0:Hid (qM 43 122 2 w w.heap.size 0 [] (w.alloc (.cells #[.slice ai 0 0] 122))):=⟨⟨_,dt.new w _ _,oh _ _ _ _⟩,HB0.out⟩;have HSZ:Hid ((w.alloc (.cells #[.slice ai 0 0] 122)).heap.size=w.heap.size+1):=by simp[Hid]
 generalize (w.alloc (.cells #[.slice ai 0 0] 122))=W0 at *;refine(wpIn_wide (n:=3)).1 ?_;refine wpIn_rangeFunc_ownH (F:=Fence.wide) (n:=3) rfl (by decide) (gf:=gf) (lb:=lb) rfl trivial HEG.out
  adw.out walksK_t walksK_b HB0.out (λ_=>rfl)
  (λpre W=>qM 43 122 2 w w.heap.size pre.length (pre.flatMap hC) W)
  (λ_ _ _=>False)
  (λs A B row hs hg hr=>hs.kept hg λr e=>⟨by have:=(hr r e).1;have:=HSZ.out;omega,(hr r e).2⟩)
  (λc s A B row hs hg hr=>hs)
  HC0.out
  (λx a' W=> ∃xb,dt W xb 43 (ints (hL x))/\a'={tmps:= #[.slice ai 0 0,.func (.func gf) #[] lb,.pointer (ae ⟨w.heap.size,0,ai⟩),undef,.slice ai 0 0,.pointer (ae ⟨xb,0,ai⟩),.func (.func gf) #[] lb,lf x,undef,undef,undef,undef,undef],defers:=[]})
  (λx a' _ A B row hs hg hr=>by obtain⟨xb,h1,h2⟩:=hs;exact⟨xb,(grownBy_keeps_cells hg (λr e=>(hr r e).2) h1 rfl).trans h1,h2⟩)
  ?assign ?body ?done ?stop
 case assign=>
  rintro l1 pre ⟨x1,x2⟩ W K hi hK
  gi_wp2
  have lJ:=dV W 43 [0,0] [x1,x2];exact hK _ _ (rE lJ) (KeepsWalks.of_grownBy (kl lJ) (λ_ _ e=>by cases e)) (hi.kept (kl lJ) (λr e=>by cases e)) ⟨W.heap.size,gD W 43 [0,0] [x1,x2] rfl,rfl⟩
 case body=>
  rintro l1 pre ⟨x1,x2⟩ a' W o8 ⟨r,hr⟩ ⟨⟨v,xY,KA⟩,hb⟩ ⟨xb,hxb,rfl⟩ bJ;have k1:row? W xb 0 2=ae #[.int .i64 x1,.int .i64 x2]:=hxb.bt (xs:=[x1,x2]) rfl;have k2:W.cell? ⟨w.heap.size,0,ai⟩=ae v:=xY.cell 0;have HV1:=af xY;have TF:=af KA;have HB:=af hb;have hp1:pre.length+1<=maxLen:=by unfold maxLen;omega
  have hp2:(pre.length+1) *16<=140737488355328:=by omega
  have hp3:=hb.size;clear xY KA hb hxb hr
  gi_wp2_with (first
   |(gi_at_builtin;refine p9 rfl _ _ 122 rfl w.heap.size 43 i0 _ 2 16 Tryz.underlying122 qE uM sX tH rfl (by decide) v pre.length (pre.flatMap hC) rfl TF.out [.int .i64 x1,.int .i64 x2] rfl rfl (by simp[kT]) hp1 hp2 hp3 ?_
     intro v' w9 ho hg wx;have hv9:dt w9 w.heap.size 122 #[v]:=by have h1:=HV1.out.alloc (.cells [aF .i64 x1,.int .i64 x2].toArray 43);refine(hg.block w.heap.size h1.lt ?_).trans h1;exact λe=>oY (TF.out.alloc (.cells [aF .i64 x1,.int .i64 x2].toArray 43)) h1 (λcur e=>by injection e with _ e2;exact absurd e2 (by decide)) e.symm
     have HK9:Hid (KeepsOthers W w9):=(KeepsOthers.alloc W _).trans (KeepsOthers.of_grownBy hg (vq (TF.out.alloc _)));have HB9:Hid (Below w.heap.size w w9):=(HB.out.alloc HB.out.size _).grown hg (by have:=HB.out.size;simp;omega) (λk e=>(gJ TF.out k e).1);have HV9:=af hv9;have HO9:=af ho;have k3:=hv9.cell 0;have k4:=hv9.frozen 0;clear hg wx hv9 k1 k2;obtain⟨g',aaX,rfl⟩:=ownsRow_succ ho;clear ho
     go_frame)
   |gi_in)
  refine⟨((HK9.out.trans (KeepsOthers.setCell _ _ _)).from _),(HK9.out.trans (KeepsOthers.setCell _ _ _)).walks,⟨⟨_,HV9.out.set 0 _,?_⟩,HB9.out.setCell (p:=⟨w.heap.size,0,ai⟩) (ax _) _⟩⟩;have h5:=HO9.out.kept (grownBy_setCell' w9 w.heap.size (.slice (ae ⟨g',0,ai⟩) (pre.length+1) aaX)) (bO (oY HO9.out HV9.out (λcur e=>by injection e with _ e2;exact absurd e2 (by decide))));rw[aZ,dG];exact h5
 case done=>
  rintro D ys W hD hS ⟨⟨v,xY,KA⟩,hb⟩ hK;have k2:W.cell? ⟨w.heap.size,0,ai⟩=ae v:=xY.cell 0;have TF:=af KA;have HB:=af hb;have HS:=af hS;have HK:=af hK;have HD:Hid (w.heap.size<=D):=by have:=HSZ.out;unfold Hid;omega
  clear xY KA hb hS hK hD
  go_wp2_with fail
  refine⟨by simp,.inl ⟨_,_,rfl,run_takeDeferred HK.out,?_⟩⟩;refine EE (p:=4) (v:=v) rfl rfl ?_;exact⟨v,ys,rfl,HS.out,ownsRow_putObj TF.out _ HK.out rfl,B3 HB.out HD.out _⟩
 case stop=>rintro D c pre W hD aef hF hK;exact hF.elim
def Mz (gf:Nat)(lb:Array ao)(eg: ∀args w,(callFunc gf args).run aj w=.ok (.enter gf args) w)(S Sp:List Hd->Prop)(N:Nat)(hN:N<=1099511627776)(w:ah)(Nl:SeqStopsK Fence.wide 2 aj gf lb (λx:Hd=> #[lf x]) KeepsWalks S Sp N w):Calls aj 140 #[.func (.func gf) #[] lb] w λe w'=> ∃v ys,e=.returned v/\S ys/\w'.ownsRow w.heap.size 43 2 v ys.length (ys.flatMap hC)/\Below w.heap.size w w':=by
 have HC:=af (G5 gf lb eg S Sp N hN w Nl);clear Nl eg
 go_enter Tryz.func140,Tryz.ntmps140
 go_wp2_with fail
 refine HC.out.mono ?_;rintro e w' ⟨v,ys,rfl,h1,h2,h3⟩;have H1:=af h1;have H2:=af h2;have H3:=af h3;clear h1 h2 h3 HC
 go_wp2_with fail
 go_ret;exact⟨v,ys,rfl,H1.out,H2.out,H3.out⟩
def wT {w:ah}{kb b:Nat}{m:List eE}(hB:dt w kb 138 #[.map (ae b)])(hM:dW lf bV (λ_=>True) w b m)(hl:m.length<=1099511627776):Calls aj 78 #[.func (.func 142) #[] #[.pointer (ae ⟨kb,0,ai⟩)],.func (.func 80) #[] #[]] w λe w'=> ∃v,e=.returned v/\In (λ_=>False) w [iy v (dj m)] w':=by
 have HC:=af (Mz 142 #[.pointer (ae ⟨kb,0,ai⟩)] (enters_of Tryz.func142 (by kernel_rfl) rfl) _ _ m.length hl w (Qt 2 (by decide) kb b m w hB hM));clear hB hM
 go_enter Tryz.func78,Tryz.ntmps78
 go_wp2_with fail
 refine HC.out.mono ?_;rintro e w' ⟨v,ys,rfl,h1,h2,h3⟩;have hyl:ys.length<=1099511627776:=by have:=h1.length_eq;unfold aW at this;rw[aL]at this;omega
 have HS:Hid (ys.mergeSort yX=dj m):=BE h1;have HI:Hid (In (λ_=>False) w [iy v ys] w'):=(In.nil w _).new (A:=iy v ys) h3 ⟨EU h2,λk hk=>(gJ h2 k hk).1⟩;clear h1 h2 h3 HC
 go_wp2_with fail
 refine(OH HI.out hyl).mono ?_;rintro e w3 ⟨rfl,fj⟩;rw[HS.out]at fj;have fW:=af fj;clear fj HI
 go_wp2_with fail
 go_ret;exact⟨v,rfl,fW.out⟩
end
section
open Go.RowKit Go.Sort
def Kl {α:Type}(rw:Int->List α): ∀zs:List Int,(∀K∈zs,(rw K).length<=60)->(zs.flatMap rw).length<=60 *zs.length
 | [],_=>by simp
 |K::zs,h=>by
  rw[bN,aZ,aD];have h1:=h K (by simp);have h2:=Kl rw zs λK hK=>h K (by simp[hK])
  omega
def aeq {T:WT}(hn:T.ks.Nodup)(hk: ∀K∈T.ks,0<=K/\K<=255):T.ks.length<=256:=by
 have mW: ∀x∈T.ks,x∈(bP 256).map (λi:Nat=>(i:Int)):=λx hx=>by have:=hk x hx;exact aH.2 ⟨x.toNat,ng.2 (by omega),by omega⟩
 have:=wG hn mW;simpa using this
def Zf (T:WT):aW (T.ks.map λK=>(K,T.pt K))=T.ks:=by unfold aW;rw[List.map_map];exact List.map_id _
def ny (q:Query)(ks:List Int)(rw:Int->List cQ)(j:Nat):List cQ:=((ks.take j).filter λK=>fO K q).flatMap rw
def NF (q:Query)(ks:List Int)(rw:Int->List cQ)(j:Nat)(h:j<ks.length):ny q ks rw (j+1)=if fO ks[j] q=aw then ny q ks rw j++rw ks[j]else ny q ks rw j:=by
 unfold ny;rw[bh h,List.filter_append,dG];by_cases hm:fO ks[j] q=aw
 ·rw[if_pos hm];simp[hm]
 ·rw[if_neg hm];simp[hm]
def G9 (a b:cQ):Int:=sH a.h.1 b.h.1
def ait:SWO (ltOf G9)where
 irrefl x:=by unfold ltOf G9;simp[tj]
 trans x y z h1 h2:=by unfold ltOf G9 at *;simp only[tj,decide_eq_true_eq]at *;omega
 ntrans x y z h1 h2:=by unfold ltOf G9 at *;simp only[tj,decide_eq_false_iff_not]at *;omega
instance:Inhabited cQ:=⟨aM⟩
def In.acH {G:Nat->Prop}{w0 w:ah}{T:WT}{X:List bU}{K:Int}(hK:K∈T.ks)(h:In G w0 (oo (T.pt K) K (T.rw K)::(X++(T.ks.erase K).map (dI T))) w):In G w0 (X++T.ks.map (dI T)) w:=h.perm ((dy X ((List.perm_cons_erase hK).map (dI T))).trans List.perm_middle).symm
def Vg (x y:cQ)(w:ah):Calls aj 98 #[.agg (ints (Bs x)),.agg (ints (Bs y))] w λe w'=>e=.returned (.int .i64 (G9 x y))/\ ∃q os,w'=Sort.grow (w.drewN q) os:=by
 have HX:Hid ((ints (Bs x))[0]? =ae (.int .i64 x.h.1)):=rfl;have HY:Hid ((ints (Bs y))[0]? =ae (.int .i64 y.h.1)):=rfl;have HC:Hid (G9 x y=sH x.h.1 y.h.1):=rfl;generalize G9 x y=cr at *;generalize x.h.1=x0 at *;generalize y.h.1=y0 at *;generalize Bs x=xs at *;generalize Bs y=ys at *
 go_enter Tryz.func98,Tryz.ntmps98
 go_upto_region 1 with(fail)
 have k1:((w.alloc (.cells (ints xs) 50)).alloc (.cells (ints ys) 50)).cell? ⟨w.heap.size,0,ai⟩=ae (.int .i64 x0):=(((dt.new w 50 (ints xs)).alloc _).cell 0).trans HX.out;have k2:((w.alloc (.cells (ints xs) 50)).alloc (.cells (ints ys) 50)).cell? ⟨w.heap.size+1,0,ai⟩=ae (.int .i64 y0):=by have:=dt.new (w.alloc (.cells (ints xs) 50)) 50 (ints ys);rw[dw]at this;exact(this.cell 0).trans HY.out
 have HW:Hid (((w.alloc (.cells (ints xs) 50)).alloc (.cells (ints ys) 50))=Sort.grow w #[.cells (ints xs) 50,.cells (ints ys) 50]):=by unfold Hid;rw[Sort.alloc_eq_grow,Sort.alloc_eq_grow,Sort.grow_grow];rfl
 change Code.wp _ _ _ _ ((w.alloc (.cells (ints xs) 50)).alloc (.cells (ints ys) 50));generalize ((w.alloc (.cells (ints xs) 50)).alloc (.cells (ints ys) 50))=w2 at *;clear HX HY
 go_wp2_with fail
 refine(yt x0 y0 w2).mono ?_;rintro e w3 ⟨rfl,rfl⟩
 go_wp2_with fail
 go_ret;refine⟨gd HC.out.symm,0,#[.cells (ints xs) 50,.cells (ints ys) 50],?_⟩;rw[HW.out]
 rfl
section
variable {G:Nat->Prop} {w0 w:ah} {l:List bU}
def Z3 {v:ao}{xs:List cQ}(h:In G w0 (eo v xs::l) w)(hl:xs.length<=1099511627776):Calls aj 97 #[v,.func (.func 98) #[] #[]] w λe w'=>e=.returned (.tuple #[])/\ ∃ys:List cQ,ys.Perm xs/\(ys.Pairwise λa b=> ¬b.h.1<a.h.1)/\In G w0 (eo v ys::l) w':=by
 have h1: ∀x,∀u∈C7 x,u.oneCell'=aw:=λx u hu=>by obtain⟨y,_,rfl⟩:=aH.1 hu;rfl
 have h2: ∀blk off size w,CmpLays aj 98 #[] C7 11 G9 blk off size w:=λblk off size w m os dk _ x y=>Vg x y (sortWorldK C7 11 w blk off m dk os)
 have h3: ∀args w,(callFunc 98 args).run aj w=.ok (.enter 98 args) w:=enters_of Tryz.func98 (by kernel_rfl) rfl;have CZ:=Ln (ρ:=CJ) (enc:=C7) OI Tryz.isAgg50 Tryz.sizeOf50 Fi h1 G9 ait 98 h3 h2 50 h (by omega);change Calls aj 97 _ _ _ at CZ;refine CZ.mono ?_;rintro e w' ⟨rfl,ys,hp,hs,hI⟩;exact⟨rfl,ys,hp,hs.imp λ{a b} h bJ=>by unfold G9 at h;rw[decide_eq_false_iff_not,tj]at h;exact h bJ,hI⟩
end
section
variable {G:Nat->Prop} {w0 w:ah} {l:List bU} {p:Nat} {ls:List (Int×Bool)} {f:BF}
end
end
section
open Go.RowKit
def FM:CM.list=[0,0,0]:=rfl
def Bc (k:Int):fO k CM=aw:=by exact KI k
def JQ:kr CM=0:=by decide
noncomputable instance:DecidableEq cQ:=λa b=>Classical.propDecidable (a=b)
section
variable {ls:List (Int×Bool)} {f:BF}
def zg (h:pX ls f){r:cQ}(hr:r∈DZ ls f):r.b.v.length=8/\bI r.b=0/\eI ls r.h.1 r.h.2=aw/\f r.h.1=ae (r.h.2,r.b):=by have h1:=(nX h).1 hr;obtain⟨h2,h3⟩:=h.bo _ _ _ h1;exact⟨h3,h2,(h.lv _ _).2 ⟨_,h1⟩,h1⟩
def TM (h:pX ls f){r:cQ}(hr:r∈DZ ls f): ∃s:Nat,r.h.1=(s:Int)/\s<ls.length/\(iP ls).getD s 0=r.h.2:=by obtain⟨_,_,h1,_⟩:=zg h hr;obtain⟨k,e1,e2,e3⟩:=tN h1;refine⟨k,e1,e2,?_⟩;rw[AS,aY,dN,aq e2];rw[aY,aq e2]at e3;simp only[bT]at e3;simp[e3]
def Uc (ls:List (Int×Bool)):(iP ls).length=ls.length:=by rw[AS,aL]
def ze (h:pX ls f):(DZ ls f).length<=60:=by have:=Vj ls f CM;rw[Fo Bc]at this;have:=h.so.1;omega
end
section
variable {G:Nat->Prop} {w0 w:ah} {l:List bU} {v u:ao}
end
end
section
open Go.RowKit Go.Sort
section
variable {G:Nat->Prop} {w0 w:ah} {l:List bU} {p sp:Nat} {ls:List (Int×Bool)} {f:BF}
def Ow (h:In G w0 (nT p sp ls f::l) w)(hk:pX ls f)(q:Query):Calls aj 42 #[.pointer (ae ⟨p,0,ai⟩),.agg (ints q.list)] w λe w'=> ∃v,e=.returned (.tuple #[v,.int .i64 (kr q)])/\In G w0 (eo v (if kr q=0 then wP ls f q else [])::nT p sp ls f::l) w':=by
 have kZ:=af h;have HK:=af hk;clear h hk;obtain⟨qe,hqe⟩: ∃x,kr q=x:=⟨_,rfl⟩;rw[hqe];have HQE:=af hqe;clear hqe
 go_enter Tryz.func42,Tryz.ntmps42
 go_upto_region 1 with(fail)
 refine bZ (In G w0 (nT p sp ls f::br w.heap.size 52 (ints q.list)::l)) ((kZ.out.alloc 52 (ints q.list)).swap) ?_;generalize w.heap.size=qb;intro w1 km;have q1:row? w1 qb 0 3=ae (ints q.list):=km.swap.blk.bt rfl;have qB:=af km;clear km kZ
 go_wp2_with fail
 refine(qX q w1).mono ?_;rintro e w2 ⟨rfl,gF⟩;rw[HQE.out];have gu:=af (qB.out.below gF);clear gF qB q1;by_cases hq:qe=0
 case neg=>
  have HQ:=af hq
  go_wp2_with fail
  go_ret2
  refine⟨.slice ai 0 0,rfl,?_⟩;exact gu.out.swap.drop.mN _ _
 case pos=>
  subst hq;clear HQE;obtain⟨tb,pb,T,hT,hI⟩:=gu.out.rM;have fj:In G w0 (br p 108 #[.pointer (ae ⟨sp,0,ai⟩),.map (ae tb),.map (ae pb)]::cI sp ls::PtrMap tb (T.ks.map λK=>(K,T.pt K))::bR pb T.ps::br qb 52 (ints q.list)::(l++T.ks.map (dI T))) w2:=hI;have vH: ∀K∈T.ks,(0<=K/\K<=255)/\ ∀r∈T.rw K,r.b.k=K:=λK hK=>Am (In.Cw (X:=br p 108 #[.pointer (ae ⟨sp,0,ai⟩),.map (ae tb),.map (ae pb)]::cI sp ls::PtrMap tb (T.ks.map λK=>(K,T.pt K))::bR pb T.ps::br qb 52 (ints q.list)::l) fj hK)
  have RR:=af vH;have HT:=af hT;have HKL:=af (aeq hT.nd λK hK=>(vH K hK).1);have fW:=af fj;have k0:w2.cell? ⟨p,1,ai⟩=ae (.map (ae tb)):=fj.blk.cell 1;clear hT hI fj vH gu
  go_wp2_with fail
  refine(VA tb w2).mono ?_;rintro e w3 ⟨rfl,rfl⟩;have gq:=(fW.out.alloc 105 #[.map (ae tb)]);have af7:=BJ (m:=T.ks.map λK=>(K,T.pt K)) gq.blk (gq.fourth.fU) (by rw[aL];have:=HKL.out;omega);have aaH:=af af7;have iR:=af gq.drop;clear gq af7 fW k0;generalize w2.alloc (.cells #[.map (ae tb)] 105)=w3 at *
  go_wp2_with fail
  refine aaH.out.mono ?_;rintro e w4 ⟨v4,ys,rfl,hp,ho,hb⟩;rw[Zf]at hp;have HP:=af hp;have hyl:ys.length<=256:=by rw[hp.length_eq];exact HKL.out
  have ni:Hid (In G w0 (eo (.slice ai 0 0) []::fM v4 ys::br p 108 #[.pointer (ae ⟨sp,0,ai⟩),.map (ae tb),.map (ae pb)]::cI sp ls::PtrMap tb (T.ks.map λK=>(K,T.pt K))::bR pb T.ps::br qb 52 (ints q.list)::(l++T.ks.map (dI T))) w4):=(iR.out.xw ho hb).mN _ _;obtain⟨A4,c4,rfl,_⟩:=ni.out.swap.oI;clear ho hb aaH iR hp;obtain⟨i0,qE,uM,sX,tH⟩:=info_parts Vf;have hyi:(ys.length:Int)<=256:=by omega
  go_wp2_with fail
  go_loopw [26,7] (λi v w'=> ∃j:Nat,j<=ys.length/\i=.int .i64 j/\In G w0 (eo v (ny q ys T.rw j)::fM (.slice A4 ys.length c4) ys::br p 108 #[.pointer (ae ⟨sp,0,ai⟩),.map (ae tb),.map (ae pb)]::cI sp ls::PtrMap tb (T.ks.map λK=>(K,T.pt K))::bR pb T.ps::br qb 52 (ints q.list)::(l++T.ks.map (dI T))) w') (λi _ _=>ys.length-(intOf i).toNat)
  case atStart=>exact⟨0,by omega,rfl,ni.out⟩
  case round=>
   clear ni;obtain⟨j,hj,rfl,hI⟩:=hrel;have HI:=af hI;obtain⟨A5,c5,hA5,hr5⟩:=hI.swap.oI;injection hA5 with e1 e2 e3
   subst e1;subst e3;have HR5:=af hr5;clear hI hr5 e2;by_cases bJ:j<ys.length
   ·have Wp:(j:Int)<ys.length:=by omega
    obtain⟨g,o2,rfl,hgl,aiV,uL⟩:=HR5.out.at_ (k:=j) bJ;have HMS:=af (NF q ys T.rw j bJ);have hKm:ys[j]∈T.ks:=HP.out.mem_iff.1 (bg bJ);generalize ys[j]=K at *;have HKM:=af hKm;have q1:row? wr qb 0 3=ae (ints q.list):=(HI.out.nth 6 (by simp)).blk.bt rfl;clear HR5 hKm
    go_wp2_with fail
    refine(EI K q wr).mono ?_;rintro e w5 ⟨rfl,Wh⟩;have ni:=af (HI.out.below Wh);clear Wh q1 uL HI;cases hm:fO K q with
    |false=>
     rw[if_neg (by rw[hm];simp)]at HMS;clear hm
     go_wp2_with fail
     go_roundw
     case rel=>exact⟨j+1,by omega,by go_num,by rw[HMS.out];exact ni.out⟩
     case measure=>simp[intOf];omega
    |true=>
     rw[if_pos hm]at HMS;clear hm;have k1:w5.cell? ⟨p,1,ai⟩=ae (.map (ae tb)):=(ni.out.third).blk.cell 1;have pe:=(ni.out.nth 4 (by simp)).fU;have o8:=zO pe HKM.out (RR.out K HKM.out).1 (Below.refl _ _);clear pe;have YA:=HT.out.tZ HKM.out;have kO:Hid (In G w0 (oo (T.pt K) K (T.rw K)::eo u7 (ny q ys T.rw j)::fM (.slice (ae ⟨g,o2,ai⟩) ys.length c4) ys::br p 108 #[.pointer (ae ⟨sp,0,ai⟩),.map (ae tb),.map (ae pb)]::cI sp ls::PtrMap tb (T.ks.map λK=>(K,T.pt K))::bR pb T.ps::br qb 52 (ints q.list)::l++(T.ks.erase K).map (dI T)) w5):=In.Cw (X:=eo u7 (ny q ys T.rw j)::fM (.slice (ae ⟨g,o2,ai⟩) ys.length c4) ys::br p 108 #[.pointer (ae ⟨sp,0,ai⟩),.map (ae tb),.map (ae pb)]::cI sp ls::PtrMap tb (T.ks.map λK=>(K,T.pt K))::bR pb T.ps::br qb 52 (ints q.list)::l) ni.out HKM.out;have HH:=af (wV kO.out (by omega))
     go_wp2_with fail
     refine HH.out.mono ?_;rintro e w6 ⟨hv,rfl,ho,Ku,xM⟩;obtain⟨A6,c6,rfl,_,_,_⟩:=cM ho;have kh:Hid (In G w0 (eo u7 (ny q ys T.rw j++(T.rw K).take 0)::oo (T.pt K) K (T.rw K)::fM (.slice (ae ⟨g,o2,ai⟩) ys.length c4) ys::br p 108 #[.pointer (ae ⟨sp,0,ai⟩),.map (ae tb),.map (ae pb)]::cI sp ls::PtrMap tb (T.ks.map λK=>(K,T.pt K))::bR pb T.ps::br qb 52 (ints q.list)::l++(T.ks.erase K).map (dI T)) w6):=by rw[List.take_zero,ew];exact xM.swap
     clear ho Ku xM kO ni HH k1 o8;have Ww: ∀r∈T.rw K,r.b.v.length=8:=λr hr=>by obtain⟨i,hi,hir⟩:=dK.1 hr;obtain⟨h1,_⟩:=HT.out.at_ K HKM.out i r (by rw[aq hi,hir]);exact(HT.out.ok _ _ _ h1).2.1
     have HVL:=af Ww;have YF:(ny q ys T.rw j).length<=60 *((ys.take j).filter λK=>fO K q).length:=Kl T.rw _ λK' jX=>HT.out.tZ (HP.out.mem_iff.1 (pN (cm.1 jX).1))
     have aeb:((ys.take j).filter λK=>fO K q).length<=256:=bM (jA _ _) (by rw[cK];omega);have HML:Hid ((ny q ys T.rw j).length<=15360):=by unfold Hid;omega
     clear Ww YF aeb;generalize ny q ys T.rw j=done at *;have Wu:((T.rw K).length:Int)<=60:=by omega
     go_wp2_with fail
     go_loopw [43,7] (λi v w'=> ∃k:Nat,k<=(T.rw K).length/\i=.int .i64 k/\In G w0 (eo v (done++(T.rw K).take k)::oo (T.pt K) K (T.rw K)::fM (.slice (ae ⟨g,o2,ai⟩) ys.length c4) ys::br p 108 #[.pointer (ae ⟨sp,0,ai⟩),.map (ae tb),.map (ae pb)]::cI sp ls::PtrMap tb (T.ks.map λK=>(K,T.pt K))::bR pb T.ps::br qb 52 (ints q.list)::l++(T.ks.erase K).map (dI T)) w') (λi _ _=>(T.rw K).length-(intOf i).toNat)
     case atStart=>exact⟨0,by omega,rfl,kh.out⟩
     case round=>
      clear kh;obtain⟨k,hk,rfl,hI⟩:=hrel;have HI:=af hI;clear hI;by_cases hkl:k<(T.rw K).length
      ·have vI:(k:Int)<(T.rw K).length:=by omega
       have V5:Hid (wO (T.rw K) (k:Int)=((T.rw K)[k],0)):=by unfold Hid wO mM;have h1:decide (0<=(k:Int))=aw:=decide_eq_true (by omega);have h2:decide ((k:Int)<((T.rw K).length:Nat))=aw:=decide_eq_true (by omega);rw[h1,h2,fw,aY,aq hkl];rfl
       have HR:=af (acF HI.out.swap (k:Int) (by omega));rw[V5.out]at HR;have HTK:Hid (done++(T.rw K).take (k+1)=(done++(T.rw K).take k)++[(T.rw K)[k]]):=by unfold Hid;rw[bh hkl,cx]
       have ael:((T.rw K)[k]).list.length=11:=by have h8:=HVL.out _ (bg hkl);simp[cQ.list,aQ.list,h8]
       have HRC:Hid (C7 (T.rw K)[k]=((T.rw K)[k]).list.map (aF .i64)):=by unfold Hid C7 Bs;rw[Sf ael]
       have sM:(done++(T.rw K).take k).length<=20000:=by rw[aZ,cK];have:=HML.out;omega
       generalize (T.rw K)[k]=r at *;have afA:=af ael;generalize SF:r.list=xs at *;generalize done++(T.rw K).take k=cur at *;clear ael SF;have SE:xs.length=11:=afA.out
       go_wp2_with fail
       refine HR.out.mono ?_;rintro e w8 ⟨rfl,_,mR⟩;have oQ:=af mR.swap;clear mR HR HI V5
       go_upto_region 14 with(fail)
       refine bZ (In G w0 (br w8.heap.size 50 (ints xs)::eo u7 cur::oo (T.pt K) K (T.rw K)::fM (.slice (ae ⟨g,o2,ai⟩) ys.length c4) ys::br p 108 #[.pointer (ae ⟨sp,0,ai⟩),.map (ae tb),.map (ae pb)]::cI sp ls::PtrMap tb (T.ks.map λK=>(K,T.pt K))::bR pb T.ps::br qb 52 (ints q.list)::l++(T.ks.erase K).map (dI T))) (oQ.out.struct 50 [0,0,0,0,0,0,0,0,0,0,0] xs SE) ?_;generalize w8.heap.size=rb;intro w9 o6;have d3:row? w9 rb 0 11=ae (ints xs):=o6.blk.bt SE;have pw:=af o6.drop;have HOW:=af o6.drop.rowAt;have YH: ∀u∈xs.map (aF .i64),u.oneCell'=aw:=by intro u hu;obtain⟨y,_,rfl⟩:=aH.1 hu;rfl
       have adv:=af YH;clear o6 YH oQ
       go_wp2_with (at_builtin;go_loud (refine eX rfl _ _ _ rfl 0 50 i0 _ 11 88 Tryz.underlying33 qE uM sX tH rfl (by decide) _ cur.length _ rfl HOW.out (xs.map (aF .i64)) rfl (by rw[aL];exact afA.out) adv.out (by unfold maxLen;omega) (by omega) (cE _) ?_))
       intro v' Ax ac5 LQ afZ;have iq:=In.xe pw.out ac5 LQ afZ;have qw:In G w0 (eo v' (cur++[r])::oo (T.pt K) K (T.rw K)::fM (.slice (ae ⟨g,o2,ai⟩) ys.length c4) ys::br p 108 #[.pointer (ae ⟨sp,0,ai⟩),.map (ae tb),.map (ae pb)]::cI sp ls::PtrMap tb (T.ks.map λK=>(K,T.pt K))::bR pb T.ps::br qb 52 (ints q.list)::l++(T.ks.erase K).map (dI T)) Ax:=by unfold eo;rw[aZ,dG,bN,List.flatMap_nil,ew,HRC.out];exact iq
       have vz:=af qw;clear ac5 LQ afZ iq qw d3 pw HOW
       go_wp2_with fail
       go_roundw
       case rel=>exact⟨k+1,by omega,by go_num,by rw[HTK.out];exact vz.out⟩
       case measure=>simp[intOf];omega
      ·have Yy:k=(T.rw K).length:=by omega
       subst Yy;rw[dm,<-HMS.out]at HI;have ahJ:In G w0 (oo (T.pt K) K (T.rw K)::(eo u7 (ny q ys T.rw (j+1))::fM (.slice (ae ⟨g,o2,ai⟩) ys.length c4) ys::br p 108 #[.pointer (ae ⟨sp,0,ai⟩),.map (ae tb),.map (ae pb)]::cI sp ls::PtrMap tb (T.ks.map λK=>(K,T.pt K))::bR pb T.ps::br qb 52 (ints q.list)::l++(T.ks.erase K).map (dI T))) wr:=HI.out.swap
       go_wp2_with fail
       go_roundw
       case rel=>exact⟨j+1,by omega,by go_num,In.acH (X:=eo u7 (ny q ys T.rw (j+1))::fM (.slice (ae ⟨g,o2,ai⟩) ys.length c4) ys::br p 108 #[.pointer (ae ⟨sp,0,ai⟩),.map (ae tb),.map (ae pb)]::cI sp ls::PtrMap tb (T.ks.map λK=>(K,T.pt K))::bR pb T.ps::br qb 52 (ints q.list)::l) HKM.out ahJ⟩
       case measure=>simp[intOf];omega
   ·have hjm:j=ys.length:=by omega
    subst hjm;have Ps:Hid (ny q ys T.rw ys.length=(ys.filter λK=>fO K q).flatMap T.rw):=by unfold Hid ny;rw[dm]
    have YF:((ys.filter λK=>fO K q).flatMap T.rw).length<=60 *(ys.filter λK=>fO K q).length:=Kl T.rw _ λK' jX=>HT.out.tZ (HP.out.mem_iff.1 (cm.1 jX).1)
    have aeb:(ys.filter λK=>fO K q).length<=256:=bM (jA _ _) (by omega);rw[Ps.out]at HI;have Us:=Z3 HI.out (by omega);have HSO:=af Us;clear Us YF aeb
    go_wp2_with fail
    refine HSO.out.mono ?_;rintro e w8 ⟨rfl,zs,hzp,SG,o6⟩;have r9:zs=wP ls f q:=OT HT.out HK.out (λK hK=>(RR.out K hK).2) q HP.out hzp (SG.imp λ{a b} h=>by omega);rw[r9]at o6;have pw:=af o6;clear o6 r9 hzp SG HSO HI Ps
    go_wp2_with fail
    go_ret2
    refine⟨_,rfl,?_⟩;have iq:=pw.out.swap.drop;exact(In.yP (l:=br qb 52 (ints q.list)::eo u7 (wP ls f q)::l) HT.out (iq.reorder 6 [1,2,3,4,5,0] rfl (by simp))).swap.drop.swap
def MX (h:In G w0 (nT p sp ls f::l) w)(hl:ls.length<=60):Calls aj 43 #[.pointer (ae ⟨sp,0,ai⟩)] w λe w'=> ∃A c,e=.returned (.slice A ls.length c)/\In G w0 (fM (.slice A ls.length c) (iP ls)::nT p sp ls f::l) w':=by obtain⟨tb,pb,T,hT,hI⟩:=h.rM;obtain⟨F1,hS⟩:=hI.swap.head;refine(X4 sp ls F1 w hS hl).mono ?_;rintro e w' ⟨v,rfl,ho,hb⟩;have gm:=h.xw ho hb;obtain⟨A,c,rfl,_⟩:=gm.oI;rw[Uc]at gm|-;exact⟨A,c,rfl,gm⟩
def In.acs (h:In G w0 (nT p sp ls f::l) w):w.cell? ⟨p,0,ai⟩=ae (.pointer (ae ⟨sp,0,ai⟩)):=by obtain⟨tb,pb,T,hT,hI⟩:=h.rM;exact hI.blk.cell 0
end
end
section
open Go.RowKit
def yN {G:Nat->Prop}{w0 w:ah}{l:List bU}{A:Option Addr}{n c:Nat}{rs:List cQ}(h:In G w0 (eo (.slice A n c) rs::l) w){k:Nat}(hk:k<rs.length)(h8:rs[k].b.v.length=8): ∃g,A=ae ⟨g,0,ai⟩/\row? w g (k *11) 11=ae (ints (cQ.list rs[k])):=by
 obtain⟨A',c',e,_,_,hr⟩:=h.aeO;injection e with e1 e2 e3
 subst e1;obtain⟨g,h1,h2⟩:=hr k hk;refine⟨g,h1,?_⟩;rw[h2,aY,aq hk,bT,Le h8]
section
variable {ls:List (Int×Bool)} {f:BF}
end
def Qu (z:ZS)(hs:List Hd)(k:Nat)(h:k<hs.length):vn z (hs.take (k+1))=Cl (vn z (hs.take k)) hs[k]:=by unfold vn;rw[bh h,j5];rfl
section
variable {G:Nat->Prop} {w0 w:ah} {l:List bU} {p:Nat} {z:ZS}
def In.aep {wp fp:Nat}{m:kN}{z:ZS}{x:Hd}(hz:kI z)(hm:dU m=z.B)(hf:kg m)(h:In G w0 (j3 fp (o5 m x)::dR wp (ou z.ls z.f x).1.1 (ou z.ls z.f x).1.2::yU p wp fp::l) w):In G w0 (di p (Cl z x)::l) w:=by refine In.oc (z:=Cl z x) (m:=o5 m x) ?_ (h.third.perm ((cJ _ _ _).cons _));rw[D5 hf.nodup,hm];rfl
def Pc (h:In G w0 (di p z::l) w)(hk:kI z)(x:Hd):Calls aj 65 #[ptr p,lf x] w λe w'=>e=.returned (.int .i64 (tK z x).2)/\In G w0 (di p (tK z x).1::l) w':=by
 have H0:=af h;have HK:=af hk;clear h hk;obtain⟨i0,qE,uM,sX,tH⟩:=info_parts lu;obtain⟨x1,x2⟩:=x;rw[kX]
 go_enter Tryz.func65,Tryz.ntmps65
 go_upto_region 1 with(fail)
 refine bZ (In G w0 (br w.heap.size 43 (ints [x1,x2])::di p z::l)) (H0.out.alloc 43 (ints [x1,x2])) ?_;generalize w.heap.size=cb;intro w3 fj;have q2: ∀n:After w3,row? n.w cb 0 2=ae (ints [x1,x2]):=λn=>(fj.blk.after n.below).bt rfl
 obtain⟨wp,fp,m,hm,hf,ha,gq⟩:=fj.swap.mC;have q3: ∀n:After w3,n.w.cell? ⟨p,0,ai⟩=ae (ptr wp):=λn=>(gq.blk.after n.below).cell 0
 obtain⟨sp,F,q4,hS⟩:=gq.swap.slotsOf;have HL:Hid (∀n:After w3,Calls aj 72 #[.pointer (ae ⟨sp,0,ai⟩),.agg (ints [x1,x2])] n.w λe w'=>e=.returned (.bool (z.live (x1,x2)))/\Below n.w.heap.size n.w w'):=λn=>tM sp z.ls F x1 x2 n.w (hS n)
 have fW:=af fj;clear fj gq hm hf ha hS H0;cases pd:z.live (x1,x2)with
 |false=>
  have HR:Hid (tK z (x1,x2)=(z,7)):=by unfold Hid tK;rw[pd];rfl
  rw[pd]at HL;refine bF (by kernel_rfl) (by kernel_rfl) ?_
  repeat(go_big_quiet_step ((go_at_call 72;exact ep (HL.out _))))
  refine wpQuiet_nil ?_;rintro _ ⟨n,rfl⟩;have ni:=af (fW.out.below n.below)
  go_wp2_with fail
  go_ret;rw[HR.out];exact⟨rfl,ni.out.drop⟩
 |true=>
  have HR:Hid (tK z (x1,x2)=(vn z (Cm z (x1,x2)),0)):=by unfold Hid tK;rw[if_pos pd]
  rw[pd]at HL;clear pd;refine bF (by kernel_rfl) (by kernel_rfl) ?_
  repeat(go_big_quiet_step ((go_at_call 72;exact ep (HL.out _))))
  refine wpQuiet_nil ?_;rintro _ ⟨n,rfl⟩;have fD:=fW.out.below n.below;obtain⟨wp,fp,m,hm,hf,ha,j6⟩:=fD.swap.mC;generalize n.w=w5 at *;have k1:row? w5 cb 0 2=ae (ints [x1,x2]):=fD.blk.bt rfl;have k2:w5.cell? ⟨p,1,ai⟩=ae (ptr fp):=j6.blk.cell 1;have kO:Hid (In G w0 (j3 fp m::yU p wp fp::dR wp z.ls z.f::br cb 43 (ints [x1,x2])::l) w5):=j6.third;have YF:m.length<=60:=by rw[<-Ik m,hm];exact HK.out.len
  have HU:Hid (under m (x1,x2)=under z.B (x1,x2)):=Alike.under hf HK.out.yw ha _;have HM:=af hm;have HF:=af hf;clear fD j6 hm hf ha q2 q3 q4 HL fW
  go_upto_region 3 with(fail)
  go_still_tail 5,(by kernel_rfl)
  change wpList _ _ _ _ _ w5.drew;have kh:=af kO.out.drew;clear kO k1 k2;generalize w5.drew=w6 at *
  go_wp2_with fail
  refine(Ub kh.out (by omega) (x1,x2)).mono ?_;rintro e w7 ⟨uv,rfl,mR⟩;have hul:=BL HF.out.nodup HF.out.yq (x1,x2);have oQ:=af mR;clear mR kh
  go_wp2_with fail
  refine(Om oQ.out (by omega)).mono ?_;rintro e w8 ⟨rfl,o6⟩;rw[HU.out]at o6 hul;have Dn:(under z.B (x1,x2)).reverse.length=(under z.B (x1,x2)).length:=List.length_reverse;have HO:=af o6.rowAt;have k1:row? w8 cb 0 2=ae (ints [x1,x2]):=(o6.nth 4 (by simp)).blk.bt rfl;have pw:=af o6;clear o6 oQ HU;generalize hus:(under z.B (x1,x2)).reverse=us at *;have aiZ:us.length<=60:=by omega
  clear Dn;have HKL:Hid (Cm z (x1,x2)=us++[(x1,x2)]):=by unfold Hid Cm;rw[hus]
  clear hus
  go_wp2_with (at_builtin;go_loud (refine eX rfl _ _ 122 rfl 0 43 i0 _ 2 16 Tryz.underlying122 qE uM sX tH rfl (by decide) uv us.length (us.flatMap hC) rfl HO.out [.int .i64 x1,.int .i64 x2] rfl rfl (by simp[kT]) ?_ ?_ (cE _) ?_))
  case refine_1=>unfold maxLen;omega
  case refine_2=>omega
  intro v' w9 ho hg wx;have iq:=In.J2 (x:=(x1,x2)) pw.out ho hg wx;rw[<-HKL.out]at iq;have hkl:(Cm z (x1,x2)).length<=61:=by rw[HKL.out,aZ,List.length_singleton];omega
  obtain⟨A,c,rfl,vA,uL,_⟩:=o0 iq.rowAt;have qw:In G w0 (di p z::iy (.slice A (Cm z (x1,x2)).length c) (Cm z (x1,x2))::br cb 43 (ints [x1,x2])::l) w9:=In.oc HM.out (iq.perm (by refine pK (cJ _ _ _) ?_;refine pK ((cJ _ _ _).cons _) ?_;refine pK (cJ _ _ _) ?_;refine List.Perm.cons _ ?_;refine pK ((cJ _ _ _).cons _) ?_;exact(cJ _ _ _)))
  have vz:=af qw;clear ho hg wx iq qw pw HO k1 hul HM HF YF;generalize sW:Cm z (x1,x2)=ks at *;clear sW HKL
  go_wp2_with fail
  go_loopw [31] (λi w'=> ∃k:Nat,k<=ks.length/\i=.int .i64 k/\kI (vn z (ks.take k))/\In G w0 (di p (vn z (ks.take k))::iy (.slice A ks.length c) ks::br cb 43 (ints [x1,x2])::l) w') (λi _=>ks.length-(intOf i).toNat)
  case atStart=>exact⟨0,cE _,rfl,HK.out,vz.out⟩
  case round=>
   clear vz;obtain⟨k,hk,rfl,rY,hI⟩:=hrel;by_cases bJ:k<ks.length
   ·have vI:(k:Int)<ks.length:=by omega
    obtain⟨A',c',e0,_,Un,fg⟩:=o0 hI.swap.rowAt;injection e0 with e1 e2 e3
    subst e1;subst e3;obtain⟨g,rfl,q1⟩:=fg k bJ;have HS:=af (Qu z ks k bJ);have agl:(ks.length:Int)<=c:=by omega
    have HI:=af hI;have TD:=af rY;clear fg e2 hI rY;generalize ks[k]=y at *;obtain⟨y1,y2⟩:=y;generalize vn z (ks.take k)=zk at *
    go_upto_region 8 with(fail)
    refine bZ (In G w0 (br wr.heap.size 43 (ints [y1,y2])::di p zk::iy (.slice (ae ⟨g,0,ai⟩) ks.length c) ks::br cb 43 (ints [x1,x2])::l)) (HI.out.struct 43 [0,0] [y1,y2] rfl) ?_;generalize wr.heap.size=yb;intro w3 fj;obtain⟨wp,fp,m,hm,hf,ha,gq⟩:=fj.swap.mC;have k1:row? w3 yb 0 2=ae (ints [y1,y2]):=fj.blk.bt rfl;have k2:w3.cell? ⟨p,0,ai⟩=ae (ptr wp):=gq.blk.cell 0;have HM:=af hm;have HF:=af hf;have iR:=af gq.swap;clear fj gq hm hf ha HI q1
    go_still_tail 5,(by kernel_rfl)
    change wpList _ _ _ _ _ w3.drew;have ni:=af iR.out.drew;clear iR k1 k2;generalize w3.drew=w4 at *
    go_wp2_with fail
    refine(aby ni.out TD.out.w y1 y2).mono ?_;rintro e w5 ⟨rfl,j6⟩;have k1:row? w5 yb 0 2=ae (ints [y1,y2]):=(j6.nth 3 (by simp)).blk.bt rfl;have k2:w5.cell? ⟨p,1,ai⟩=ae (ptr fp):=j6.swap.blk.cell 1;have kO:=af j6.third;clear j6 ni
    go_upto_region 9 with(fail)
    go_still_tail 5,(by kernel_rfl)
    change wpList _ _ _ _ _ w5.drew;have kh:=af kO.out.drew;clear kO k1 k2;generalize w5.drew=w6 at *
    go_wp2_with fail
    refine(XW kh.out (y1,y2)).mono ?_;rintro e w7 ⟨rfl,mR⟩;have o6:=In.aep TD.out HM.out HF.out mR;rw[<-HS.out]at o6;have pw:=af o6;have afw:=af (TD.out.Cl (y1,y2));rw[<-HS.out]at afw;clear mR o6 kh
    go_wp2_with fail
    go_roundw
    case rel=>exact⟨k+1,by omega,by go_num,afw.out,pw.out.swap.drop⟩
    case measure=>simp[intOf];omega
   ·have:k=ks.length:=by omega
    subst this;have HI:=af hI;rw[dm]at HI;clear hI rY
    go_wp2_with fail
    go_ret;rw[HR.out];exact⟨rfl,HI.out.swap.drop.swap.drop⟩
end
def uZ {w:ah}{g g' o o' n:Nat}{x:Array ao}{xs:List Int}(eb:g≠g')(h:row? w g o n=ae x):row? (putRow w g' o' xs) g o n=ae x:=by unfold row? at *;rw[fz w g' o' xs g eb];exact h
def cell_far {w:ah}{g g' o o':Nat}{x:ao}{xs:List Int}(eb:g≠g')(h:w.cell? ⟨g,o,ai⟩=ae x):(putRow w g' o' xs).cell? ⟨g,o,ai⟩=ae x:=by unfold c8 at *;simp only[fz w g' o' xs g eb];exact h
def uG {w:ah}{g o n o':Nat}{ys:List Int}(h:fits w g o n=aw)(h':fits w g o' ys.length=aw):fits (putRow w g o' ys) g o n=aw:=by
 unfold fits at *
 split at h
 ·rename_i cs t hg
  rw[hg]at h';simp only[decide_eq_true_eq]at h h';simp[putRow,bq,hg];omega
 ·cases h
def acU (z:ZS)(o:lD)(h:o.d=1):wa z o=(⟨(gB z.ls z.f o.b).1.1,(gB z.ls z.f o.b).1.2,z.B⟩,(gB z.ls z.f o.b).2.1,(gB z.ls z.f o.b).2.2):=by unfold wa;rw[if_pos h]
def afI (z:ZS)(o:lD)(h:o.d=2):wa z o=((tK z o.a).1,(0,0),(tK z o.a).2):=by unfold wa;rw[if_neg (by omega),if_pos h]
def afJ (z:ZS)(o:lD)(h:o.d=3):wa z o=(⟨z.ls,(tV z.ls z.f o.a o.k o.n).1,z.B⟩,(0,0),(tV z.ls z.f o.a o.k o.n).2):=by unfold wa;rw[if_neg (by omega),if_neg (by omega),if_pos h]
def afK (z:ZS)(o:lD)(h:o.d=4):wa z o=(⟨z.ls,(q9 z.ls z.f o.a o.k).1,z.B⟩,(0,0),(q9 z.ls z.f o.a o.k).2):=by unfold wa;rw[if_neg (by omega),if_neg (by omega),if_neg (by omega),if_pos h]
def afL (z:ZS)(o:lD)(h:o.d=5):wa z o=((sF z o.a o.t).1,(0,0),(sF z o.a o.t).2):=by unfold wa;rw[if_neg (by omega),if_neg (by omega),if_neg (by omega),if_neg (by omega),if_pos h]
def afM (z:ZS)(o:lD)(h:o.d=6):wa z o=((oW z o.a).1,(0,0),(oW z o.a).2):=by unfold wa;rw[if_neg (by omega),if_neg (by omega),if_neg (by omega),if_neg (by omega),if_neg (by omega),if_pos h]
def afN (z:ZS)(o:lD)(h:o.d≠1/\o.d≠2/\o.d≠3/\o.d≠4/\o.d≠5/\o.d≠6):wa z o=(z,(0,0),1):=by unfold wa;rw[if_neg h.1,if_neg h.2.1,if_neg h.2.2.1,if_neg h.2.2.2.1,if_neg h.2.2.2.2.1,if_neg h.2.2.2.2.2]
section
variable {G:Nat->Prop} {w0 w:ah} {l:List bU} {p:Nat} {z:ZS}
def RG (h:In G w0 (di p z::l) w)(hk:kI z)(o:lD)(hv:o.b.v.length=8):Calls aj 28 #[ptr p,.agg (ints o.list)] w λe w'=>e=.returned (.tuple #[.agg (ints [(wa z o).2.1.1,(wa z o).2.1.2]),.int .i64 (wa z o).2.2])/\In G w0 (di p (wa z o).1::l) w':=by
 have H0:=af h;have HK:=af hk;have HV8:=af hv;have Ug:o.list.length=16:=lD.len hv;have hp:p<w.heap.size:=by obtain⟨wp,fp,m,_,_,_,hI⟩:=h.mC;exact hI.blk.lt
 clear h hk hv
 go_enter Tryz.func28,Tryz.ntmps28
 have hft:fits (((w.alloc (.cells (ints o.list) 74)).alloc (.cells #[.int .i64 0,.int .i64 0] 43)).alloc (.cells #[.int .i64 0,.int .i64 0] 43)) (w.heap.size+1+1) 0 2=aw:=by have h1:=(((H0.out.alloc 74 (ints o.list)).alloc 43 (ints [0,0])).alloc 43 (ints [0,0])).blk.fits 0 2 (by rw[bD];simp);simp only[dw]at h1;exact h1
 go_upto_region 2 with(fail)
 refine bZ (In G w0 (br (w.heap.size+1+1) 43 (ints [0,0])::br (w.heap.size+1) 43 (ints [0,0])::br w.heap.size 74 (ints o.list)::di p z::l)) (by have h1:=H0.out.alloc 74 (ints o.list);have h2:=h1.alloc 43 (ints [0,0]);have h3:=h2.struct 43 [0,0] [0,0] rfl;simp only[dw]at h3;exact h3) ?_
 clear hft;have GK:Hid (w.heap.size+1+1≠w.heap.size+1/\w.heap.size≠w.heap.size+1/\p≠w.heap.size+1):=⟨by omega,by omega,by omega⟩;clear hp;generalize w.heap.size+1+1=nb at *;generalize w.heap.size+1=rb at *;generalize w.heap.size=ob at *;intro w3 fj;clear H0;obtain⟨d,⟨bk,bv⟩,⟨a1,a2⟩,⟨t1,t2⟩,kk,nn⟩:=o;have hv8:bv.length=8:=HV8.out;have fj:=fj.third;have M6:(lD.list ⟨d,⟨bk,bv⟩,(a1,a2),(t1,t2),kk,nn⟩).drop 10=[a1,a2,t1,t2,kk,nn]:=by have:(lD.list ⟨d,⟨bk,bv⟩,(a1,a2),(t1,t2),kk,nn⟩)=([d]++(bk::bv))++[a1,a2,t1,t2,kk,nn]:=rfl;rw[this,List.drop_left' (by simp[hv8])]
 have Sz:(lD.list ⟨d,⟨bk,bv⟩,(a1,a2),(t1,t2),kk,nn⟩).drop 12=[t1,t2,kk,nn]:=by rw[show(12:Nat)=10+2 from rfl,<-List.drop_drop,M6];rfl
 have q0:w3.cell? ⟨ob,0,ai⟩=ae (.int .i64 d):=fj.blk.cell 0;have qf:fits w3 rb 0 2=aw:=fj.third.blk.fits 0 2 (by rw[bD];simp);obtain⟨wp,fp,m,hm,hf,ha,gq⟩:=fj.fourth.mC;have qp:w3.cell? ⟨p,0,ai⟩=ae (ptr wp):=gq.blk.cell 0;have fW:Hid (In G w0 (di p z::br rb 43 (ints [0,0])::br ob 74 (ints (lD.list ⟨d,⟨bk,bv⟩,(a1,a2),(t1,t2),kk,nn⟩))::br nb 43 (ints [0,0])::l) w3):=by have:=fj.reorder 4 [3,2,0,1] rfl (by simp);exact this
 have iR:Hid (In G w0 (dR wp z.ls z.f::br rb 43 (ints [0,0])::yU p wp fp::j3 fp m::br ob 74 (ints (lD.list ⟨d,⟨bk,bv⟩,(a1,a2),(t1,t2),kk,nn⟩))::br nb 43 (ints [0,0])::l) w3):=by have:=gq.reorder 6 [1,5,0,2,3,4] rfl (by simp);exact this
 have HM:=af hm;clear fj gq hm hf ha;generalize hL:br ob 74 (ints (lD.list ⟨d,⟨bk,bv⟩,(a1,a2),(t1,t2),kk,nn⟩))::br nb 43 (ints [0,0])::l=L at *;have HL:Hid (∀{W:ah} {A:bU},In G w0 (A::L) W->In G w0 (A::l) W):=by intro W A h;rw[<-hL]at h;exact h.swap.drop.swap.drop
 have TC:Hid (∀{W:ah} {A:bU},In G w0 (A::L) W->row? W ob 10 2=ae (ints [a1,a2])/\row? W ob 12 2=ae (ints [t1,t2])/\row? W ob 1 9=ae (ints (aQ.list ⟨bk,bv⟩))/\W.cell? ⟨ob,14,ai⟩=ae (.int .i64 kk)/\W.cell? ⟨ob,15,ai⟩=ae (.int .i64 nn)/\row? W nb 0 2=ae (ints [0,0])):=by
  intro W A h;rw[<-hL]at h;have hb:=h.swap.blk;refine⟨?_,?_,?_,?_,?_,h.third.blk.bt rfl⟩
  ·rw[hb.eJ 10 2 (by omega),M6];rfl
  ·rw[hb.eJ 12 2 (by omega),Sz];rfl
  ·rw[hb.eJ 1 9 (by omega)];have:(lD.list ⟨d,⟨bk,bv⟩,(a1,a2),(t1,t2),kk,nn⟩).drop 1=aQ.list ⟨bk,bv⟩++[a1,a2,t1,t2,kk,nn]:=rfl;rw[this,List.take_left' (by simp[aQ.list,hv8])]
  ·refine xg (n:=1) (xs:=[]) ?_;rw[hb.eJ 14 1 (by omega),show(14:Nat)=10+4 from rfl,<-List.drop_drop,M6];rfl
  ·refine xg (n:=1) (xs:=[]) ?_;rw[hb.eJ 15 1 (by omega),show(15:Nat)=10+5 from rfl,<-List.drop_drop,M6];rfl
 obtain⟨q2,q3,q5,q14,q15,qn⟩:=TC.out (fW.out.swap.drop);clear hL M6 Sz Ug hv8;have HFW:Hid (∀{W:ah} {A:bU},In G w0 (A::br rb 43 (ints [0,0])::yU p wp fp::j3 fp m::L) W->W.cell? ⟨p,0,ai⟩=ae (ptr wp)/\fits W rb 0 2=aw/\row? W ob 10 2=ae (ints [a1,a2])/\row? W ob 1 9=ae (ints (aQ.list ⟨bk,bv⟩))/\W.cell? ⟨ob,14,ai⟩=ae (.int .i64 kk)/\W.cell? ⟨ob,15,ai⟩=ae (.int .i64 nn)/\row? W nb 0 2=ae (ints [0,0])):=by intro W A h;obtain⟨r2,r3,r5,r14,r15,rn⟩:=TC.out (h.swap.drop.swap.drop.swap.drop);exact⟨h.third.blk.cell 0,h.swap.blk.fits 0 2 (by rw[bD];simp),r2,r5,r14,r15,rn⟩
 have HFZ:Hid (∀{W:ah} {A:bU},In G w0 (A::br rb 43 (ints [0,0])::L) W->fits W rb 0 2=aw/\row? W ob 10 2=ae (ints [a1,a2])/\row? W nb 0 2=ae (ints [0,0])):=by intro W A h;obtain⟨r2,r3,r5,r14,r15,rn⟩:=TC.out (h.swap.drop);exact⟨h.swap.blk.fits 0 2 (by rw[bD];simp),r2,rn⟩
 have y8:Hid (∀{W:ah} {A:bU} {L:List bU} (x y:Int),In G w0 (A::br rb 43 (ints [0,0])::L) W->In G w0 (A::br rb 43 (ints [x,y])::L) (putRow W rb 0 [x,y])):=λx y h=>(h.swap.eU [x,y] rfl).swap
 have RQ:Hid (∀{W:ah} {QB:List (Int×Bool)} {f':BF} {xs:List Int},In G w0 (dR wp QB f'::br rb 43 (ints xs)::yU p wp fp::j3 fp m::L) W->In G w0 (di p ⟨QB,f',z.B⟩::l) W):=λ{W QB f' xs} h=>HL.out (In.oc (z:=⟨QB,f',z.B⟩) HM.out h.swap.drop.swap)
 clear fj HM;by_cases h1:d=1
 ·have hd:(d==1)=aw:=by simp[h1]
  have HR:Hid (wa z ⟨d,⟨bk,bv⟩,(a1,a2),(t1,t2),kk,nn⟩=_):=acU z _ h1;clear h1 q2 q3 q14 q15 qn
  go_upto_region 4 with(fail)
  go_region_held3 (λW=>W.cell? ⟨p,0,ai⟩=ae (ptr wp)/\row? W ob 1 9=ae (ints (aQ.list ⟨bk,bv⟩))/\fits W rb 0 2=aw)
   (refine⟨?_,?_,?_⟩<;>first|assumption|(refine uZ GK.out.2.1 ?_;assumption)|(refine cell_far GK.out.2.2 ?_;assumption)|(refine uG ?_ ?_<;>assumption))
   (first|(go_at_call 64;refine(Z4 iR.out.drew HK.out.w ⟨bk,bv⟩ HV8.out).mono ?_;rintro e Ax ⟨rfl,iq⟩;obtain⟨s1,s2,s3,s4,s5,s6,s7⟩:=HFW.out iq;have ni:=af iq;clear iq))
  have kO:=af (y8.out (gB z.ls z.f ⟨bk,bv⟩).2.1.1 (gB z.ls z.f ⟨bk,bv⟩).2.1.2 ni.out)
  go_wp2_with fail
  refine cN rfl rb 43 (ints [(gB z.ls z.f ⟨bk,bv⟩).2.1.1,(gB z.ls z.f ⟨bk,bv⟩).2.1.2]) (.int .i64 (gB z.ls z.f ⟨bk,bv⟩).2.2) _ rfl rfl kO.out.swap.blk Tryz.underlying43 rfl (by rw[bD];exact eB) rfl ?_;rw[HR.out];exact⟨rfl,RQ.out kO.out⟩
 have Pg:(d==1)=ay:=by simp[h1]
 by_cases h2:d=2
 ·have hd:(d==2)=aw:=by simp[h2]
  have HR:Hid (wa z ⟨d,⟨bk,bv⟩,(a1,a2),(t1,t2),kk,nn⟩=_):=afI z _ h2;clear h1 h2 q3 q5 q14 q15 qp
  go_upto_region 6 with(fail)
  go_region_held3 (λW=>row? W ob 10 2=ae (ints [a1,a2])/\row? W nb 0 2=ae (ints [0,0])/\fits W rb 0 2=aw)
   (refine⟨?_,?_,?_⟩<;>first|assumption|(refine uZ GK.out.2.1 ?_;assumption)|(refine uZ GK.out.1 ?_;assumption)|(refine uG ?_ ?_<;>assumption))
   (first
     |(go_at_call 65;refine(Pc fW.out.drew HK.out (a1,a2)).mono ?_;rintro e Ax ⟨rfl,iq⟩;obtain⟨s1,s2,s3⟩:=HFZ.out iq;have kO:=af (y8.out 0 0 iq);clear iq)
     |(go_at_call 65;refine(Pc (y8.out 0 0 fW.out.drew) HK.out (a1,a2)).mono ?_;rintro e Ax ⟨rfl,iq⟩;obtain⟨s1,s2,s3⟩:=HFZ.out iq;have kO:=af iq;clear iq))
  all_goals
   go_wp2_with fail
   refine cN rfl rb 43 (ints [0,0]) (.int .i64 (tK z (a1,a2)).2) _ rfl rfl kO.out.swap.blk Tryz.underlying43 rfl (by rw[bD];exact eB) rfl ?_;rw[HR.out];exact⟨rfl,HL.out kO.out.swap.drop⟩
 have Sx:(d==2)=ay:=by simp[h2]
 by_cases h3:d=3
 ·have hd:(d==3)=aw:=by simp[h3]
  have HR:Hid (wa z ⟨d,⟨bk,bv⟩,(a1,a2),(t1,t2),kk,nn⟩=_):=afJ z _ h3;clear h1 h2 h3 q3 q5
  go_upto_region 8 with(fail)
  go_region_held3 (λW=>W.cell? ⟨p,0,ai⟩=ae (ptr wp)/\row? W ob 10 2=ae (ints [a1,a2])/\W.cell? ⟨ob,14,ai⟩=ae (.int .i64 kk)/\W.cell? ⟨ob,15,ai⟩=ae (.int .i64 nn)/\row? W nb 0 2=ae (ints [0,0])/\fits W rb 0 2=aw)
   (refine⟨?_,?_,?_,?_,?_,?_⟩<;>first|assumption|(refine uZ GK.out.2.1 ?_;assumption)|(refine uZ GK.out.1 ?_;assumption)|(refine cell_far GK.out.2.2 ?_;assumption)|(refine cell_far GK.out.2.1 ?_;assumption)|(refine uG ?_ ?_<;>assumption))
   (first
     |(go_at_call 66;refine(QS iR.out.drew HK.out.w a1 a2 kk nn).mono ?_;rintro e Ax ⟨rfl,iq⟩;obtain⟨s1,s2,s3,s4,s5,s6,s7⟩:=HFW.out iq;have kO:=af (y8.out 0 0 iq);clear iq)
     |(go_at_call 66;refine(QS (y8.out 0 0 iR.out.drew) HK.out.w a1 a2 kk nn).mono ?_;rintro e Ax ⟨rfl,iq⟩;obtain⟨s1,s2,s3,s4,s5,s6,s7⟩:=HFW.out iq;have kO:=af iq;clear iq))
  all_goals
   go_wp2_with fail
   refine cN rfl rb 43 (ints [0,0]) (.int .i64 (tV z.ls z.f (a1,a2) kk nn).2) _ rfl rfl kO.out.swap.blk Tryz.underlying43 rfl (by rw[bD];exact eB) rfl ?_;rw[HR.out];exact⟨rfl,RQ.out kO.out⟩
 have hd3:(d==3)=ay:=by simp[h3]
 by_cases h4:d=4
 ·have hd:(d==4)=aw:=by simp[h4]
  have HR:Hid (wa z ⟨d,⟨bk,bv⟩,(a1,a2),(t1,t2),kk,nn⟩=_):=afK z _ h4;clear h1 h2 h3 h4 q3 q5 q15
  go_upto_region 10 with(fail)
  go_region_held3 (λW=>W.cell? ⟨p,0,ai⟩=ae (ptr wp)/\row? W ob 10 2=ae (ints [a1,a2])/\W.cell? ⟨ob,14,ai⟩=ae (.int .i64 kk)/\row? W nb 0 2=ae (ints [0,0])/\fits W rb 0 2=aw)
   (refine⟨?_,?_,?_,?_,?_⟩<;>first|assumption|(refine uZ GK.out.2.1 ?_;assumption)|(refine uZ GK.out.1 ?_;assumption)|(refine cell_far GK.out.2.2 ?_;assumption)|(refine cell_far GK.out.2.1 ?_;assumption)|(refine uG ?_ ?_<;>assumption))
   (first
     |(go_at_call 67;refine(Sc iR.out.drew HK.out.w a1 a2 kk).mono ?_;rintro e Ax ⟨rfl,iq⟩;obtain⟨s1,s2,s3,s4,s5,s6,s7⟩:=HFW.out iq;have kO:=af (y8.out 0 0 iq);clear iq)
     |(go_at_call 67;refine(Sc (y8.out 0 0 iR.out.drew) HK.out.w a1 a2 kk).mono ?_;rintro e Ax ⟨rfl,iq⟩;obtain⟨s1,s2,s3,s4,s5,s6,s7⟩:=HFW.out iq;have kO:=af iq;clear iq))
  all_goals
   go_wp2_with fail
   refine cN rfl rb 43 (ints [0,0]) (.int .i64 (q9 z.ls z.f (a1,a2) kk).2) _ rfl rfl kO.out.swap.blk Tryz.underlying43 rfl (by rw[bD];exact eB) rfl ?_;rw[HR.out];exact⟨rfl,RQ.out kO.out⟩
 have hd4:(d==4)=ay:=by simp[h4]
 clear q5 q14 q15 qp iR RQ HFW;by_cases h5:d=5
 ·have hd:(d==5)=aw:=by simp[h5]
  have HR:Hid (wa z ⟨d,⟨bk,bv⟩,(a1,a2),(t1,t2),kk,nn⟩=_):=afL z _ h5;clear h1 h2 h3 h4 h5;have hbs: ∀W,(gh 122 2 #[(0,.agg (ints [a1,a2])),(1,.agg (ints [t1,t2]))]).run aj W=.ok (.slice (ae ⟨W.heap.size,0,ai⟩) 2 2) (W.alloc (.cells (ints [a1,a2,t1,t2]) 43)):=λW=>by kernel_rfl
  have HB:Hid (In G w0 (di p z::iy (.slice (ae ⟨w3.heap.size,0,ai⟩) 2 2) [(a1,a2),(t1,t2)]::br rb 43 (ints [0,0])::L) (w3.alloc (.cells (ints [a1,a2,t1,t2]) 43))):=(fW.out.Zi 43 2 2 [.int .i64 a1,.int .i64 a2,.int .i64 t1,.int .i64 t2] rfl (by decide)).swap
  go_wp2_with fail
  refine(Pd HB.out (by simp)).mono ?_;rintro e w4 ⟨rfl,fD⟩;have fD:=fD.swap.drop;by_cases pd:rH z [(a1,a2),(t1,t2)]=aw
  ·have Ex:z.live (a1,a2)=aw/\z.live (t1,t2)=aw:=by simpa[rH]using pd
   have HA:Hid (sF z (a1,a2) (t1,t2)=(⟨z.ls,z.f,dU (ik z.B (a1,a2) (t1,t2)).1⟩,(ik z.B (a1,a2) (t1,t2)).2)):=by unfold Hid sF;rw[if_pos Ex]
   rw[if_pos pd];obtain⟨wp,fp,m,hm,hf,ha,j6⟩:=fD.mC;obtain⟨q2,q3,q5,q14,q15,qn⟩:=TC.out fD.swap.drop;have qp:w4.cell? ⟨p,1,ai⟩=ae (ptr fp):=j6.blk.cell 1;have HAD:=af (ha.zd (a1,a2) (t1,t2));have HBE:Hid (dU (ik m (a1,a2) (t1,t2)).1=dU (ik z.B (a1,a2) (t1,t2)).1):=vU (hf.zd _ _).nodup (HK.out.yw.zd _ _).nodup (ha.zd (a1,a2) (t1,t2)).1;have kO:Hid (In G w0 (j3 fp m::yU p wp fp::dR wp z.ls z.f::br rb 43 (ints [0,0])::L) w4):=j6.third;clear fD j6 pd Ex hm hf ha q5 q14 q15 HB fW
   go_upto_region 14 with(fail)
   go_still_tail 8,(by kernel_rfl)
   change wpList _ _ _ _ _ w4.drew;have kh:=af kO.out.drew;clear kO q2 q3 qn qp qf;generalize w4.drew=w5 at *
   go_wp2_with fail
   refine(T' kh.out (a1,a2) (t1,t2)).mono ?_;rintro e w6 ⟨rfl,mR⟩;have o6:In G w0 (di p ⟨z.ls,z.f,dU (ik z.B (a1,a2) (t1,t2)).1⟩::br rb 43 (ints [0,0])::L) w6:=In.oc (z:=⟨z.ls,z.f,dU (ik z.B (a1,a2) (t1,t2)).1⟩) HBE.out mR.third.third;rw[HAD.out.2];obtain⟨qf,q2,qn⟩:=HFZ.out o6;have kO:=af (y8.out 0 0 o6);clear mR o6 kh
   go_wp2_with fail
   refine cN rfl rb 43 (ints [0,0]) (.int .i64 (ik z.B (a1,a2) (t1,t2)).2) _ rfl rfl kO.out.swap.blk Tryz.underlying43 rfl (by rw[bD];exact eB) rfl ?_;rw[HR.out,HA.out];exact⟨rfl,HL.out kO.out.swap.drop⟩
  ·have Ex: ¬(z.live (a1,a2)=aw/\z.live (t1,t2)=aw):=by simpa[rH]using pd
   have HA:Hid (sF z (a1,a2) (t1,t2)=(z,7)):=by unfold Hid sF;rw[if_neg Ex]
   rw[if_neg pd];obtain⟨qf,q2,qn⟩:=HFZ.out fD;have kO:=af (y8.out 0 0 fD);clear fD pd Ex HB fW
   go_wp2_with fail
   refine cN rfl rb 43 (ints [0,0]) (.int .i64 7) _ rfl rfl kO.out.swap.blk Tryz.underlying43 rfl (by rw[bD];exact eB) rfl ?_;rw[HR.out,HA.out];exact⟨rfl,HL.out kO.out.swap.drop⟩
 have hd5:(d==5)=ay:=by simp[h5]
 by_cases h6:d=6
 ·have hd:(d==6)=aw:=by simp[h6]
  have HR:Hid (wa z ⟨d,⟨bk,bv⟩,(a1,a2),(t1,t2),kk,nn⟩=_):=afM z _ h6;clear h1 h2 h3 h4 h5 h6;have HB:Hid (In G w0 (di p z::iy (.slice (ae ⟨w3.heap.size,0,ai⟩) 1 1) [(a1,a2)]::br rb 43 (ints [0,0])::L) (w3.alloc (.cells (ints [a1,a2]) 43))):=(fW.out.Zi 43 2 1 [.int .i64 a1,.int .i64 a2] rfl (by decide)).swap
  go_wp2_with fail
  refine(Pd HB.out (by simp)).mono ?_;rintro e w4 ⟨rfl,fD⟩;have fD:=fD.swap.drop;by_cases pd:rH z [(a1,a2)]=aw
  ·have Ex:z.live (a1,a2)=aw:=by simpa[rH]using pd
   have HA:Hid (oW z (a1,a2)=(⟨z.ls,z.f,(fT z.B (a1,a2)).1⟩,(fT z.B (a1,a2)).2)):=by unfold Hid oW;rw[if_pos Ex]
   rw[if_pos pd];obtain⟨wp,fp,m,hm,hf,ha,j6⟩:=fD.mC;obtain⟨q2,q3,q5,q14,q15,qn⟩:=TC.out fD.swap.drop;have qp:w4.cell? ⟨p,1,ai⟩=ae (ptr fp):=j6.blk.cell 1;have HAD:=af (ha.loosen (a1,a2));have HBE:Hid (dU (fT m (a1,a2)).1=(fT z.B (a1,a2)).1):=by have h1:=(HK.out.loosen (a1,a2)).Z5;rw[HA.out]at h1;have h2:=vU (hf.loosen (a1,a2)).nodup (HK.out.yw.loosen (a1,a2)).nodup (ha.loosen (a1,a2)).1;exact h2.trans h1
   have kO:Hid (In G w0 (j3 fp m::yU p wp fp::dR wp z.ls z.f::br rb 43 (ints [0,0])::L) w4):=j6.third;clear fD j6 pd Ex hm hf ha q3 q5 q14 q15 HB fW
   go_upto_region 19 with(fail)
   go_still_tail 6,(by kernel_rfl)
   change wpList _ _ _ _ _ w4.drew;have kh:=af kO.out.drew;clear kO q2 qn qp qf;generalize w4.drew=w5 at *
   go_wp2_with fail
   refine(P3 kh.out (a1,a2)).mono ?_;rintro e w6 ⟨rfl,mR⟩;have o6:In G w0 (di p ⟨z.ls,z.f,(fT z.B (a1,a2)).1⟩::br rb 43 (ints [0,0])::L) w6:=In.oc (z:=⟨z.ls,z.f,(fT z.B (a1,a2)).1⟩) HBE.out mR.third.third;rw[HAD.out.2];obtain⟨qf,q2,qn⟩:=HFZ.out o6;have kO:=af (y8.out 0 0 o6);clear mR o6 kh
   go_wp2_with fail
   refine cN rfl rb 43 (ints [0,0]) (.int .i64 (fT z.B (a1,a2)).2) _ rfl rfl kO.out.swap.blk Tryz.underlying43 rfl (by rw[bD];exact eB) rfl ?_;rw[HR.out,HA.out];exact⟨rfl,HL.out kO.out.swap.drop⟩
  ·have Ex: ¬(z.live (a1,a2)=aw):=by simpa[rH]using pd
   have HA:Hid (oW z (a1,a2)=(z,7)):=by unfold Hid oW;rw[if_neg Ex]
   rw[if_neg pd];obtain⟨qf,q2,qn⟩:=HFZ.out fD;have kO:=af (y8.out 0 0 fD);clear fD pd Ex HB fW
   go_wp2_with fail
   refine cN rfl rb 43 (ints [0,0]) (.int .i64 7) _ rfl rfl kO.out.swap.blk Tryz.underlying43 rfl (by rw[bD];exact eB) rfl ?_;rw[HR.out,HA.out];exact⟨rfl,HL.out kO.out.swap.drop⟩
 have hd6:(d==6)=ay:=by simp[h6]
 have HR:Hid (wa z ⟨d,⟨bk,bv⟩,(a1,a2),(t1,t2),kk,nn⟩=_):=afN z _ ⟨h1,h2,h3,h4,h5,h6⟩;have kO:=af (y8.out 0 0 fW.out)
 go_wp2_with fail
 refine cN rfl rb 43 (ints [0,0]) (.int .i64 1) _ rfl rfl kO.out.swap.blk Tryz.underlying43 rfl (by rw[bD];exact eB) rfl ?_;rw[HR.out];exact⟨rfl,HL.out kO.out.swap.drop⟩
end
def In.bare {G:Nat->Prop}{w0 w:ah}{l:List bU}(h:In G w0 l w):In G w0 [] w:=⟨trivial,h.only⟩
def nD (G:Nat->Prop)(w0:ah)(B:Nat)(A:Option Addr)(os:List lD):Prop:= ∀{W:ah},In G w0 [] W->vg W B A os
def nD.Bh {w:ah}{A:Option Addr}{os:List lD}(h:vg w w.heap.size A os):nD (λ_=>False) w w.heap.size A os:=λhI=>h.below hI.jI
section
variable {G:Nat->Prop} {w0 w:ah} {l:List bU} {B:Nat} {A:Option Addr} {c:Nat} {os:List lD}
end
section
variable {G:Nat->Prop} {w0 w:ah} {l:List bU} {ob:Nat} {o:lD}
end
section
variable {G:Nat->Prop} {w0 w:ah} {l:List bU} {B:Nat} {A:Option Addr} {c:Nat} {os:List lD}
def VX (hO:nD G w0 B A os)(hlen:os.length<=1099511627776)(Kv: ∀o∈os,o.b.v.length=8)(hI:In G w0 l w):Calls aj 24 #[.slice A os.length c] w λe w'=> ∃p,e=.returned (ptr p)/\In G w0 (di p (D9 os)::l) w':=by
 have HO:Hid (nD G w0 B A os):=hO;have kZ:=af hI;have H8:=af Kv;clear hI Kv hO
 go_enter Tryz.func24,Tryz.ntmps24
 go_wp2_with fail
 refine(Tx kZ.out).mono ?_;rintro e w2 ⟨p,rfl,hI⟩;have qB:=af hI;clear hI kZ
 go_wp2_with fail
 go_loopw [11] (λi w'=> ∃k:Nat,k<=os.length/\i=.int .i64 k/\In G w0 (di p (qZ os k)::l) w') (λi _=>os.length-(intOf i).toNat)
 case atStart=>exact⟨0,cE _,rfl,qB.out⟩
 case round=>
  clear qB;obtain⟨k,hk,rfl,hI⟩:=hrel;have HI:=af hI;clear hI;by_cases bJ:k<os.length
  ·have vI:(k:Int)<os.length:=by omega
   obtain⟨b,o,rfl,zJ,q1⟩:=(HO.out HI.out.bare).at_ bJ;have HS:Hid (qZ os (k+1)=(wa (qZ os k) os[k]).1):=MG os k bJ;have TD:Hid (kI (qZ os k)):=T0 H8.out k;have HV8:Hid (os[k].b.v.length=8):=H8.out _ (bg bJ);have Ug:(lD.list os[k]).length=16:=lD.len HV8.out;generalize os[k]=op at *;generalize qZ os k=z at *
   go_upto_region 7 with(fail)
   refine bZ (In G w0 (br wr.heap.size 74 (ints op.list)::di p z::l)) (HI.out.struct 74 [0,0,0,0,0,0,0,0,0,0,0,0,0,0,0,0] op.list Ug) ?_;generalize wr.heap.size=ob;intro w3 fj;have q2:row? w3 ob 0 16=ae (ints op.list):=fj.blk.bt Ug;have fW:=af fj.swap;clear fj q1 HI Ug
   go_wp2_with fail
   refine(RG fW.out TD.out op HV8.out).mono ?_;rintro e w4 ⟨rfl,gq⟩;have iR:=af gq;clear gq
   go_wp2_with fail
   go_roundw
   case rel=>exact⟨k+1,by omega,by go_num,by rw[HS.out];exact iR.out.swap.drop⟩
   case measure=>simp[intOf];omega
  ·have:k=os.length:=by omega
   subst this;have HF:Hid (qZ os os.length=D9 os):=by unfold Hid qZ;rw[dm]
   rw[HF.out]at HI
   go_wp2_with fail
   go_ret;exact⟨p,rfl,HI.out⟩
end
def xF {w:ah}{g o n:Nat}{xs:List Int}(h:row? w g o n=ae (ints xs))(a m:Nat)(ham:a+m<=n):row? w g (o+a) m=ae (ints ((xs.drop a).take m)):=by
 unfold row? at *
 split at h
 ·split at h
  ·rename_i hle
   injection h with h
   rw[if_pos (by omega)];congr 1;have h2:(ints xs).extract a (a+m)=ints ((xs.drop a).take m):=by unfold ints;apply oz;simp[List.map_drop,List.map_take,List.extract_eq_take_drop]
   rw[<-h2,<-h,Array.extract_extract,Nat.min_eq_left (by omega),sZ]
  ·cases h
 ·cases h
section
variable {P:aS} {w:ah}
end
section
variable {G:Nat->Prop} {w0 w:ah} {l:List bU} {ls:List (Int×Bool)} {f:BF}
end
section
variable {G:Nat->Prop} {w0 w:ah} {l:List bU} {p:Nat} {z:ZS}
def JR (h:In G w0 (di p z::l) w)(hk:kI z):Calls aj 16 #[ptr p] w λe w'=> ∃gv rv bv,e=.returned (.agg #[gv,rv,bv])/\In G w0 (fM gv (iP z.ls)::eo rv z.rows::xI bv z.B::di p z::l) w':=by
 have H0:=af h;have HK:=af hk;clear h hk
 go_enter Tryz.func16,Tryz.ntmps16
 go_upto_region 1 with(fail)
 refine bZ (In G w0 (di p z::br w.heap.size 36 #[.slice ai 0 0,.slice ai 0 0,.slice ai 0 0]::l)) (H0.out.alloc 36 #[.slice ai 0 0,.slice ai 0 0,.slice ai 0 0]).swap ?_;generalize w.heap.size=sb;intro w1 km;obtain⟨wp,fp,m,hm,hf,ha,gm⟩:=km.mC;obtain⟨sp,fj⟩:=gm.swap.aan;have c0:w1.cell? ⟨p,0,ai⟩=ae (ptr wp):=gm.blk.cell 0;have HM:=af hm;have YF:m.length<=1099511627776:=by have:=Ik m;have:=HK.out.len;rw[hm]at *;omega
 have HML:=af YF;have fW:=af fj;clear km gm fj hm hf ha H0 YF;have HR:=af (Ow fW.out HK.out.w CM);rw[JQ,if_pos rfl,Fo Bc,FM]at HR
 go_wp2_with fail
 refine HR.out.mono ?_;rintro e w2 ⟨rv,rfl,hI⟩;obtain⟨A3,c3,rfl,_,_,_⟩:=cM hI.rowAt;have HF:Hid (∀{W:ah} {L:List bU},In G w0 (nT wp sp z.ls z.f::yU p wp fp::j3 fp m::br sb 36 #[.slice ai 0 0,.slice ai 0 0,.slice ai 0 0]::L) W->W.cell? ⟨p,0,ai⟩=ae (ptr wp)/\W.cell? ⟨p,1,ai⟩=ae (ptr fp)/\W.cell? ⟨wp,0,ai⟩=ae (ptr sp)/\fits W sb 0 3=aw):=λ{W L} h=>⟨h.swap.blk.cell 0,h.swap.blk.cell 1,h.acs,h.fourth.blk.fits 0 3 (by simp)⟩
 have iR:Hid (In G w0 (nT wp sp z.ls z.f::yU p wp fp::j3 fp m::br sb 36 #[.slice ai 0 0,.slice ai 0 0,.slice ai 0 0]::eo (.slice A3 z.rows.length c3) z.rows::l) w2):=hI.to5;obtain⟨s1,s2,s3,s4⟩:=HF.out iR.out;have GK:Hid (p≠sb/\wp≠sb):=by refine⟨iR.out.drop.swap.drop.apart,?_⟩;obtain⟨tb,pb,T,hT,fD⟩:=iR.out.rM;simp only[dF]at fD;exact fD.swap.drop.swap.drop.swap.drop.swap.drop.swap.drop.apart
 clear hI HR fW c0;have YA:=af HK.out.w.so.1
 go_upto_region 2 with(fail)
 go_region_held3 (λW=>W.cell? ⟨p,0,ai⟩=ae (ptr wp)/\W.cell? ⟨p,1,ai⟩=ae (ptr fp)/\W.cell? ⟨wp,0,ai⟩=ae (ptr sp)/\fits W sb 0 3=aw)
  (first|(refine⟨?_,?_,?_,?_⟩<;>assumption)|(refine⟨AK GK.out.1 ?_,AK GK.out.1 ?_,AK GK.out.2 ?_,?_⟩;all_goals first|assumption|exact MS (by assumption) rfl))
  (first
    |(go_at_call 43;refine(MX HIB.out YA.out).mono ?_;rintro e w5 ⟨A5,c5,rfl,fD⟩;have fD:=fD.to5;obtain⟨t1,t2,t3,t4⟩:=HF.out fD;have HIZ:=af fD;clear fD)
    |(go_at_call 44;refine(Iz HIG.out HML.out).mono ?_;rintro e w5 ⟨bv,rfl,fD⟩;rw[HM.out]at fD;obtain⟨A6,c6,rfl,_,_,_⟩:=cM fD.rowAt;have fD:=fD.to5.to3;obtain⟨t1,t2,t3,t4⟩:=HF.out fD;have HIZ:=af (fD.reorder 6 [0,1,2,3,5,4] rfl (by simp));clear fD)
    |(go_at_call 43;refine(MX iR.out.drew YA.out).mono ?_;rintro e w4 ⟨A4,c4,rfl,fD⟩;have fD:=fD.to5;obtain⟨u1,u2,u3,u4⟩:=HF.out fD;have HIG:=af fD.third;clear fD)
    |(go_at_call 44;refine(Iz iR.out.drew.third HML.out).mono ?_;rintro e w4 ⟨bv,rfl,fD⟩;rw[HM.out]at fD;obtain⟨A6,c6,rfl,_,_,_⟩:=cM fD.rowAt;have fD:=fD.to5.to3;obtain⟨u1,u2,u3,u4⟩:=HF.out fD;have HIB:=af fD;clear fD))
 all_goals
  have HE:=λgv bv=>In.UY (In.fourth HIZ.out) [gv,.slice A3 z.rows.length c3,bv] rfl
  go_wp2_with fail
  refine mj rfl sb 36 _ _ rfl (HE _ _).blk Tryz.underlying36 rfl u6 rfl ?_;exact⟨_,_,_,rfl,(In.oc HM.out (HE _ _).drop.Lv.swap).reorder 4 [1,3,2,0] rfl (by simp)⟩
end
end
section
open Rel
open Go.Conc Go.ConcN
open Go.ConcR (Payload WgAt)
open Go.RowKit
def PE (b:aQ):List ao:=b.list.map (aF .i64)
def JX (S:jK)(o:Nat->Prop)(w:ah)(v:ao)(bs:List aQ):Prop:= ∃V:Nat->Prop,(∀r,V r->o r)/\(∀r,V r-> ∃ob,w.heap[r]? =ae ob/\kV S (only V) ob ob)/\bx S (only V) v v/\w.ownsRow 0 48 9 v bs.length (bs.flatMap PE)
def FE {S:jK}{V:Nat->Prop}{g:Nat}{n c:Nat}(h:bx S (only V) (.slice (ae ⟨g,0,ai⟩) n c) (.slice (ae ⟨g,0,ai⟩) n c)):V g:=by
 generalize hx:eA (ae ⟨g,0,ai⟩) n c=x at h;cases h with
 |slice l c ha=>cases hx;exact ha.block.2
 |_=>cases hx
def xC {S:jK}{V:Nat->Prop}{w w':ah}{v:ao}{n:Nat}{xs:List ao}(hv:bx S (only V) v v)(h:w.ownsRow 0 48 9 v n xs)(hk: ∀r,V r->w'.heap[r]? =w.heap[r]?):w'.ownsRow 0 48 9 v n xs:=by
 refine⟨h.1,?_⟩;rcases h.2 with h0|⟨g,cap,cur,rfl,hb,hg,r⟩
 ·exact .inl h0
 ·exact .inr ⟨g,cap,cur,rfl,hb,(hk g (FE hv)).trans hg,r⟩
def JX.keep {S:jK}{o:Nat->Prop}{w w':ah}{v:ao}{bs:List aQ}(h:JX S o w v bs)(hk: ∀r,o r->w'.heap[r]? =w.heap[r]?):JX S o w' v bs:=by obtain⟨V,h1,h2,h3,h4⟩:=h;exact⟨V,h1,λr hr=>let⟨ob,e1,e2⟩:=h2 r hr;⟨ob,(hk r (h1 r hr)).trans e1,e2⟩,h3,xC h3 h4 λr hr=>hk r (h1 r hr)⟩
def jpB (S:jK)(Pb:Nat)(xs:List cQ)(ss:List Sys)(o:Nat->Prop)(i:Nat)(w:ah):Prop:= ∃v,w.cell? ⟨Pb,i,ai⟩=ae v/\JX S o w v (xs.map λr=>cD r.b (ss.getD i dB))
structure MB (φ:Ph) (S:jK) (wp:ah) (b1 C:Nat) (fv:ao) (p:Nat) (γ:Gh) (w:ah) (V:Nat->Prop):Prop where
 o1:γ.own b1
 oC:γ.own C
 c1:w.cell? ⟨b1,0,ai⟩=ae (.pointer (ae ⟨φ.Wg,0,ai⟩))
 cC:w.heap[C]? =ae (.cells #[fv] 1)
 rd: ∀b,φ.oS b->w.heap[b]? =wp.heap[b]?
 pay: ∀b,φ.CB b->fL w b=fL wp b
 live:WgLive φ.ty φ.Wg w
 cb: ∀r,γ.own r-> ¬φ.CB r/\ ¬φ.oS r/\r≠φ.Wg/\r<w.heap.size
 size:wp.heap.size<=w.heap.size
 hp:γ.held p
 vo: ∀r,V r->γ.own r/\r≠b1/\r≠C
 vh:cz φ.P S (only V) w w
 Ho: ∀i,γ.held i->i≠p->φ.JP (λb=>γ.own b/\b≠C/\ ¬V b) i w
 nom: ∀a,S.mem a=ai
section
variable {φ:Ph} {S:jK} {wp w az w':ah} {b1 C p:Nat} {fv:ao} {γ γ':Gh} {V V':Nat->Prop}
def MB.rely (O:φ.Ok)(h:MB φ S wp b1 C fv p γ w V)(r:φ.e9 γ w az):MB φ S wp b1 C fv p γ az V:=⟨h.o1,h.oC,(da (r.own b1 h.o1)).trans h.c1,(r.own C h.oC).trans h.cC,λb hb=>(r.rd b hb).trans (h.rd b hb),λb hb=>(r.pay b hb).trans (h.pay b hb),r.live h.live,λx hx=>let⟨a,b,d,c⟩:=h.cb x hx;⟨a,b,d,cc c r.size⟩,bM h.size r.size,h.hp,h.vo,h.vh.tQ r.size (λx hx=>r.own x (h.vo x hx).1) (λa x hx=>by rw[h.nom a]at hx;cases hx),λi hi hn=>O.jp _ w az i (λb hb=>r.own b hb.1) (λa ha=>r.cell i a hi ha) (h.Ho i hi hn),h.nom⟩
def MB.val (O:φ.Ok)(bJ: ∀r,φ.oS r\/φ.CB r\/r=φ.Wg->r<wp.heap.size)(h:MB φ S wp b1 C fv p γ w V)(h1: ∀r,V r->V' r)(h2: ∀r,V' r->V r\/(w.heap.size<=r/\r<w'.heap.size))(h3:cz φ.P S (only V') w' w')(h4: ∀r,r<w.heap.size-> ¬V r->w'.heap[r]? =w.heap[r]?)(h5:w.heap.size<=w'.heap.size):MB φ S wp b1 C fv p (γ.grow w w') w' V':=by
 have hs:=h.size;have nV: ∀r,φ.oS r\/φ.CB r\/r=φ.Wg-> ¬V r:=λr hr hv=>by
  obtain⟨a,b,c,_⟩:=h.cb r (h.vo r hv).1;rcases hr with hr|hr|hr
  ·exact b hr
  ·exact a hr
  ·exact c hr
 have keep: ∀r,φ.oS r\/φ.CB r\/r=φ.Wg->w'.heap[r]? =w.heap[r]?:=λr hr=>h4 r (by have:=bJ r hr;omega) (nV r hr)
 have k1:w'.heap[b1]? =w.heap[b1]?:=h4 b1 (h.cb b1 h.o1).2.2.2 λhv=>(h.vo b1 hv).2.1 rfl
 have kC:w'.heap[C]? =w.heap[C]?:=h4 C (h.cb C h.oC).2.2.2 λhv=>(h.vo C hv).2.2 rfl
 refine⟨.inl h.o1,.inl h.oC,(da k1).trans h.c1,kC.trans h.cC,λb hb=>(keep b (.inl hb)).trans (h.rd b hb),λb hb=> ?_,?_,λx hx=> ?_,bM h.size h5,h.hp,λr hr=> ?_,h3,λi hi hn=> ?_,h.nom⟩
 ·unfold fL;rw[keep b (.inr (.inl hb))];exact h.pay b hb
 ·obtain⟨st,sm,hl⟩:=h.live;exact⟨st,sm,(keep φ.Wg (.inr (.inr rfl))).trans hl⟩
 ·rcases hx with hx|⟨x1,x2⟩
  ·obtain⟨a,b,c,d⟩:=h.cb x hx;exact⟨a,b,c,by omega⟩
  ·exact⟨λhc=>by have:=bJ x (.inr (.inl hc));omega,λhc=>by have:=bJ x (.inl hc);omega,λhc=>by have:=bJ x (.inr (.inr hc));omega,x2⟩
 ·rcases h2 r hr with hv|⟨x1,x2⟩
  ·exact⟨.inl (h.vo r hv).1,(h.vo r hv).2⟩
  ·exact⟨.inr ⟨x1,x2⟩,λe=>by have:=(h.cb b1 h.o1).2.2.2;omega,λe=>by have:=(h.cb C h.oC).2.2.2;omega⟩
 ·refine O.Ba (λb=>γ.own b/\b≠C/\ ¬V b) _ w' i (λb hb=>⟨.inl hb.1,hb.2.1,λhv=> ?_⟩) (O.jp _ w w' i (λb hb=>h4 b (h.cb b hb.1).2.2.2 hb.2.2) (λa ha=> ?_) (h.Ho i hi hn))
  ·rcases h2 b hv with hv|⟨x1,_⟩
   ·exact hb.2.2 hv
   ·have:=(h.cb b hb.1).2.2.2;omega
  ·exact da (keep _ (.inr (.inl (O.nw i a ha))))
def MB.lone (O:φ.Ok)(bJ: ∀r,φ.oS r\/φ.CB r\/r=φ.Wg->r<wp.heap.size)(h:MB φ S wp b1 C fv p γ w V)(h1: ∀r,γ.own r->γ'.own r)(h2:γ'.held=γ.held)(h3: ∀r,γ'.own r->γ.own r\/(w.heap.size<=r/\r<w'.heap.size))(hk:Kept φ γ γ.own w w'):MB φ S wp b1 C fv p γ' w' V:=by
 have hs:=h.size;refine⟨h1 _ h.o1,h1 _ h.oC,(da (hk.st b1 h.o1)).trans h.c1,(hk.st C h.oC).trans h.cC,λb hb=>(hk.rd b hb).trans (h.rd b hb),λb hb=>(hk.pay b hb).trans (h.pay b hb),hk.live h.live,λx hx=> ?_,bM h.size hk.size,h2▸h.hp,λr hr=>⟨h1 _ (h.vo r hr).1,(h.vo r hr).2⟩,h.vh.tQ hk.size (λx hx=>hk.st x (h.vo x hx).1) (λa x hx=>by rw[h.nom a]at hx;cases hx),λi hi hn=> ?_,h.nom⟩
 ·rcases h3 x hx with hx|⟨x1,x2⟩
  ·obtain⟨a,b,c,d⟩:=h.cb x hx;exact⟨a,b,c,by have:=hk.size;omega⟩
  ·exact⟨λhc=>by have:=bJ x (.inr (.inl hc));omega,λhc=>by have:=bJ x (.inl hc);omega,λhc=>by have:=bJ x (.inr (.inr hc));omega,x2⟩
 ·rw[h2]at hi;exact O.Ba (λb=>γ.own b/\b≠C/\ ¬V b) _ w' i (λb hb=>⟨h1 _ hb.1,hb.2⟩) (O.jp _ w w' i (λb hb=>hk.st b hb.1) (λa ha=>hk.cell i a hi ha) (h.Ho i hi hn))
def MB.start (hS: ∀a,S.mem a=ai)(hg:φ.P.globals.size<=wp.heap.size)(h:WK φ wp b1 C fv γ w)(hn: ¬γ.held p)(O:φ.Ok):MB φ S wp b1 C fv p (γ.hold p) w (λ_=>False):=⟨h.o1,h.oC,h.c1,h.cC,h.rd,h.pay,h.live,h.cb,h.size,.inr rfl,λ_ hr=>hr.elim,⟨Dr,λ_ _ hr=>hr.2.elim,bM hg h.size,bM hg h.size,λa x hx=>by rw[hS a]at hx;cases hx⟩,λi hi eb=>O.Ba _ _ w i (λb hb=>⟨hb.1,hb.2,λx=>x.elim⟩) (h.Ho i (hi.resolve_right eb)),hS⟩
def MB.finish (O:φ.Ok)(h:MB φ S wp b1 C fv p γ w V)(hj:φ.JP (λb=>γ.own b/\b≠C) p w):WK φ wp b1 C fv γ w:=
 ⟨h.o1,h.oC,h.c1,h.cC,h.rd,h.pay,h.live,h.cb,h.size,λi hi=>by
   by_cases e:i=p
   ·subst e;exact hj
   ·exact O.Ba _ _ w i (λb hb=>⟨hb.1,hb.2.1⟩) (h.Ho i hi e)⟩
end
end
section
open Go.RowKit
def rC (r:eE):List ao:=(rL r).map (aF .i64)
def cC (c:nM):List ao:=(cL c).map (aF .i64)
def Xx (c:nM):(cC c).length=20:=by unfold cC;rw[aL,AJ]
abbrev qS (v:ao)(rs:List eE):bU:=eD 50 11 v rs.length (rs.flatMap rC)
abbrev j4 (v:ao)(cs:List nM):bU:=eD 149 20 v cs.length (cs.flatMap cC)
def J8:(Tryz.prog.info? 149).map (λi=>(i.zero,i.size,i.bytes))=ae (ae (.agg (ints (bW 20 0))),20,160):=by kernel_rfl
def Q9:(Tryz.prog.info? 50).map (λi=>(i.zero,i.size,i.bytes))=ae (ae (.agg (ints (bW 11 0))),11,88):=by kernel_rfl
def vZ {m:List eE}(h: ∀r∈m,ki r)(k:Hd):(iz m k).length=9:=by
 unfold iz;cases e:dY m k with
 |none=>rfl
 |some v=>exact h _ (rJ e)
def gP (x y:List eE)(hs:List Hd)(k:Nat):List nM:=((hs.take k).map (Im x y)).filter Mw
def D3 (x y:List eE)(hs:List Hd)(k:Nat)(h:k<hs.length):gP x y hs (k+1)=if(iz x hs[k])=(iz y hs[k])then gP x y hs k else gP x y hs k++[⟨hs[k],iz x hs[k],iz y hs[k]⟩]:=by
 unfold gP;rw[bh h,ey,List.filter_append];simp only[eN,List.map_nil,qg,List.filter_nil,Im,Mw];by_cases e:iz x hs[k]=iz y hs[k]
 ·rw[if_pos e];simp[e]
 ·rw[if_neg e];simp[e]
def G7 (x y:List eE)(hs:List Hd)(k:Nat):(gP x y hs k).length<=hs.length:=by unfold gP;refine bM (jA _ _) ?_;rw[aL,cK];omega
def Oq {w:ah}{g o n:Nat}{x:Array ao}(t:aA)(zs xs:List Int)(h:row? w g o n=ae x):row? (putRow (w.alloc (.cells (ints zs) t)) w.heap.size 0 xs) g o n=ae x:=iD (dV w t zs xs) h
def Ou {w:ah}{g g' o o' n:Nat}{x:Array ao}{xs:List Int}(eb:g≠g')(h:row? w g o n=ae x):row? (putRow w g' o' xs) g o n=ae x:=by unfold row? at *;rw[fz w g' o' xs g eb];exact h
def Mk (A A':Option Addr)(c c':Nat)(a b:List eE)(w:ah)(ha:RowsIn w w.heap.size A a)(hb:RowsIn w w.heap.size A' b)(hoa: ∀r∈a,ki r)(hob: ∀r∈b,ki r)(hla:a.length<=maxLen)(hlb:b.length<=maxLen):Calls aj 31 #[.slice A a.length c,.slice A' b.length c'] w λe w'=> ∃v,e=.returned (.tuple #[v,.int .i64 (jk a b).2])/\In (λ_=>False) w [j4 v (jk a b).1] w':=by
 have HA:=af ha;have HB:=af hb;have HOA:=af hoa;have TC:=af hob;have HLA:=af hla;have HLB:=af hlb;clear ha hb hoa hob hla hlb;obtain⟨i0,qE,uM,sX,tH⟩:=info_parts J8
 go_enter Tryz.func31,Tryz.ntmps31
 go_wp2_with fail
 refine(Dq A c a w HA.out HOA.out HLA.out).mono ?_;rintro e w1 ⟨rfl,lJ⟩;have qk:=af lJ;clear lJ;cases hma:lj a with
 |false=>
  have HR:Hid (jk a b=([],4)):=by unfold Hid jk;rw[hma];rfl
  clear hma
  go_wp2_with fail
  go_ret2
  rw[HR.out];exact⟨_,rfl,(In.mN (In.nil w _) _ _).below qk.out⟩
 |true=>
  have Ps:=af hma;clear hma
  go_wp2_with fail
  refine(Dq A' c' b w1 (HB.out.below qk.out|>.more qk.out.size) TC.out HLB.out).mono ?_;rintro e w2 ⟨rfl,gF⟩;have pW:=af (qk.out.trans (gF.mono qk.out.size));clear gF qk;cases hmb:lj b with
  |false=>
   have HR:Hid (jk a b=([],4)):=by unfold Hid jk;rw[Ps.out,hmb];rfl
   clear hmb
   go_wp2_with fail
   go_ret2
   rw[HR.out];exact⟨_,rfl,(In.mN (In.nil w _) _ _).below pW.out⟩
  |true=>
   have HMB:=af hmb;have HR:Hid (jk a b=(iB a b,0)):=by unfold Hid jk;rw[Ps.out,hmb];rfl
   clear hmb
   go_wp2_with fail
   refine(Kf A c a w2 (HA.out.below pW.out|>.more pW.out.size) HOA.out HLA.out).mono ?_;rintro e w3 ⟨mx,rfl,fj⟩;rw[QH Ps.out]at fj;have fW:Hid (In (λ_=>False) w [jV mx a] w3):=(In.nil w _).below pW.out|>.new (A:=jV mx a) fj.jI fj.fresh;clear fj pW
   go_wp2_with fail
   refine(Kf A' c' b w3 (HB.out.below fW.out.jI|>.more fW.out.jI.size) TC.out HLB.out).mono ?_;rintro e w4 ⟨my,rfl,gq⟩;rw[QH HMB.out]at gq;have iR:Hid (In (λ_=>False) w [jV my b,jV mx a] w4):=fW.out.new (A:=jV my b) gq.jI gq.fresh;clear gq fW
   go_wp2_with fail
   refine(QE iR.out.swap.fU).mono ?_;rintro e w5 ⟨rfl,Yi,Wh⟩;have ni:Hid (In (λ_=>False) w [jV my b,jV w4.heap.size a,jV mx a] w5):=(iR.out.new (A:=jV w4.heap.size a) Wh ⟨Yi,ax _⟩).swap;clear Yi Wh iR;generalize w4.heap.size=mz at *
   go_wp2_with fail
   refine(Y9 (lV HMB.out) TC.out ni.out).mono ?_;rintro e w6 ⟨rfl,m',hk6,j6⟩;have FO:Hid ((aW m').Nodup):=j6.swap.fU.nodup pf;have HSK:Hid (dj m'=dj (vR a b)):=wU FO.out (BZ (lV Ps.out)) λk=>by rw[hk6,Bd]
   have HLM:Hid (m'.length<=120):=by have h1:=congrArg List.length HSK.out;rw[rS,rS]at h1;have h2:=AE (x:=a) (y:=b);have h3:=(mB Ps.out).2.2;have h4:=(mB HMB.out).2.2;unfold Hid;omega
   have kO:=af j6;clear hk6 j6 ni FO
   go_wp2_with fail
   refine(Jf mz w6).mono ?_;rintro e w7 ⟨rfl,rfl⟩;have kh:Hid (In (λ_=>False) w [br w6.heap.size 138 #[.map (ae mz)],jV my b,jV mz m',jV mx a] (w6.alloc (.cells #[.map (ae mz)] 138))):=kO.out.alloc _ _;clear kO;generalize (w6.alloc (.cells #[.map (ae mz)] 138))=w7 at *;generalize w6.heap.size=kb at *
   go_wp2_with fail
   refine(wT kh.out.blk kh.out.third.fU (by have:=HLM.out;omega)).mono ?_;rintro e w8 ⟨hv,rfl,mR⟩;have oQ:Hid (In (λ_=>False) w [iy hv (dj m'),br kb 138 #[.map (ae mz)],jV my b,jV mz m',jV mx a] w8):=kh.out.new (A:=iy hv (dj m')) mR.jI mR.fresh;have HLS:Hid ((dj m').length<=120):=by rw[Hid,rS];exact HLM.out
   have HBT:Hid (iB a b=gP a b (dj m') (dj m').length):=by unfold Hid gP;rw[dm,HSK.out];rfl
   clear mR kh HLM HSK;generalize dj m'=hs at *;obtain⟨A7,c7,rfl,vA,uL,fg⟩:=o0 oQ.out.rowAt;have agn:(hs.length:Int)<=120:=by have:=HLS.out;omega
   have oQ:Hid (In (λ_=>False) w [j4 (.slice ai 0 0) [],iy (.slice A7 hs.length c7) hs,jV my b,jV mx a] w8):=by have h1:=oQ.out.swap.drop.third.drop.swap;exact(h1.swap.third.swap.third.swap.mN 149 20)
   clear fg vA uL
   go_wp2_with fail
   go_loopw [9,34] (λout i w'=> ∃k:Nat,k<=hs.length/\i=.int .i64 k/\In (λ_=>False) w [j4 out (gP a b hs k),iy (.slice A7 hs.length c7) hs,jV my b,jV mx a] w') (λ_ i _=>hs.length-(intOf i).toNat)
   case atStart=>exact⟨0,by omega,rfl,oQ.out⟩
   case round=>
    clear oQ;obtain⟨k,hk,rfl,hI⟩:=hrel;have HI:=af hI;clear hI;by_cases bJ:k<hs.length
    ·have vI:(k:Int)<hs.length:=by omega
     obtain⟨A7',c7',e7,_,_,fg⟩:=o0 HI.out.swap.rowAt;obtain⟨g7,hA,hrw⟩:=fg k bJ;injection e7 with e1 e2 e3
     subst e1;subst hA;have qN:=af (D3 a b hs k bJ);have HLK:=af (G7 a b hs (k+1));generalize hh:hs[k]=h at *;clear hh fg e2 e3;obtain⟨h1,h2⟩:=h;have HX9:Hid ((iz a (h1,h2)).length=9):=vZ HOA.out _;have HY9:Hid ((iz b (h1,h2)).length=9):=vZ TC.out _
     go_upto_region 10 with(fail)
     refine bZ (In (λ_=>False) w [br wr.heap.size 43 (ints [h1,h2]),j4 u9 (gP a b hs k),iy (.slice (ae ⟨g7,0,ai⟩) hs.length c7) hs,jV my b,jV mx a]) (HI.out.struct 43 [0,0] [h1,h2] rfl) ?_;generalize wr.heap.size=hb;intro w9 o6;have s1:row? w9 hb 0 2=ae (ints [h1,h2]):=o6.blk.bt rfl;have HG1:Hid (∀W,Below w9.heap.size w9 W->Calls aj 81 #[.map (ae mx),.agg (ints [h1,h2])] W λe w'=>e=.returned (.agg (ints (iz a (h1,h2))))/\Below W.heap.size W w'):=λW hW=>Kn (o6.fifth.fU.after hW) HOA.out (h1,h2)
     have HG2:Hid (∀W,Below w9.heap.size w9 W->Calls aj 81 #[.map (ae my),.agg (ints [h1,h2])] W λe w'=>e=.returned (.agg (ints (iz b (h1,h2))))/\Below W.heap.size W w'):=λW hW=>Kn (o6.fourth.fU.after hW) TC.out (h1,h2)
     have ahs:Hid (hb<w9.heap.size):=o6.blk.lt;have pw:=af o6.drop;clear o6 hrw HI;generalize iz a (h1,h2)=ox at *;generalize iz b (h1,h2)=oy at *;have x9:=HX9.out;have y9:=HY9.out;have HHB:Hid (hb<w9.heap.size):=ahs.out;have HLX:Hid ((ox++oy).length=18):=by rw[Hid,aZ,x9,y9]
     have HD:Hid (Below w9.heap.size w9 w9.drew):=(Below.refl _ _).drew;have HDA:Hid (∀ob,Below w9.heap.size w9 (w9.drew.alloc ob)):=λob=>HD.out.alloc HD.out.size ob
     go_region_held3 (λW=>row? W hb 0 2=ae (ints [h1,h2])) (first|assumption|(refine Bt _ ?_;assumption)|(refine Oq _ [0,0,0,0,0,0,0,0,0,0,0,0,0,0,0,0,0,0,0,0] _ ?_;assumption)|(refine Ou (by have:=HHB.out;have:=H1.out.size;have:=H2.out.size;simp at *;omega) ?_;assumption))
      (first
        |(go_at_call 81;refine(HG2.out _ (H1.out)).mono ?_;rintro e O2 ⟨rfl,Ep⟩;have s3:=iD Ep s2;have H2:Hid (Below w9.heap.size w9 O2):=H1.out.trans (Ep.mono H1.out.size);(try(have f3:=(W8.out.after Ep).fits 0 20 (by rw[bD];simp)));(try(have HBM:=af (W8.out.after Ep)));clear Ep)
        |(go_at_call 81;refine(HG2.out _ (H1.out.alloc H1.out.size _)).mono ?_;rintro e O2 ⟨rfl,Ep⟩;have s3:=iD Ep (Bt _ s2);have H2:Hid (Below w9.heap.size w9 O2):=(H1.out.alloc H1.out.size _).trans (Ep.mono (H1.out.alloc H1.out.size _).size);have f3:=((dt.new Ax 149 (ints [0,0,0,0,0,0,0,0,0,0,0,0,0,0,0,0,0,0,0,0])).after Ep).fits 0 20 (by rw[bD];simp);have HBM:=af ((dt.new Ax 149 (ints [0,0,0,0,0,0,0,0,0,0,0,0,0,0,0,0,0,0,0,0])).after Ep);clear Ep)
        |(go_at_call 81;refine(HG1.out _ HD.out).mono ?_;rintro e Ax ⟨rfl,AW⟩;have s2:=iD (w:=w9.drew) AW s1;have H1:Hid (Below w9.heap.size w9 Ax):=HD.out.trans (AW.mono HD.out.size);clear AW)
        |(go_at_call 81;refine(HG1.out _ (HDA.out _)).mono ?_;rintro e Ax ⟨rfl,AW⟩;have s2:=iD AW (Bt (w:=w9.drew) _ s1);have H1:Hid (Below w9.heap.size w9 Ax):=(HDA.out _).trans (AW.mono (HDA.out _).size);have W8:=af ((dt.new w9.drew 149 (ints [0,0,0,0,0,0,0,0,0,0,0,0,0,0,0,0,0,0,0,0])).after AW);clear AW))
     all_goals
      have hlen:(h1::h2::(ox++oy)).length=20:=by have:=HLX.out;simp only[aD];omega
      (first
        |(obtain⟨W9,Ap⟩: ∃W9,putRow (O2.alloc (.cells #[aF .i64 0,aF .i64 0,aF .i64 0,aF .i64 0,aF .i64 0,aF .i64 0,aF .i64 0,aF .i64 0,aF .i64 0,aF .i64 0,aF .i64 0,aF .i64 0,aF .i64 0,aF .i64 0,aF .i64 0,aF .i64 0,aF .i64 0,aF .i64 0,aF .i64 0,aF .i64 0] 149)) O2.heap.size 0 (h1::h2::(ox++oy))=W9:=⟨_,rfl⟩;rw[Ap];have hc9:dt W9 O2.heap.size 149 (ints (h1::h2::(ox++oy))):=(by rw[<-Ap];exact gD O2 _ [0,0,0,0,0,0,0,0,0,0,0,0,0,0,0,0,0,0,0,0] _ hlen);have Kw:Below w9.heap.size w9 W9:=(by rw[<-Ap];exact H2.out.trans ((dV O2 _ [0,0,0,0,0,0,0,0,0,0,0,0,0,0,0,0,0,0,0,0] _).mono H2.out.size));clear Ap;have HIc:=af (pw.out.below Kw);clear Kw;generalize O2.heap.size=cb at *)
        |(obtain⟨W9,Ap⟩: ∃W9,putRow O2 Ax.heap.size 0 (h1::h2::(ox++oy))=W9:=⟨_,rfl⟩;rw[Ap];have hc9:dt W9 Ax.heap.size 149 (ints (h1::h2::(ox++oy))):=(by rw[<-Ap];exact dt.eU HBM.out _ hlen);have Kw:Below w9.heap.size w9 W9:=(by rw[<-Ap];exact jL H2.out H1.out.size 0 _);clear Ap;have HIc:=af (pw.out.below Kw);clear Kw;generalize Ax.heap.size=cb at *)
        |(obtain⟨W9,Ap⟩: ∃W9,putRow O2 w9.heap.size 0 (h1::h2::(ox++oy))=W9:=⟨_,rfl⟩;rw[Ap];have hc9:dt W9 w9.heap.size 149 (ints (h1::h2::(ox++oy))):=(by rw[<-Ap];exact dt.eU HBM.out _ hlen);have Kw:Below w9.heap.size w9 W9:=(by rw[<-Ap];exact jL H2.out (ax _) 0 _);clear Ap;have HIc:=af (pw.out.below Kw);clear Kw;generalize w9.heap.size=cb at *))
      have q1:row? W9 cb 2 9=ae (ints ox):=by rw[hc9.eJ 2 9 (by rw[hlen];omega)];simp[<-x9]
      have q2:row? W9 cb 11 9=ae (ints oy):=by rw[hc9.eJ 11 9 (by rw[hlen];omega)];simp only[mZ];rw[List.drop_left' x9,ck (by omega)]
      have q3:row? W9 cb 0 20=ae (ints (h1::h2::(ox++oy))):=hc9.bt hlen;have Qc: ∀W,(binOp .neq 48 (.agg (ints ox)) (.agg (ints oy))).run aj W=.ok (.bool (!decide (ox=oy))) W:=Jg ox oy x9 y9;clear hc9;by_cases e:ox=oy
      ·have hd:decide (ox=oy)=aw:=by simpa using e
       rw[hd]at Qc;rw[if_pos e]at qN;clear e hd
       go_wp2_with fail
       go_roundw
       case rel=>exact⟨k+1,by omega,by go_num,by rw[qN.out];exact HIc.out⟩
       case measure=>simp[intOf];omega
      ·have hd:decide (ox=oy)=ay:=by simpa using e
       rw[hd]at Qc;rw[if_neg e]at qN;have sM:(gP a b hs k).length+1<=120:=by have h3:=HLK.out;rw[qN.out,aZ]at h3;have h4:=HLS.out;simp only[aD,aP]at h3;omega
       have HO:=af HIc.out.rowAt;clear e hd
       go_wp2_with (at_builtin;go_loud (refine eX rfl _ _ 85 rfl 0 149 i0 _ 20 160 Tryz.underlying85 qE uM sX tH rfl (by decide) u9 (gP a b hs k).length ((gP a b hs k).flatMap cC) rfl HO.out ((h1::h2::(ox++oy)).map (aF .i64)) rfl (by rw[aL];exact hlen) (by intro u hu;obtain⟨x,_,rfl⟩:=aH.1 hu;rfl) ?_ ?_ (cE _) ?_))
       case refine_1=>unfold maxLen;omega
       case refine_2=>omega
       intro v' w12 ho hg wx;have JV:Hid (In (λ_=>False) w [j4 v' (gP a b hs (k+1)),iy (.slice (ae ⟨g7,0,ai⟩) hs.length c7) hs,jV my b,jV mx a] w12):=by
        have g1:=HIc.out.xe ho hg wx;rw[qN.out];unfold Hid j4;rw[aZ,dG];have g2:([(⟨(h1,h2),ox,oy⟩:nM)]).flatMap cC=(h1::h2::(ox++oy)).map (aF .i64):=by simp only[bN,List.flatMap_nil,ew];unfold cC;rw[acS ⟨x9,y9⟩]
        rw[g2];simp only[eN,ey]at g1|-;exact g1
       clear ho hg wx q1 q2 q3
       go_wp2_with fail
       go_roundw
       case rel=>exact⟨k+1,by omega,by go_num,JV.out⟩
       case measure=>simp[intOf];omega
    ·have vI:(hs.length:Int)<=k:=by omega
     have HE:Hid (gP a b hs k=iB a b):=by
      have:k=hs.length:=by omega
      rw[Hid,HBT.out,this]
     go_wp2_with fail
     go_ret2
     rw[HR.out];refine⟨u9,rfl,?_⟩;have h1:=HI.out;rw[HE.out]at h1;exact(h1.swap.drop.swap.drop.swap.drop)
section
variable {G:Nat->Prop} {w0 w:ah} {l:List bU} {gv rv bv gv' rv' bv':ao} {gs:List Int} {rs:List cQ} {bs:List (Hd×Hd)}
end
end
section
open Rel
open Go.Conc Go.ConcN
open Go.ConcR (Payload WgAt)
open Go.RowKit
noncomputable def tf (S:jK)(Pb:Nat)(xs:List cQ)(ss:List Sys):Pv:=⟨λb=>b=Pb,λi a=>a=⟨Pb,i,ai⟩,λi w=>w.cell? ⟨Pb,i,ai⟩=ae (.slice ai 0 0),jpB S Pb xs ss⟩
def J4 (S:jK)(Pb:Nat)(xs:List cQ)(ss:List Sys):(tf S Pb xs ss).Ok:=by
 refine⟨λi a h=>by have:a=⟨Pb,i,ai⟩:=h;rw[this];rfl,λi i' a h h'=> ?_,λo w az i hk hc h=> ?_,λw az i hc h=>(hc _ rfl).trans h,λo o' w i ho h=> ?_⟩
 ·have e:a=⟨Pb,i,ai⟩:=h;have e':a=⟨Pb,i',ai⟩:=h';rw[e]at e';injection e'
 ·obtain⟨v,h1,h2⟩:=h;exact⟨v,(hc _ rfl).trans h1,h2.keep hk⟩
 ·obtain⟨v,h1,V,h2,h3⟩:=h;exact⟨v,h1,V,λr hr=>ho r (h2 r hr),h3⟩
structure BRd (φ:Ph) (wp:ah) (B4 B7 B5 Pb:Nat) (xs:List cQ) (ss:List Sys) (p6 Dd:ao):Prop where
 r4:φ.oS B4
 c4:wp.cell? ⟨B4,0,ai⟩=ae p6
 r7:φ.oS B7
 c7:wp.cell? ⟨B7,0,ai⟩=ae (.slice (ae ⟨Pb,0,ai⟩) ss.length ss.length)
 r5:φ.oS B5
 c5:wp.cell? ⟨B5,0,ai⟩=ae Dd
 rows: ∃A c,p6=.slice A xs.length c/\ ∀j (h:j<xs.length),∃g,A=ae ⟨g,0,ai⟩/\φ.oS g/\row? wp g (j *11) 11=ae (ints xs[j].list)
 sys: ∃A c,Dd=.slice A ss.length c/\ ∀j (h:j<ss.length),∃g,A=ae ⟨g,0,ai⟩/\φ.oS g/\row? wp g (j *7) 7=ae (ints ss[j].list)
 pb:fL wp Pb=ae (100,ss.length,0,0)
 okB: ∀r∈xs,bI r.b=0/\r.b.v.length=8
 okS: ∀s∈ss,fa s=0
 len:xs.length<=60
 lens:ss.length<=20
def cU (bd:bK->List Tmp)(old:Nat)(U:List Tmp):gj:={cfg bd old with bad:=Y8 U}
def Dg (bd:bK->List Tmp)(old:Nat)(U:List Tmp):(cU bd old U).Fits aj:=let h:=Mt bd old;⟨h.fn,h.int,h.zero,h.elem,h.flat,h.ext⟩
def xE {w w':ah}{g:Nat}(h:w'.heap[g]? =w.heap[g]?)(o n:Nat):row? w' g o n=row? w g o n:=by unfold row?;rw[h]
def yM {w:ah}{g o n:Nat}{cs:Array ao}(h:row? w g o n=ae cs): ∀j,j<n->(w.cell? ⟨g,o+j,ai⟩).isSome:=by
 intro j hj;unfold row? at h;unfold c8;cases hg:w.heap[g]? with
 |none=>rw[hg]at h;cases h
 |some ob=>
  rw[hg]at h;cases ob with
  |cells c e f=>
   simp only at h|-
   split at h
   ·simp;omega
   ·cases h
  |_=>cases h
noncomputable def xu:Code:=match Tryz.f92.body with|some (.seq _ (.block _ (.loop x)))=>x|_=>.skip
section
variable {φ:Ph} {wp:ah} {bd:bK->List Tmp} {old:Nat} {B4 B7 B5 Pb b1 C p:Nat} {fv:ao} {xs:List cQ} {ss:List Sys} {p6 Dd:ao}
structure JS (φ:Ph) (S:jK) (wp:ah) (b1 C Pb:Nat) (fv:ao) (p:Nat) (xs:List cQ) (s:Sys) (H0:Nat->Prop) (ov:Prop) (j:Nat) (γ:Gh) (w:ah) (V:Nat->Prop) (cv sv:ao):Prop where
 mb:MB φ S wp b1 C fv p γ w V
 held: ∀q,γ.held q↔H0 q
 over:γ.over=ov
 cell:w.cell? ⟨Pb,p,ai⟩=ae cv
 rel:bx S (only V) sv sv
 own:w.ownsRow 0 48 9 sv j ((xs.take j).flatMap λr=>PE (cD r.b s))
def BM {S:jK}{π:Ren}(l:List Int):bx S π (.agg (ints l)) (.agg (ints l)):=(E1 (S:=S) (ints l) λx hx=>by simp[ints]at hx;obtain⟨n,_,rfl⟩:=hx;exact⟨_,_,rfl⟩).1 π
def KV {w:ah}{e:aA}{size n:Nat}{v:ao}{xs:List ao}(h:w.ownsRow 0 e size v n xs): ∀r,v.ownBlock=ae r->r<w.heap.size:=λr hr=>(gJ h r hr).2
def Xw {w:ah}{g:Nat}{t:aA}{cs:Array ao}(h:dt w g t cs)(n:Nat)(hn:n<=cs.size):fits w g 0 n=aw:=by unfold fits;unfold dt at h;rw[h];simpa using hn
section
variable {S:jK} {s:Sys} {H0:Nat->Prop} {ov:Prop} {j:Nat} {γ γ':Gh} {w az w':ah} {V V':Nat->Prop} {cv sv:ao}
def JS.rely (O:φ.Ok)(sa:φ.jl p ⟨Pb,p,ai⟩)(h:JS φ S wp b1 C Pb fv p xs s H0 ov j γ w V cv sv)(r:φ.e9 γ w az):JS φ S wp b1 C Pb fv p xs s H0 ov j γ az V cv sv:=⟨h.mb.rely O r,h.held,h.over,(r.cell p _ h.mb.hp sa).trans h.cell,h.rel,xC h.rel h.own λx hx=>r.own x (h.mb.vo x hx).1⟩
def JS.val (O:φ.Ok)(sa:φ.jl p ⟨Pb,p,ai⟩)(bJ: ∀r,φ.oS r\/φ.CB r\/r=φ.Wg->r<wp.heap.size)(h:JS φ S wp b1 C Pb fv p xs s H0 ov j γ w V cv sv)(h1: ∀r,V r->V' r)(h2: ∀r,V' r->V r\/(w.heap.size<=r/\r<w'.heap.size))(h3:cz φ.P S (only V') w' w')(h4: ∀r,r<w.heap.size-> ¬V r->w'.heap[r]? =w.heap[r]?)(h5:w.heap.size<=w'.heap.size)(h6: ∀r,sv.ownBlock=ae r->w'.heap[r]? =w.heap[r]?):JS φ S wp b1 C Pb fv p xs s H0 ov j (γ.grow w w') w' V' cv sv:=by
 have uh:=O.nw p _ sa;have hs:=h.mb.size;refine⟨h.mb.val O bJ h1 h2 h3 h4 h5,h.held,h.over,(da (h4 Pb (by have:=bJ Pb (.inr (.inl uh));omega) λhv=>(h.mb.cb Pb (h.mb.vo Pb hv).1).1 uh)).trans h.cell,h.rel.mono (P:=φ.P) ⟨λ_ _ x=>⟨x.1,h1 _ x.2⟩,Dr⟩,?_⟩;refine⟨h.own.1,?_⟩;rcases h.own.2 with h0|⟨g,cap,cur,e,hb,hg,r⟩
 ·exact .inl h0
 ·exact .inr ⟨g,cap,cur,e,hb,(h6 g (by rw[e];rfl)).trans hg,r⟩
def JS.lone (O:φ.Ok)(sa:φ.jl p ⟨Pb,p,ai⟩)(bJ: ∀r,φ.oS r\/φ.CB r\/r=φ.Wg->r<wp.heap.size)(h:JS φ S wp b1 C Pb fv p xs s H0 ov j γ w V cv sv)(h1: ∀r,γ.own r->γ'.own r)(h2:γ'.held=γ.held)(h2':γ'.over=γ.over)(h3: ∀r,γ'.own r->γ.own r\/(w.heap.size<=r/\r<w'.heap.size))(hk:Kept φ γ γ.own w w'):JS φ S wp b1 C Pb fv p xs s H0 ov j γ' w' V cv sv:=⟨h.mb.lone O bJ h1 h2 h3 hk,λq=>by rw[h2];exact h.held q,h2'.trans h.over,(hk.cell p _ h.mb.hp sa).trans h.cell,h.rel,xC h.rel h.own λx hx=>hk.st x (h.mb.vo x hx).1⟩
end
def Ll (parts:Array (Nat×ao)):gh 100 1 parts=kz 100 parts:=rfl
def Bv (w:ah)(cs:Array ao)(h:cs.size=9):(gh 100 1 #[(0,.agg cs)]).run aj w=.ok (.slice (ae ⟨w.heap.size,0,ai⟩) 1 1) (w.alloc (.cells cs 48)):=by rw[Ll,mE w _ _ 9 (bW 9 (aF .i64 0)).toArray cs Tryz.underlying100 (by kernel_rfl) (by kernel_rfl) rfl (by decide) (by decide),if_pos h]
end
def zh:(Tryz.prog.info? 48).map (λi=>(i.zero,i.size,i.bytes))=ae (ae (.agg (ints [0,0,0,0,0,0,0,0,0])),9,72):=by kernel_rfl
def XA {w:ah}{b o:Nat}{u:ao}(h:w.cell? ⟨b,o,ai⟩=ae u)(v:ao):(w.setCell ⟨b,o,ai⟩ v).cell? ⟨b,o,ai⟩=ae v:=by
 unfold c8 at h|-;unfold dJ;simp only[bq];cases hg:w.heap[b]? with
 |none=>rw[hg]at h;cases h
 |some ob=>
  rw[hg]at h;cases ob with
  |cells c e f=>simp at h;simp only[fS,if_true,Option.isSome_none,dP,if_false,ite_true,ite_false];exact aU (aI.1 h).1
  |_=>cases h
def B8 {w:ah}{a a':Addr}(eb:a'≠a)(hs:a.spot=ai)(v:ao):(w.setCell a v).cell? a'=w.cell? a':=by
 unfold c8 dJ;simp only[bq];by_cases hb:a.block=a'.block
 ·rw[if_pos hb];cases hg:w.heap[a'.block]? with
  |none=>rfl
  |some ob=>
   cases ob with
   |cells c e f=>
    simp only[fS,hs];cases Pj:a'.spot with
    |some x=>rfl
    |none=>
     have:a.off≠a'.off:=λe=>eb (by obtain⟨_,_,_⟩:=a;obtain⟨_,_,_⟩:=a';simp only at hb e hs Pj;subst hb e hs Pj;rfl)
     simp[aK this]
   |_=>rfl
 ·rw[if_neg hb]
def IG (w:ah)(a:Addr)(v:ao)(b:Nat):fL (w.setCell a v) b=fL w b:=by
 unfold fL dJ;simp only[bq];by_cases hb:a.block=b
 ·rw[if_pos hb];cases hg:w.heap[b]? with
  |none=>rfl
  |some ob=>
   cases ob with
   |cells c e f=>
    simp only[fS]
    split<;>simp
   |_=>rfl
 ·rw[if_neg hb]
def Km {w:ah}{b n:Nat}{e:aA}(h:fL w b=ae (e,n,0,0))(o:Nat):w.frozen? ⟨b,o,ai⟩=ay:=by
 unfold fL at h;unfold World.frozen?;simp only;cases hg:w.heap[b]? with
 |none=>rfl
 |some ob=>
  rw[hg]at h;cases ob with
  |cells c t fr=>obtain⟨lo,hi⟩:=fr;simp only[dS,Prod.mk.injEq]at h;obtain⟨_,_,h3,h4⟩:=h;simp[h3,h4]
  |_=>rfl
def Ue {φ:Ph}{γ:Gh}{w:ah}{Pb p:Nat}{v:ao}{es:Array Event}(uh:φ.CB Pb)(sa: ∀ad,φ.jl p ad->ad=⟨Pb,p,ai⟩)(hh:γ.held p)(hj:φ.jl p ⟨Pb,p,ai⟩)(jJ: ∀e∈es,e=⟨.cell ⟨Pb,p,ai⟩,aw,ay⟩):φ.CN γ w (w.setCell ⟨Pb,p,ai⟩ v) es:=by refine⟨λb hb hn hc=>Below.heap_setCell w _ _ b λe=>hc (e▸uh),λa _ hn=>B8 (λe=>hn p hh (by rw[e];exact hj)) rfl v,λb _=>IG _ _ _ _,by simp,rfl,rfl,rfl,λe he=> ?_⟩;rw[jJ e he];exact .inr ⟨rfl,Pb,rfl,.inr (.inl ⟨p,_,hh,hj,rfl⟩)⟩
def MB.aaY {φ:Ph}{S:jK}{wp w:ah}{b1 C p Pb:Nat}{fv:ao}{γ:Gh}{V:Nat->Prop}(O:φ.Ok)(h:MB φ S wp b1 C fv p γ w V)(uh:φ.CB Pb)(hj:φ.jl p ⟨Pb,p,ai⟩)(v:ao):MB φ S wp b1 C fv p γ (w.setCell ⟨Pb,p,ai⟩ v) V:=by
 have Hb: ∀b,b≠Pb->(w.setCell ⟨Pb,p,ai⟩ v).heap[b]? =w.heap[b]?:=λb hb=>Below.heap_setCell w _ _ b hb
 have own: ∀b,γ.own b->b≠Pb:=λb hb e=>(h.cb b hb).1 (e▸uh)
 refine⟨h.o1,h.oC,(da (Hb b1 (own b1 h.o1))).trans h.c1,(Hb C (own C h.oC)).trans h.cC,λb hb=>(Hb b λe=>O.Xz Pb uh (e▸hb)).trans (h.rd b hb),λb hb=>(IG _ _ _ _).trans (h.pay b hb),?_,λx hx=> ?_,by simpa using h.size,h.hp,h.vo,h.vh.tQ (by simp) (λx hx=>Hb x (own x (h.vo x hx).1)) (λa x hx=>by rw[h.nom a]at hx;cases hx),λi hi hn=> ?_,h.nom⟩
 ·obtain⟨st,sm,hl⟩:=h.live;exact⟨st,sm,(Hb φ.Wg λe=>O.Wb (e▸uh)).trans hl⟩
 ·simpa using h.cb x hx
 ·exact O.jp _ w _ i (λb hb=>Hb b (own b hb.1)) (λa ha=>B8 (λe=>hn (O.EC i p a ha (by rw[e];exact hj))) rfl v) (h.Ho i hi hn)
def Vd {ops:Array Oper}{L:Array Bool}{i:Nat}(h:i∈ig .any ops L):i<ops.size/\L.getD i aw=ay/\ ∀o,ops[i]? =ae o-> ∀e∈o.after,Region.binds .any e=aw->L.getD e.on ay=aw:=by
 unfold ig at h;obtain⟨hr,hp⟩:=cm.1 h;refine⟨ng.1 hr,?_,λo ho e he hb=> ?_⟩
 ·simp only[aG,iT]at hp;exact hp.1
 ·rw[ho]at hp;simp only[fS,bT,aG]at hp;obtain⟨k,hk,rfl⟩:=Array.mem_iff_getElem.1 he;have:=eY.1 hp.2 k hk;simp only[gi,iT]at this;rcases this with h1|h1
  ·rw[hb]at h1;cases h1
  ·exact h1
def fK {L:Array Bool}{i j:Nat}{d:Bool}(h:i≠j):(L.setIfInBounds i aw).getD j d=L.getD j d:=by rw[bH,aK h,<-bH]
def un {L:Array Bool}{i j:Nat}{d b:Bool}(eb:i≠j)(h:(L.setIfInBounds i aw).getD j d=b):L.getD j d=b:=by rwa[fK eb]at h
def b9 {L:Array Bool}{i j:Nat}{d b:Bool}(h:(L.setIfInBounds i aw).getD j d=b)(eb:i≠j:=by decide):L.getD j d=b:=un eb h
def Fv {L:Array Bool}{i:Nat}{d:Bool}(h:i<L.size):(L.setIfInBounds i aw).getD i d=aw:=by rw[bH,aU h];rfl
def abd {L:Array Bool}{i:Nat}(hi:i<L.size)(h:L.getD i aw=ay):L.getD i ay=ay:=by rw[bH,aX hi]at h|-;exact h
noncomputable def Ld:Array Oper:=match xu with| .seq _ (.seq _ (.seq (.block _ (.seq _ (.region _ ops _))) _))=>ops|_=> #[]
structure DI (φ:Ph) (S:jK) (wp:ah) (b1 C Pb:Nat) (fv:ao) (p:Nat) (xs:List cQ) (ss:List Sys) (hp:p<ss.length) (H0:Nat->Prop) (ov:Prop) (j:Nat) (hj:j<xs.length) (rb gs:Nat) (sv Dd:ao) (L:Array Bool) (γ:Gh) (w:ah) (V:Nat->Prop) (jj:Nat) (cv pv sC rZ r6 px py pz pB pC pD pE pF pG pH pI pq pJ:ao):Prop where
 js:JS φ S wp b1 C Pb fv p xs ss[p] H0 ov jj γ w V cv pv
 sO:V rb
 box:dt w rb 50 (ints (xs[j]).list)
 Mi:L.getD 14 ay=ay->jj=j/\pv=sv
 LL:L.getD 14 ay=aw->jj=j+1/\pv=pq
 LN:L.getD 16 ay=ay->cv=sv
 xL:L.getD 16 ay=aw->cv=pq
 ya:L.getD 16 ay=aw->L.getD 5 ay=aw/\L.getD 14 ay=aw
 new:L.getD 13 ay=aw->L.getD 14 ay=ay-> ∃nb,pI=.slice (ae ⟨nb,0,ai⟩) 1 1/\V nb/\dt w nb 48 (ints (cD xs[j].b ss[p]).list)
 d0:L.getD 0 ay=aw->sC=(.slice (ae ⟨Pb,0,ai⟩) ss.length ss.length)
 d1:L.getD 1 ay=aw->rZ=(.int .i64 p)
 d2:L.getD 2 ay=aw->r6=(.slice (ae ⟨Pb,0,ai⟩) ss.length ss.length)
 d3:L.getD 3 ay=aw->px=(.int .i64 p)
 d4:L.getD 4 ay=aw->py=(.pointer (ae ⟨Pb,p,ai⟩))
 d5:L.getD 5 ay=aw->pz=sv
 d6:L.getD 6 ay=aw->pB=(.pointer (ae ⟨rb,2,ai⟩))
 d7:L.getD 7 ay=aw->pC=(.agg (ints xs[j].b.list))
 d8:L.getD 8 ay=aw->pD=Dd
 d9:L.getD 9 ay=aw->pE=(.int .i64 p)
 d10:L.getD 10 ay=aw->pF=(.pointer (ae ⟨gs,p *7,ai⟩))
 d11:L.getD 11 ay=aw->pG=(.agg (ints ss[p].list))
 d12:L.getD 12 ay=aw->pH=(.agg (ints (cD xs[j].b ss[p]).list))
 d15:L.getD 15 ay=aw->pJ=(.pointer (ae ⟨Pb,p,ai⟩))
section
variable {φ:Ph} {wp:ah} {bd:bK->List Tmp} {old:Nat} {B4 B7 B5 Pb b1 C p:Nat} {fv:ao} {xs:List cQ} {ss:List Sys} {p6 Dd:ao}
theorem Qr (O:φ.Ok)(hP:φ.P=aj)(bJ: ∀r,φ.oS r\/φ.CB r\/r=φ.Wg->r<wp.heap.size)(sa: ∀ad,φ.jl p ad↔ad=⟨Pb,p,ai⟩)(hR:BRd φ wp B4 B7 B5 Pb xs ss p6 Dd)(hp:p<ss.length){H0:Nat->Prop}{ov:Prop}{j:Nat}(hj:j<xs.length){rb:Nat}{sv x4 x5 LY JN JO BQ:ao}{cs:List bp}{k:List Item}{id:Nat}(K: ∀γ w V sC rZ r6 px py pz pB pC pD pE pF pG pH pI pq pJ sv',JS φ (cfg bd old).sig wp b1 C Pb fv p xs ss[p] H0 ov (j+1) γ w V sv' sv'->φ.WT γ (G ((base 92).at ⟨#[.int .i64 p,.pointer (ae ⟨B4,0,ai⟩),.pointer (ae ⟨B7,0,ai⟩),.pointer (ae ⟨B5,0,ai⟩),x4,x5,.pointer (ae ⟨rb,0,ai⟩),p6,.int .i64 xs.length,.int .i64 j,LY,JN,JO,sC,rZ,r6,px,py,pz,pB,pC,pD,pE,pF,pG,pH,pI,pq,pJ,BQ],[]⟩ k) cs) w)(γ:Gh)(w:ah)(V:Nat->Prop)(sC rZ r6 px py pz pB pC pD pE pF pG pH pI pq pJ:ao)(h:JS φ (cfg bd old).sig wp b1 C Pb fv p xs ss[p] H0 ov j γ w V sv sv)(sO:V rb)(hB:dt w rb 50 (ints (xs[j]).list))(eb: ∀r,sv.ownBlock=ae r->r<rb):φ.WT γ (G ((base 92).at ⟨#[.int .i64 p,.pointer (ae ⟨B4,0,ai⟩),.pointer (ae ⟨B7,0,ai⟩),.pointer (ae ⟨B5,0,ai⟩),x4,x5,.pointer (ae ⟨rb,0,ai⟩),p6,.int .i64 xs.length,.int .i64 j,LY,JN,JO,sC,rZ,r6,px,py,pz,pB,pC,pD,pE,pF,pG,pH,pI,pq,pJ,BQ],[]⟩ (.code (.region id Ld aw)::k)) cs) w:=by
 obtain⟨As,cS,hsv,agB⟩:=hR.sys;obtain⟨gs,rfl,ad8,agy⟩:=agB p hp;clear agB;subst hsv;have hpI:(p:Int)<ss.length:=by omega
 have agp:=hR.lens;have Kv:=(hR.okB xs[j] (bg hj)).2;have Ym:=(hR.okB xs[j] (bg hj)).1;have hse:=hR.okS ss[p] (bg hp);have hl9:(cD xs[j].b ss[p]).list.length=9:=by simp[aQ.list,fX,Kv]
 have ah9:xs[j].b.list.length=9:=by simp[aQ.list,Kv]
 refine Ph.WT.drawn O (by rw[hP];kernel_rfl) λn=> ?_
 unfold Region.linearise;have Ez:Ld.size=17:=by kernel_rfl
 have YC:NC Ld=aw:=by kernel_rfl
 simp only[Ld,xu,Tryz.f92]at Ez YC|-;refine Ph.WT.Xm (φ:=φ) (b:=base 92) (k:=k) (cs:=cs)
  (λL a w γ=>L.size=17/\ ∃(V:Nat->Prop) (jj:Nat) (cv pv sC rZ r6 px py pz pB pC pD pE pF pG pH pI pq pJ:ao),a=⟨#[.int .i64 p,.pointer (ae ⟨B4,0,ai⟩),.pointer (ae ⟨B7,0,ai⟩),.pointer (ae ⟨B5,0,ai⟩),x4,x5,.pointer (ae ⟨rb,0,ai⟩),p6,.int .i64 xs.length,.int .i64 j,LY,JN,JO,sC,rZ,r6,px,py,pz,pB,pC,pD,pE,pF,pG,pH,pI,pq,pJ,BQ],[]⟩/\DI φ (cfg bd old).sig wp b1 C Pb fv p xs ss hp H0 ov j hj rb gs sv (.slice (ae ⟨gs,0,ai⟩) ss.length cS) L γ w V jj cv pv sC rZ r6 px py pz pB pC pD pE pF pG pH pI pq pJ)
  ?_ ?_ _ _ _ _ _ _ (by simp) (bM List.countP_le_length (by simp)) ?_
 ·rintro L a w γ ⟨kJ,V,jj,cv,pv,sC,rZ,r6,px,py,pz,pB,pC,pD,pE,pF,pG,pH,pI,pq,pJ,rfl,h⟩ Uq;have xN:=Ht YC (kJ.trans Ez.symm) Uq;rw[Ez]at xN;have t14:L.getD 14 ay=aw:=by have:=xN 14 (by omega);rw[bH,aX (by omega)]at this|-;exact this
  have t16:L.getD 16 ay=aw:=by have:=xN 16 (by omega);rw[bH,aX (by omega)]at this|-;exact this
  have Wq:=h.js;rw[(h.LL t14).1,(h.LL t14).2,h.xL t16]at Wq;refine nB O ?_;exact K _ _ _ sC rZ r6 px py pz pB pC pD pE pF pG pH pI pq pJ _ Wq
 ·rintro L a w γ kJ ⟨-,V,jj,cv,pv,sC,rZ,r6,px,py,pz,pB,pC,pD,pE,pF,pG,pH,pI,pq,pJ,rfl,h⟩ i hi rest Kx;obtain⟨age,GI,vB⟩:=Vd hi;rw[Ez]at age;have hff:=abd (by rw[kJ,Ez];exact age:i<L.size) GI;have hLs:L.size=17:=kJ.trans Ez;have tG:(L.setIfInBounds i aw).size=17:=by simpa using hLs
  clear hi GI;rcases(by omega:i=0\/i=1\/i=2\/i=3\/i=4\/i=5\/i=6\/i=7\/i=8\/i=9\/i=10\/i=11\/i=12\/i=13\/i=14\/i=15\/i=16)with rfl|rfl|rfl|rfl|rfl|rfl|rfl|rfl|rfl|rfl|rfl|rfl|rfl|rfl|rfl|rfl|rfl
  ·have hc: ∀az,φ.e9 γ w az->az.cell? ⟨B7,0,ai⟩=ae (.slice (ae ⟨Pb,0,ai⟩) ss.length ss.length):=λaz dp=>(da ((dp.rd B7 hR.r7).trans (h.js.mb.rd B7 hR.r7))).trans hR.c7
   refine sB O (.slice (ae ⟨Pb,0,ai⟩) ss.length ss.length) (ad:=⟨B7,0,ai⟩) rfl rfl (by simp[base]) (.inr hR.r7) (λaz dp=>by have hc:=hc az dp;rw[hP];go_simp) (λaz dp e he=>by have hc:=hc az dp;rw[hP]at he;simp[go_sem, *]at he;exact he) ?_;refine Kx _ _ _ ⟨tG,V,jj,cv,pv,_,rZ,r6,px,py,pz,pB,pC,pD,pE,pF,pG,pH,pI,pq,pJ,rfl,⟨h.js,h.sO,h.box,λhh=>h.Mi (b9 hh),λhh=>h.LL (b9 hh),λhh=>h.LN (b9 hh),λhh=>h.xL (b9 hh),λhh=>⟨(fK (by decide)).trans (h.ya (b9 hh)).1,(fK (by decide)).trans (h.ya (b9 hh)).2⟩,λh1 h2=>h.new (b9 h1) (b9 h2),λ_=>rfl,λhh=>h.d1 (b9 hh),λhh=>h.d2 (b9 hh),λhh=>h.d3 (b9 hh),λhh=>h.d4 (b9 hh),λhh=>h.d5 (b9 hh),λhh=>h.d6 (b9 hh),λhh=>h.d7 (b9 hh),λhh=>h.d8 (b9 hh),λhh=>h.d9 (b9 hh),λhh=>h.d10 (b9 hh),λhh=>h.d11 (b9 hh),λhh=>h.d12 (b9 hh),λhh=>h.d15 (b9 hh)⟩⟩
  ·refine l7 O (.int .i64 p) rfl rfl (by simp[base]) (λw _=>by rw[hP];go_simp) (λw _=>by rw[hP];simp[go_sem, *]) ?_;refine Kx _ _ _ ⟨tG,V,jj,cv,pv,sC,_,r6,px,py,pz,pB,pC,pD,pE,pF,pG,pH,pI,pq,pJ,rfl,⟨h.js,h.sO,h.box,λhh=>h.Mi (b9 hh),λhh=>h.LL (b9 hh),λhh=>h.LN (b9 hh),λhh=>h.xL (b9 hh),λhh=>⟨(fK (by decide)).trans (h.ya (b9 hh)).1,(fK (by decide)).trans (h.ya (b9 hh)).2⟩,λh1 h2=>h.new (b9 h1) (b9 h2),λhh=>h.d0 (b9 hh),λ_=>rfl,λhh=>h.d2 (b9 hh),λhh=>h.d3 (b9 hh),λhh=>h.d4 (b9 hh),λhh=>h.d5 (b9 hh),λhh=>h.d6 (b9 hh),λhh=>h.d7 (b9 hh),λhh=>h.d8 (b9 hh),λhh=>h.d9 (b9 hh),λhh=>h.d10 (b9 hh),λhh=>h.d11 (b9 hh),λhh=>h.d12 (b9 hh),λhh=>h.d15 (b9 hh)⟩⟩
  ·have hc: ∀az,φ.e9 γ w az->az.cell? ⟨B7,0,ai⟩=ae (.slice (ae ⟨Pb,0,ai⟩) ss.length ss.length):=λaz dp=>(da ((dp.rd B7 hR.r7).trans (h.js.mb.rd B7 hR.r7))).trans hR.c7
   refine sB O (.slice (ae ⟨Pb,0,ai⟩) ss.length ss.length) (ad:=⟨B7,0,ai⟩) rfl rfl (by simp[base]) (.inr hR.r7) (λaz dp=>by have hc:=hc az dp;rw[hP];go_simp) (λaz dp e he=>by have hc:=hc az dp;rw[hP]at he;simp[go_sem, *]at he;exact he) ?_;refine Kx _ _ _ ⟨tG,V,jj,cv,pv,sC,rZ,_,px,py,pz,pB,pC,pD,pE,pF,pG,pH,pI,pq,pJ,rfl,⟨h.js,h.sO,h.box,λhh=>h.Mi (b9 hh),λhh=>h.LL (b9 hh),λhh=>h.LN (b9 hh),λhh=>h.xL (b9 hh),λhh=>⟨(fK (by decide)).trans (h.ya (b9 hh)).1,(fK (by decide)).trans (h.ya (b9 hh)).2⟩,λh1 h2=>h.new (b9 h1) (b9 h2),λhh=>h.d0 (b9 hh),λhh=>h.d1 (b9 hh),λ_=>rfl,λhh=>h.d3 (b9 hh),λhh=>h.d4 (b9 hh),λhh=>h.d5 (b9 hh),λhh=>h.d6 (b9 hh),λhh=>h.d7 (b9 hh),λhh=>h.d8 (b9 hh),λhh=>h.d9 (b9 hh),λhh=>h.d10 (b9 hh),λhh=>h.d11 (b9 hh),λhh=>h.d12 (b9 hh),λhh=>h.d15 (b9 hh)⟩⟩
  ·refine l7 O (.int .i64 p) rfl rfl (by simp[base]) (λw _=>by rw[hP];go_simp) (λw _=>by rw[hP];simp[go_sem, *]) ?_;refine Kx _ _ _ ⟨tG,V,jj,cv,pv,sC,rZ,r6,_,py,pz,pB,pC,pD,pE,pF,pG,pH,pI,pq,pJ,rfl,⟨h.js,h.sO,h.box,λhh=>h.Mi (b9 hh),λhh=>h.LL (b9 hh),λhh=>h.LN (b9 hh),λhh=>h.xL (b9 hh),λhh=>⟨(fK (by decide)).trans (h.ya (b9 hh)).1,(fK (by decide)).trans (h.ya (b9 hh)).2⟩,λh1 h2=>h.new (b9 h1) (b9 h2),λhh=>h.d0 (b9 hh),λhh=>h.d1 (b9 hh),λhh=>h.d2 (b9 hh),λ_=>rfl,λhh=>h.d4 (b9 hh),λhh=>h.d5 (b9 hh),λhh=>h.d6 (b9 hh),λhh=>h.d7 (b9 hh),λhh=>h.d8 (b9 hh),λhh=>h.d9 (b9 hh),λhh=>h.d10 (b9 hh),λhh=>h.d11 (b9 hh),λhh=>h.d12 (b9 hh),λhh=>h.d15 (b9 hh)⟩⟩
  ·obtain rfl:=h.d2 (vB _ rfl ⟨2,.data⟩ (by simp) rfl);obtain rfl:=h.d3 (vB _ rfl ⟨3,.data⟩ (by simp) rfl);refine l7 O (.pointer (ae ⟨Pb,p,ai⟩)) rfl rfl (by simp[base]) (λw _=>by rw[hP];go_simp) (λw _=>by rw[hP];simp[go_sem, *]) ?_;refine Kx _ _ _ ⟨tG,V,jj,cv,pv,sC,rZ,_,_,_,pz,pB,pC,pD,pE,pF,pG,pH,pI,pq,pJ,rfl,⟨h.js,h.sO,h.box,λhh=>h.Mi (b9 hh),λhh=>h.LL (b9 hh),λhh=>h.LN (b9 hh),λhh=>h.xL (b9 hh),λhh=>⟨(fK (by decide)).trans (h.ya (b9 hh)).1,(fK (by decide)).trans (h.ya (b9 hh)).2⟩,λh1 h2=>h.new (b9 h1) (b9 h2),λhh=>h.d0 (b9 hh),λhh=>h.d1 (b9 hh),λhh=>h.d2 (b9 hh),λhh=>h.d3 (b9 hh),λ_=>rfl,λhh=>h.d5 (b9 hh),λhh=>h.d6 (b9 hh),λhh=>h.d7 (b9 hh),λhh=>h.d8 (b9 hh),λhh=>h.d9 (b9 hh),λhh=>h.d10 (b9 hh),λhh=>h.d11 (b9 hh),λhh=>h.d12 (b9 hh),λhh=>h.d15 (b9 hh)⟩⟩
  ·obtain rfl:=h.d4 (vB _ rfl ⟨4,.data⟩ (by simp) rfl);have Ug:L.getD 16 ay=ay:=by
    cases Ug:L.getD 16 ay with
    |false=>rfl
    |true=>rw[(h.ya Ug).1]at hff;cases hff
   have hcv:=h.LN Ug;have hc: ∀az,φ.e9 γ w az->az.cell? ⟨Pb,p,ai⟩=ae sv:=λaz dp=>by rw[<-hcv];exact(h.js.rely O ((sa _).2 rfl) dp).cell
   refine .pure O sv rfl rfl (by simp[base]) (λaz dp=>by have hc:=hc az dp;rw[hP];go_simp) (λaz dp e he=>by have hc:=hc az dp;rw[hP]at he;simp[go_sem, *]at he;subst he;exact .inr ⟨rfl,Pb,rfl,.inr (.inl ⟨p,⟨Pb,p,ai⟩,h.js.mb.hp,(sa _).2 rfl,rfl⟩)⟩) ?_
   refine Kx _ _ _ ⟨tG,V,jj,cv,pv,sC,rZ,r6,px,_,_,pB,pC,pD,pE,pF,pG,pH,pI,pq,pJ,rfl,⟨h.js,h.sO,h.box,λhh=>h.Mi (b9 hh),λhh=>h.LL (b9 hh),λhh=>h.LN (b9 hh),λhh=>h.xL (b9 hh),λhh=>⟨Fv (by omega),(fK (by decide)).trans (h.ya (b9 hh)).2⟩,λh1 h2=>h.new (b9 h1) (b9 h2),λhh=>h.d0 (b9 hh),λhh=>h.d1 (b9 hh),λhh=>h.d2 (b9 hh),λhh=>h.d3 (b9 hh),λhh=>h.d4 (b9 hh),λ_=>rfl,λhh=>h.d6 (b9 hh),λhh=>h.d7 (b9 hh),λhh=>h.d8 (b9 hh),λhh=>h.d9 (b9 hh),λhh=>h.d10 (b9 hh),λhh=>h.d11 (b9 hh),λhh=>h.d12 (b9 hh),λhh=>h.d15 (b9 hh)⟩⟩
  ·refine l7 O (.pointer (ae ⟨rb,2,ai⟩)) rfl rfl (by simp[base]) (λw _=>by rw[hP];go_simp) (λw _=>by rw[hP];simp[go_sem, *]) ?_;refine Kx _ _ _ ⟨tG,V,jj,cv,pv,sC,rZ,r6,px,py,pz,_,pC,pD,pE,pF,pG,pH,pI,pq,pJ,rfl,⟨h.js,h.sO,h.box,λhh=>h.Mi (b9 hh),λhh=>h.LL (b9 hh),λhh=>h.LN (b9 hh),λhh=>h.xL (b9 hh),λhh=>⟨(fK (by decide)).trans (h.ya (b9 hh)).1,(fK (by decide)).trans (h.ya (b9 hh)).2⟩,λh1 h2=>h.new (b9 h1) (b9 h2),λhh=>h.d0 (b9 hh),λhh=>h.d1 (b9 hh),λhh=>h.d2 (b9 hh),λhh=>h.d3 (b9 hh),λhh=>h.d4 (b9 hh),λhh=>h.d5 (b9 hh),λ_=>rfl,λhh=>h.d7 (b9 hh),λhh=>h.d8 (b9 hh),λhh=>h.d9 (b9 hh),λhh=>h.d10 (b9 hh),λhh=>h.d11 (b9 hh),λhh=>h.d12 (b9 hh),λhh=>h.d15 (b9 hh)⟩⟩
  ·obtain rfl:=h.d6 (vB _ rfl ⟨6,.data⟩ (by simp) rfl);have hr: ∀az,φ.e9 γ w az->row? az rb 2 9=ae (ints xs[j].b.list):=λaz dp=>by rw[dt.eJ ((dp.own rb (h.js.mb.vo rb h.sO).1).trans h.box) 2 9 (by simp[cQ.list,ah9])];show ae (ints (xs[j].b.list.take 9))=_;rw[ck (by omega)]
   refine .pure O (.agg (ints xs[j].b.list)) rfl rfl (by simp[base]) (λaz dp=>by have hr:=hr az dp;rw[hP];go_simp) (λaz dp e he=>by rw[hP]at he;obtain⟨ad,rfl,uK⟩:=rh (P:=aj) (t:=48) (g:=rb) (o:=2) (n:=9) Tryz.underlying48 (by kernel_rfl) (yM (hr az dp)) e (by simpa[execOp,bX]using he);exact .inr ⟨rfl,ad.block,rfl,.inl (uK▸(h.js.mb.vo rb h.sO).1)⟩) ?_
   refine Kx _ _ _ ⟨tG,V,jj,cv,pv,sC,rZ,r6,px,py,pz,_,_,pD,pE,pF,pG,pH,pI,pq,pJ,rfl,⟨h.js,h.sO,h.box,λhh=>h.Mi (b9 hh),λhh=>h.LL (b9 hh),λhh=>h.LN (b9 hh),λhh=>h.xL (b9 hh),λhh=>⟨(fK (by decide)).trans (h.ya (b9 hh)).1,(fK (by decide)).trans (h.ya (b9 hh)).2⟩,λh1 h2=>h.new (b9 h1) (b9 h2),λhh=>h.d0 (b9 hh),λhh=>h.d1 (b9 hh),λhh=>h.d2 (b9 hh),λhh=>h.d3 (b9 hh),λhh=>h.d4 (b9 hh),λhh=>h.d5 (b9 hh),λhh=>h.d6 (b9 hh),λ_=>rfl,λhh=>h.d8 (b9 hh),λhh=>h.d9 (b9 hh),λhh=>h.d10 (b9 hh),λhh=>h.d11 (b9 hh),λhh=>h.d12 (b9 hh),λhh=>h.d15 (b9 hh)⟩⟩
  ·have hc: ∀az,φ.e9 γ w az->az.cell? ⟨B5,0,ai⟩=ae (.slice (ae ⟨gs,0,ai⟩) ss.length cS):=λaz dp=>(da ((dp.rd B5 hR.r5).trans (h.js.mb.rd B5 hR.r5))).trans hR.c5
   refine sB O (.slice (ae ⟨gs,0,ai⟩) ss.length cS) (ad:=⟨B5,0,ai⟩) rfl rfl (by simp[base]) (.inr hR.r5) (λaz dp=>by have hc:=hc az dp;rw[hP];go_simp) (λaz dp e he=>by have hc:=hc az dp;rw[hP]at he;simp[go_sem, *]at he;exact he) ?_;refine Kx _ _ _ ⟨tG,V,jj,cv,pv,sC,rZ,r6,px,py,pz,pB,pC,_,pE,pF,pG,pH,pI,pq,pJ,rfl,⟨h.js,h.sO,h.box,λhh=>h.Mi (b9 hh),λhh=>h.LL (b9 hh),λhh=>h.LN (b9 hh),λhh=>h.xL (b9 hh),λhh=>⟨(fK (by decide)).trans (h.ya (b9 hh)).1,(fK (by decide)).trans (h.ya (b9 hh)).2⟩,λh1 h2=>h.new (b9 h1) (b9 h2),λhh=>h.d0 (b9 hh),λhh=>h.d1 (b9 hh),λhh=>h.d2 (b9 hh),λhh=>h.d3 (b9 hh),λhh=>h.d4 (b9 hh),λhh=>h.d5 (b9 hh),λhh=>h.d6 (b9 hh),λhh=>h.d7 (b9 hh),λ_=>rfl,λhh=>h.d9 (b9 hh),λhh=>h.d10 (b9 hh),λhh=>h.d11 (b9 hh),λhh=>h.d12 (b9 hh),λhh=>h.d15 (b9 hh)⟩⟩
  ·refine l7 O (.int .i64 p) rfl rfl (by simp[base]) (λw _=>by rw[hP];go_simp) (λw _=>by rw[hP];simp[go_sem, *]) ?_;refine Kx _ _ _ ⟨tG,V,jj,cv,pv,sC,rZ,r6,px,py,pz,pB,pC,pD,_,pF,pG,pH,pI,pq,pJ,rfl,⟨h.js,h.sO,h.box,λhh=>h.Mi (b9 hh),λhh=>h.LL (b9 hh),λhh=>h.LN (b9 hh),λhh=>h.xL (b9 hh),λhh=>⟨(fK (by decide)).trans (h.ya (b9 hh)).1,(fK (by decide)).trans (h.ya (b9 hh)).2⟩,λh1 h2=>h.new (b9 h1) (b9 h2),λhh=>h.d0 (b9 hh),λhh=>h.d1 (b9 hh),λhh=>h.d2 (b9 hh),λhh=>h.d3 (b9 hh),λhh=>h.d4 (b9 hh),λhh=>h.d5 (b9 hh),λhh=>h.d6 (b9 hh),λhh=>h.d7 (b9 hh),λhh=>h.d8 (b9 hh),λ_=>rfl,λhh=>h.d10 (b9 hh),λhh=>h.d11 (b9 hh),λhh=>h.d12 (b9 hh),λhh=>h.d15 (b9 hh)⟩⟩
  ·obtain rfl:=h.d8 (vB _ rfl ⟨8,.data⟩ (by simp) rfl);obtain rfl:=h.d9 (vB _ rfl ⟨9,.data⟩ (by simp) rfl);refine l7 O (.pointer (ae ⟨gs,p *7,ai⟩)) rfl rfl (by simp[base]) (λw _=>by rw[hP];go_simp) (λw _=>by rw[hP];simp[go_sem, *]) ?_;refine Kx _ _ _ ⟨tG,V,jj,cv,pv,sC,rZ,r6,px,py,pz,pB,pC,_,_,_,pG,pH,pI,pq,pJ,rfl,⟨h.js,h.sO,h.box,λhh=>h.Mi (b9 hh),λhh=>h.LL (b9 hh),λhh=>h.LN (b9 hh),λhh=>h.xL (b9 hh),λhh=>⟨(fK (by decide)).trans (h.ya (b9 hh)).1,(fK (by decide)).trans (h.ya (b9 hh)).2⟩,λh1 h2=>h.new (b9 h1) (b9 h2),λhh=>h.d0 (b9 hh),λhh=>h.d1 (b9 hh),λhh=>h.d2 (b9 hh),λhh=>h.d3 (b9 hh),λhh=>h.d4 (b9 hh),λhh=>h.d5 (b9 hh),λhh=>h.d6 (b9 hh),λhh=>h.d7 (b9 hh),λhh=>h.d8 (b9 hh),λhh=>h.d9 (b9 hh),λ_=>rfl,λhh=>h.d11 (b9 hh),λhh=>h.d12 (b9 hh),λhh=>h.d15 (b9 hh)⟩⟩
  ·obtain rfl:=h.d10 (vB _ rfl ⟨10,.data⟩ (by simp) rfl);have hr: ∀az,φ.e9 γ w az->row? az gs (p *7) 7=ae (ints ss[p].list):=λaz dp=>(xE ((dp.rd gs ad8).trans (h.js.mb.rd gs ad8)) _ _).trans agy
   refine .pure O (.agg (ints ss[p].list)) rfl rfl (by simp[base]) (λaz dp=>by have hr:=hr az dp;rw[hP];go_simp) (λaz dp e he=>by rw[hP]at he;obtain⟨ad,rfl,uK⟩:=rh (P:=aj) (t:=54) (g:=gs) (o:=p *7) (n:=7) Tryz.underlying54 (by kernel_rfl) (yM (hr az dp)) e (by simpa[execOp,bX]using he);exact .inr ⟨rfl,ad.block,rfl,.inr (.inr ⟨rfl,uK▸ad8⟩)⟩) ?_
   refine Kx _ _ _ ⟨tG,V,jj,cv,pv,sC,rZ,r6,px,py,pz,pB,pC,pD,pE,_,_,pH,pI,pq,pJ,rfl,⟨h.js,h.sO,h.box,λhh=>h.Mi (b9 hh),λhh=>h.LL (b9 hh),λhh=>h.LN (b9 hh),λhh=>h.xL (b9 hh),λhh=>⟨(fK (by decide)).trans (h.ya (b9 hh)).1,(fK (by decide)).trans (h.ya (b9 hh)).2⟩,λh1 h2=>h.new (b9 h1) (b9 h2),λhh=>h.d0 (b9 hh),λhh=>h.d1 (b9 hh),λhh=>h.d2 (b9 hh),λhh=>h.d3 (b9 hh),λhh=>h.d4 (b9 hh),λhh=>h.d5 (b9 hh),λhh=>h.d6 (b9 hh),λhh=>h.d7 (b9 hh),λhh=>h.d8 (b9 hh),λhh=>h.d9 (b9 hh),λhh=>h.d10 (b9 hh),λ_=>rfl,λhh=>h.d12 (b9 hh),λhh=>h.d15 (b9 hh)⟩⟩
  ·obtain rfl:=h.d7 (vB _ rfl ⟨7,.data⟩ (by simp) rfl);obtain rfl:=h.d11 (vB _ rfl ⟨11,.data⟩ (by simp) rfl);have ahI:φ.P.funcs[39]? =ae Tryz.f39:=by rw[hP];exact Tryz.func39
   have aii:=h.js.mb.size;have ah2:(cfg bd old).fn 39=aw:=by show xV.contains (39)=aw;decide+kernel
   have wm: ∀tp d,Calls aj 39 #[.agg (ints xs[j].b.list),.agg (ints ss[p].list)] (dH w tp d) (λe _=>e=.returned (.agg (ints (cD xs[j].b ss[p]).list))):=λtp d=>(XI xs[j].b ss[p] Kv Ym hse (dH w tp d)).mono λe w' h=>h.1
   refine Ph.WT.agL O (c:=cfg bd old) (f:=39) (R:=λe _=>e=.returned (.agg (ints (cD xs[j].b ss[p]).list))) (St:=γ.own) (by rw[hP];exact Mt bd old) rfl rfl (by simp[base]) rfl ah2 rfl ahI rfl rfl (λv hv=>by
    simp[bX]at hv;rcases hv with rfl|rfl<;>exact λπ=>BM _) (h.js.mb.vh.oE) (λtp d=>by
    rw[hP];walk_nrm;exact wm tp d) (λe L h=>⟨_,h,E1 _ λx hx=>by simp[ints]at hx;obtain⟨n,_,rfl⟩:=hx;exact⟨_,_,rfl⟩⟩)
    (λr hr=>(h.js.mb.cb r hr).1) (λr hr=>by have:=bJ r (.inr (.inl hr));omega) (λr hr=>⟨by have:=bJ r (.inl hr);omega,λho=>(h.js.mb.cb r ho).2.1 hr⟩) (λr hr=>⟨hr,(h.js.mb.cb r hr).2.2.2⟩) ⟨by have:=bJ φ.Wg (.inr (.inr rfl));omega,λho=>(h.js.mb.cb _ ho).2.2.1 rfl⟩ ?_
   intro v Lw γ' w' hr h1 h2 h2' h3 hk;injection hr with hr
   subst hr;refine Kx _ _ _ ⟨tG,V,jj,cv,pv,sC,rZ,r6,px,py,pz,pB,_,pD,pE,pF,_,_,pI,pq,pJ,rfl,⟨h.js.lone O ((sa _).2 rfl) bJ h1 h2 h2' h3 hk,h.sO,(hk.st rb (h.js.mb.vo rb h.sO).1).trans h.box,λhh=>h.Mi (b9 hh),λhh=>h.LL (b9 hh),λhh=>h.LN (b9 hh),λhh=>h.xL (b9 hh),λhh=>⟨(fK (by decide)).trans (h.ya (b9 hh)).1,(fK (by decide)).trans (h.ya (b9 hh)).2⟩,λh1 h2=>let⟨nb,e1,e2,e3⟩:=h.new (b9 h1) (b9 h2);⟨nb,e1,e2,(hk.st nb (h.js.mb.vo nb e2).1).trans e3⟩,λhh=>h.d0 (b9 hh),λhh=>h.d1 (b9 hh),λhh=>h.d2 (b9 hh),λhh=>h.d3 (b9 hh),λhh=>h.d4 (b9 hh),λhh=>h.d5 (b9 hh),λhh=>h.d6 (b9 hh),λhh=>h.d7 (b9 hh),λhh=>h.d8 (b9 hh),λhh=>h.d9 (b9 hh),λhh=>h.d10 (b9 hh),λhh=>h.d11 (b9 hh),λ_=>rfl,λhh=>h.d15 (b9 hh)⟩⟩
  ·obtain rfl:=h.d12 (vB _ rfl ⟨12,.data⟩ (by simp) rfl);have Ut: ∀r,φ.CB r->r<w.heap.size:=λr hr=>by have:=bJ r (.inr (.inl hr));have:=h.js.mb.size;omega
   refine RF (c:=cU bd old [25]) (V:=V) (by rw[hP];exact Dg bd old [25]) (λr hr=>(h.js.mb.vo r hr).1) (λr hr=>(h.js.mb.cb r hr).1) Ut h.js.mb.vh rfl rfl (by simp[base]) (by kernel_rfl) (Ki (U:=[25]) rfl (by simp) (λt ht=>by
    simp only[cj,jH,or_false]at ht;subst ht;exact BM _))
    (λaz v w'=>v=.slice (ae ⟨az.heap.size,0,ai⟩) 1 1/\w'=az.alloc (.cells (ints (cD xs[j].b ss[p]).list) 48)) (λaz dp=>⟨_,_,by
      rw[hP];have hb:=Bv az (ints (cD xs[j].b ss[p]).list) (by simp[ints,hl9]);simp[execOp,bX,hb]
      rfl,rfl,rfl⟩) ?_
   rintro az v w' V' dp ⟨rfl,rfl⟩ k1 k2 k3 k6 k4 k5;have hpv:=KV (h.js.rely O ((sa _).2 rfl) dp).own;have hbx:dt az rb 50 (ints (xs[j]).list):=(dp.own rb (h.js.mb.vo rb h.sO).1).trans h.box;refine Kx _ _ _ ⟨tG,V',jj,cv,pv,sC,rZ,r6,px,py,pz,pB,pC,pD,pE,pF,pG,_,_,pq,pJ,rfl,⟨(h.js.rely O ((sa _).2 rfl) dp).val O ((sa _).2 rfl) bJ k1 k2 k3 k4 k5 (λr hr=>Below.heap_alloc az _ r (hpv r hr)),k1 rb h.sO,(Below.heap_alloc az _ rb hbx.lt).trans hbx,λhh=>h.Mi (b9 hh),λhh=>h.LL (b9 hh),λhh=>h.LN (b9 hh),λhh=>h.xL (b9 hh),λhh=>⟨(fK (by decide)).trans (h.ya (b9 hh)).1,(fK (by decide)).trans (h.ya (b9 hh)).2⟩,λ_ _=>⟨az.heap.size,rfl,FE k6,dt.new az _ _⟩,λhh=>h.d0 (b9 hh),λhh=>h.d1 (b9 hh),λhh=>h.d2 (b9 hh),λhh=>h.d3 (b9 hh),λhh=>h.d4 (b9 hh),λhh=>h.d5 (b9 hh),λhh=>h.d6 (b9 hh),λhh=>h.d7 (b9 hh),λhh=>h.d8 (b9 hh),λhh=>h.d9 (b9 hh),λhh=>h.d10 (b9 hh),λhh=>h.d11 (b9 hh),λhh=>h.d12 (b9 hh),λhh=>h.d15 (b9 hh)⟩⟩
  ·have e18:=h.d5 (vB _ rfl ⟨5,.data⟩ (by simp) rfl);obtain⟨nb,e26,afX,ahH⟩:=h.new (vB _ rfl ⟨13,.data⟩ (by simp) rfl) hff;subst e18 e26;obtain⟨e1,e2⟩:=h.Mi hff;have e1:=e1.symm;subst e1 e2;have Ut: ∀r,φ.CB r->r<w.heap.size:=λr hr=>by have:=bJ r (.inr (.inl hr));have:=h.js.mb.size;omega
   obtain⟨i0,qE,uM,sX,tH⟩:=info_parts zh;refine RF (c:=cU bd old [18,26]) (V:=V) (by rw[hP];exact Dg bd old [18,26]) (λr hr=>(h.js.mb.vo r hr).1) (λr hr=>(h.js.mb.cb r hr).1) Ut h.js.mb.vh rfl rfl (by simp[base]) (by kernel_rfl) (Ki (U:=[18,26]) rfl (by simp) (λt ht=>by
    simp only[cj,jH,or_false]at ht;rcases ht with rfl|rfl
    ·exact h.js.rel
    ·exact .slice _ _ ⟨⟨rfl,afX⟩,rfl,rfl⟩))
    (λaz v w'=>w'.ownsRow 0 48 9 v (j+1) ((xs.take j).flatMap (λr=>PE (cD r.b ss[p]))++(ints (cD xs[j].b ss[p]).list).toList)/\az.grownBy w' pv.ownBlock) (λaz dp=> ?_) ?_
   ·have Us:=(h.js.rely O ((sa _).2 rfl) dp).own;have hsr:az.ownsRow 0 48 9 (.slice (ae ⟨nb,0,ai⟩) 1 1) 1 (ints (cD xs[j].b ss[p]).list).toList:=⟨by simp[ints,hl9],.inr ⟨nb,1,_,rfl,cE _,(dp.own nb (h.js.mb.vo nb afX).1).trans ahH,ax _,by unfold maxLen;omega,by simp[ints,hl9],by rw[ck];simp[ints,hl9]⟩⟩;obtain⟨v',w',hr,h2,h3,_⟩:=wQ (P:=aj) (w:=az) 100 100 48 i0 _ 9 72 Tryz.underlying100 qE uM sX tH rfl (by decide) Us hsr (λx hx=>by simp[ints]at hx;obtain⟨n,_,rfl⟩:=hx;rfl) (by unfold maxLen;have:=hR.len;omega) (by have:=hR.len;omega);refine⟨v',w',?_,h2,h3⟩;rw[hP];simp[execOp,resolve,invoke,builtin,bX,hr]
   ·rintro az v w' V' dp ⟨q1,q2⟩ k1 k2 k3 k6 k4 k5;have Ky:=h.js.rely O ((sa _).2 rfl) dp;have hbx:dt az rb 50 (ints (xs[j]).list):=(dp.own rb (h.js.mb.vo rb h.sO).1).trans h.box;have M4:=O.nw p ⟨Pb,p,ai⟩ ((sa _).2 rfl);have Wq:JS φ (cfg bd old).sig wp b1 C Pb fv p xs ss[p] H0 ov (j+1) (γ.grow az w') w' V' cv v:=by refine⟨Ky.mb.val O bJ k1 k2 k3 k4 k5,h.js.held,h.js.over,(da (k4 Pb (by have:=bJ Pb (.inr (.inl M4));have:=Ky.mb.size;omega) λhv=>(Ky.mb.cb Pb (Ky.mb.vo Pb hv).1).1 M4)).trans Ky.cell,k6,?_⟩;rw[bh hj,dG];simpa[PE,ints]using q1
    refine Kx _ _ _ ⟨tG,V',(j+1),cv,v,sC,rZ,r6,px,py,_,pB,pC,pD,pE,pF,pG,pH,_,_,pJ,rfl,⟨Wq,k1 rb h.sO,(q2.block rb hbx.lt λe=>by have:=eb rb e.symm;omega).trans hbx,(λhh=>by rw[Fv (by omega)]at hh;cases hh),λ_=>⟨rfl,rfl⟩,λhh=>h.LN (b9 hh),(λhh=>by have:=(h.ya (b9 hh)).2;rw[hff]at this;cases this),λhh=>⟨(fK (by decide)).trans (h.ya (b9 hh)).1,Fv (by omega)⟩,(λ_ h2=>by rw[Fv (by omega)]at h2;cases h2),λhh=>h.d0 (b9 hh),λhh=>h.d1 (b9 hh),λhh=>h.d2 (b9 hh),λhh=>h.d3 (b9 hh),λhh=>h.d4 (b9 hh),λhh=>h.d5 (b9 hh),λhh=>h.d6 (b9 hh),λhh=>h.d7 (b9 hh),λhh=>h.d8 (b9 hh),λhh=>h.d9 (b9 hh),λhh=>h.d10 (b9 hh),λhh=>h.d11 (b9 hh),λhh=>h.d12 (b9 hh),λhh=>h.d15 (b9 hh)⟩⟩
  ·obtain rfl:=h.d0 (vB _ rfl ⟨0,.data⟩ (by simp) rfl);obtain rfl:=h.d1 (vB _ rfl ⟨1,.data⟩ (by simp) rfl);refine l7 O (.pointer (ae ⟨Pb,p,ai⟩)) rfl rfl (by simp[base]) (λw _=>by rw[hP];go_simp) (λw _=>by rw[hP];simp[go_sem, *]) ?_;refine Kx _ _ _ ⟨tG,V,jj,cv,pv,_,_,r6,px,py,pz,pB,pC,pD,pE,pF,pG,pH,pI,pq,_,rfl,⟨h.js,h.sO,h.box,λhh=>h.Mi (b9 hh),λhh=>h.LL (b9 hh),λhh=>h.LN (b9 hh),λhh=>h.xL (b9 hh),λhh=>⟨(fK (by decide)).trans (h.ya (b9 hh)).1,(fK (by decide)).trans (h.ya (b9 hh)).2⟩,λh1 h2=>h.new (b9 h1) (b9 h2),λhh=>h.d0 (b9 hh),λhh=>h.d1 (b9 hh),λhh=>h.d2 (b9 hh),λhh=>h.d3 (b9 hh),λhh=>h.d4 (b9 hh),λhh=>h.d5 (b9 hh),λhh=>h.d6 (b9 hh),λhh=>h.d7 (b9 hh),λhh=>h.d8 (b9 hh),λhh=>h.d9 (b9 hh),λhh=>h.d10 (b9 hh),λhh=>h.d11 (b9 hh),λhh=>h.d12 (b9 hh),λ_=>rfl⟩⟩
  ·obtain rfl:=h.d15 (vB _ rfl ⟨15,.data⟩ (by simp) rfl);obtain⟨e1,e2⟩:=h.LL (vB _ rfl ⟨14,.data⟩ (by simp) rfl);subst e1 e2;have t5:=vB _ rfl ⟨5,.phase⟩ (by simp) rfl;have t14:=vB _ rfl ⟨14,.data⟩ (by simp) rfl;have hcv:=h.LN hff;subst hcv;obtain⟨A',c',hpv,_⟩:=cM h.js.own;have M4:=O.nw p ⟨Pb,p,ai⟩ ((sa _).2 rfl);have hfz: ∀az,φ.e9 γ w az->az.cell? ⟨Pb,p,ai⟩=ae cv/\az.frozen? ⟨Pb,p,ai⟩=ay:=λaz dp=>by have Ky:=h.js.rely O ((sa _).2 rfl) dp;refine⟨Ky.cell,?_⟩;exact Km ((Ky.mb.pay Pb M4).trans hR.pb) p
   refine .opN (λaz=>az.setCell ⟨Pb,p,ai⟩ pv) rfl rfl (by simp[base]) (λaz dp=>by
    obtain⟨hc,hz⟩:=hfz az dp;subst hpv;rw[hP];go_simp) (λaz dp=>Ue M4 (λad Um=>((sa ad).1 Um).symm▸rfl) h.js.mb.hp ((sa _).2 rfl) (λe he=>by
    obtain⟨hc,hz⟩:=hfz az dp;subst hpv;rw[hP]at he;simp[go_sem, *]at he;rw[events_store _ _ _ _ _ _ rfl]at he;simp[storedEv,hc,hz]at he;exact he)) ?_
   intro az dp;rw[Gh.IM γ (by simp)];have Ky:=h.js.rely O ((sa _).2 rfl) dp;have hbx:dt az rb 50 (ints (xs[j]).list):=(dp.own rb (h.js.mb.vo rb h.sO).1).trans h.box;have sM:(az.setCell ⟨Pb,p,ai⟩ pv).cell? ⟨Pb,p,ai⟩=ae pv:=XA (hfz az dp).1 pv;have Wq:JS φ (cfg bd old).sig wp b1 C Pb fv p xs ss[p] H0 ov (j+1) γ (az.setCell ⟨Pb,p,ai⟩ pv) V pv pv:=⟨Ky.mb.aaY O M4 ((sa _).2 rfl) pv,h.js.held,h.js.over,sM,Ky.rel,xC Ky.rel Ky.own λr hr=>Below.heap_setCell az _ _ r λe=>(Ky.mb.cb r (Ky.mb.vo r hr).1).1 (e▸M4)⟩
   refine Kx _ _ _ ⟨tG,V,(j+1),pv,pv,sC,rZ,r6,px,py,pz,pB,pC,pD,pE,pF,pG,pH,pI,pv,_,rfl,⟨Wq,h.sO,(Below.heap_setCell az _ _ rb λe=>(Ky.mb.cb rb (Ky.mb.vo rb h.sO).1).1 (e▸M4)).trans hbx,λhh=>h.Mi (b9 hh),λhh=>⟨rfl,rfl⟩,(λhh=>by rw[Fv (by omega)]at hh;cases hh),λ_=>rfl,λ_=>⟨(fK (by decide)).trans t5,(fK (by decide)).trans t14⟩,(λ_ h2=>by rw[un (by decide) h2]at t14;cases t14),λhh=>h.d0 (b9 hh),λhh=>h.d1 (b9 hh),λhh=>h.d2 (b9 hh),λhh=>h.d3 (b9 hh),λhh=>h.d4 (b9 hh),λhh=>h.d5 (b9 hh),λhh=>h.d6 (b9 hh),λhh=>h.d7 (b9 hh),λhh=>h.d8 (b9 hh),λhh=>h.d9 (b9 hh),λhh=>h.d10 (b9 hh),λhh=>h.d11 (b9 hh),λhh=>h.d12 (b9 hh),λhh=>h.d15 (b9 hh)⟩⟩
 ·refine⟨by simp,V,j,sv,sv,sC,rZ,r6,px,py,pz,pB,pC,pD,pE,pF,pG,pH,pI,pq,pJ,rfl,h,sO,hB,λ_=>⟨rfl,rfl⟩,?_,λ_=>rfl,?_,?_,?_,?_,?_,?_,?_,?_,?_,?_,?_,?_,?_,?_,?_,?_,?_⟩
  all_goals intro hh;simp[Ez]at hh
end
section
variable {φ:Ph} {wp:ah} {bd:bK->List Tmp} {old:Nat} {B4 B7 B5 Pb b1 C p:Nat} {fv:ao} {xs:List cQ} {ss:List Sys} {p6 Dd:ao}
def YY (O:φ.Ok)(hP:φ.P=aj)(bJ: ∀r,φ.oS r\/φ.CB r\/r=φ.Wg->r<wp.heap.size)(agi: ∀ad,φ.jl p ad↔ad=⟨Pb,p,ai⟩)(hR:BRd φ wp B4 B7 B5 Pb xs ss p6 Dd)(hp:p<ss.length){H0:Nat->Prop}{ov:Prop}{b:bp}{a:Act}{k:List Item}{cs:List bp}{ops:Array Oper}{i:Nat}{rest:List Nat}(K: ∀γ w V sv,JS φ (cfg bd old).sig wp b1 C Pb fv p xs ss[p] H0 ov xs.length γ w V sv sv->φ.WT γ (G (b.at (a.put ((ops[i]?).bind (·.dst)) (.tuple #[])) (.inRegion ops rest::k)) cs) w): ∀(m j:Nat) (γ:Gh) (w:ah) (V:Nat->Prop) (sv x4 x5 x6 LY JN JO sC rZ r6 px py pz pB pC pD pE pF pG pH pI pq pJ BQ:ao),j+m=xs.length->JS φ (cfg bd old).sig wp b1 C Pb fv p xs ss[p] H0 ov j γ w V sv sv->φ.WT γ (G ((base 92).at ⟨#[.int .i64 p,.pointer (ae ⟨B4,0,ai⟩),.pointer (ae ⟨B7,0,ai⟩),.pointer (ae ⟨B5,0,ai⟩),x4,x5,x6,p6,.int .i64 xs.length,.int .i64 j,LY,JN,JO,sC,rZ,r6,px,py,pz,pB,pC,pD,pE,pF,pG,pH,pI,pq,pJ,BQ],[]⟩ [.code xu,.inLoop xu,.inBlock 0]) (b.at a (.inRegion ops (i::rest)::k)::cs)) w:=by
 have Yo:φ.P.funcs[92]? =ae Tryz.f92:=by rw[hP];exact Tryz.func92
 have hlen:=hR.len;have sa:φ.jl p ⟨Pb,p,ai⟩:=(agi _).2 rfl;intro m
 induction m with
 |zero=>
  intro j γ w V sv x4 x5 x6 LY JN JO sC rZ r6 px py pz pB pC pD pE pF pG pH pI pq pJ BQ hj h;obtain rfl:j=xs.length:=by omega
  simp only[xu,Tryz.f92];refine mP O ?_;refine iG O ?_;simp only[aV,aD,aP,Nat.reduceAdd,bS,bP,cu];refine l7 O (.bool ay) rfl rfl (by simp[base]) (λw _=>by go_simp) (λw _=>by simp[go_sem, *]) ?_;walk_nrm;refine nB O ?_;refine mP O ?_;refine FK O rfl ?_;refine Tv O rfl ?_;refine Ly O ?_;refine .leave0 O rfl rfl Yo rfl ?_;exact K _ _ _ _ h
 |succ m ih=>
  intro j γ w V sv x4 x5 x6 LY JN JO sC rZ r6 px py pz pB pC pD pE pF pG pH pI pq pJ BQ hj h;have Yt:j<xs.length:=by omega
  have hjI:(j:Int)<xs.length:=by omega
  obtain⟨A,c,hrv,YN⟩:=hR.rows;obtain⟨g,rfl,hgR,fg⟩:=YN j Yt;clear YN;subst hrv;simp only[xu,Tryz.f92];refine mP O ?_;refine iG O ?_;simp only[aV,aD,aP,Nat.reduceAdd,bS,bP,cu];refine l7 O (.bool aw) rfl rfl (by simp[base]) (λw _=>by go_simp) (λw _=>by simp[go_sem, *]) ?_;walk_nrm;refine nB O ?_;refine mP O ?_;refine O3 O rfl ?_;refine LA O ?_;refine mP O ?_;refine Ao O ?_;refine mP O ?_;refine iG O ?_;simp only[aV,aD,aP,Nat.reduceAdd,bS,bP,cu];refine l7 O (.pointer (ae ⟨g,j *11,ai⟩)) rfl rfl (by simp[base]) (λw _=>by rw[hP];go_simp) (λw _=>by rw[hP];simp[go_sem, *]) ?_;walk_nrm;have YL: ∀az,φ.e9 γ w az->row? az g (j *11) 11=ae (ints xs[j].list):=λaz dp=>(xE ((dp.rd g hgR).trans (h.mb.rd g hgR)) _ _).trans fg
  refine .pure O (.agg (ints xs[j].list)) rfl rfl (by simp[base]) (λaz dp=>by have hr:=YL az dp;rw[hP];go_simp) (λaz dp e he=>by rw[hP]at he;obtain⟨ad,rfl,uK⟩:=rh (P:=aj) (t:=50) (g:=g) (o:=j *11) (n:=11) Tryz.underlying50 (by kernel_rfl) (yM (YL az dp)) e (by simpa[execOp,bX]using he);exact .inr ⟨rfl,ad.block,rfl,.inr (.inr ⟨rfl,uK▸hgR⟩)⟩) ?_
  clear YL;walk_nrm;refine RF (c:=cU bd old []) (V:=V) (by rw[hP];exact Dg bd old []) (λr hr=>(h.mb.vo r hr).1) (λr hr=>(h.mb.cb r hr).1) (λr hr=>by have:=bJ r (.inr (.inl hr));have:=h.mb.size;omega) h.mb.vh rfl rfl (by simp[base]) rfl (Ki (U:=[]) rfl (by simp) (by simp)) (λaz v w'=>v=.pointer (ae ⟨az.heap.size,0,ai⟩)/\w'=az.alloc (.cells (ints [0,0,0,0,0,0,0,0,0,0,0]) 50)) (λaz dp=>⟨_,_,by rw[hP];go_simp;rfl,rfl,rfl⟩) ?_
  rintro az v w' V' dp ⟨rfl,rfl⟩ k1 k2 k3 k6 k4 k5;have eb: ∀r,sv.ownBlock=ae r->r<az.heap.size:=KV (h.rely O sa dp).own;have hB:=dt.new az 50 (ints [0,0,0,0,0,0,0,0,0,0,0])
  replace h:=(h.rely O sa dp).val O sa bJ k1 k2 k3 k4 k5 (λr hr=>Below.heap_alloc az _ r (eb r hr))
  have P9:V' az.heap.size:=by
   cases k6 with
   |pointer ha=>exact ha.block.2
  clear k1 k2 k3 k4 k5 k6 dp;generalize az.alloc (.cells (ints [0,0,0,0,0,0,0,0,0,0,0]) 50)=w2 at *;generalize az.heap.size=rb at *;generalize γ.grow az w2=γ2 at *;clear az w V;walk_nrm;have Yz:(xs[j]).list.length=11:=by have:=(hR.okB xs[j] (bg Yt)).2;simp[cQ.list,aQ.list,this]
  have Ut: ∀r,φ.CB r->r<w2.heap.size:=λr hr=>by have:=bJ r (.inr (.inl hr));have:=h.mb.size;omega
  refine acL (c:=cU bd old [6,12]) (V:=V') (by rw[hP];exact Dg bd old [6,12]) (λr hr=>(h.mb.vo r hr).1) (λr hr=>(h.mb.cb r hr).1) Ut h.mb.vh rfl rfl (by simp[base]) rfl (Ki (U:=[6,12]) rfl (by simp) (λt ht=>by
   simp only[cj,jH,or_false]at ht;rcases ht with rfl|rfl
   ·exact .pointer ⟨⟨rfl,P9⟩,rfl,rfl⟩
   ·exact BM _))
   (λaz=>putRow az rb 0 (xs[j]).list) (λaz dp=>by have hf:fits az rb 0 11=aw:=Xw ((dp.own rb (h.mb.vo rb P9).1).trans hB) 11 (by simp[ints]);rw[hP];go_simp) ?_
  intro az V2 dp k1 k2 k3 k4 k5;have Eo:dt az rb 50 (ints [0,0,0,0,0,0,0,0,0,0,0]):=(dp.own rb (h.mb.vo rb P9).1).trans hB;have hB2:dt (putRow az rb 0 (xs[j]).list) rb 50 (ints (xs[j]).list):=Eo.eU _ Yz
  replace h:=(h.rely O sa dp).val O sa bJ k1 k2 k3 k4 k5 (λr hr=>fz az rb 0 _ r (λe=>by have:=eb r hr;omega))
  replace P9:=k1 rb P9
  clear k1 k2 k3 k4 k5 hB Eo dp Ut;generalize putRow az rb 0 (xs[j]).list=w3 at *;generalize γ2.grow az w3=γ3 at *;clear az w2 V' γ2;walk_nrm;refine nB O ?_;refine Qr O hP bJ agi hR hp Yt ?_ γ3 w3 V2 _ _ _ _ _ _ _ _ _ _ _ _ _ _ _ _ h P9 hB2 eb;clear eb hB2 P9 h;intro γ w V sC rZ r6 px py pz pB pC pD pE pF pG pH pI pq pJ sv' h;refine FL O ?_;refine iG O ?_;simp only[aV,aD,aP,Nat.reduceAdd,bS,bP,cu];have CW:IntKind.i64.wrap ((j:Int)+1)=(j:Int)+1:=IntWalk.i64_in _ (by omega);refine l7 O (.int .i64 ((j+1:Nat):Int)) rfl rfl (by simp[base]) (λw _=>by rw[hP];go_simp) (λw _=>by rw[hP];simp[go_sem, *]) ?_;walk_nrm;refine l7 O (.int .i64 ((j+1:Nat):Int)) rfl rfl (by simp[base]) (λw _=>by rw[hP];go_simp) (λw _=>by rw[hP];simp[go_sem, *]) ?_;walk_nrm;refine nB O ?_;refine JM O ?_;exact ih (j+1) γ w V sv' _ _ _ _ _ _ _ _ _ _ _ _ _ _ _ _ _ _ _ _ _ _ _ (by omega) h
end
section
variable {φ:Ph} {wp:ah} {bd:bK->List Tmp} {old:Nat} {B4 B7 B5 Pb:Nat} {xs:List cQ} {ss:List Sys} {p6 Dd:ao}
theorem aeo (O:φ.Ok)(hP:φ.P=aj)(hnj:φ.nj=ss.length)(Yu: ∀p,φ.jv p=.int .i64 p)(sa:φ.jl=(tf (cfg bd old).sig Pb xs ss).jl)(hJ0:φ.J0=(tf (cfg bd old).sig Pb xs ss).J0)(hJP:φ.JP=(tf (cfg bd old).sig Pb xs ss).JP)(hg:Tryz.prog.globals.size<=wp.heap.size)(bJ: ∀r,φ.oS r\/φ.CB r\/r=φ.Wg->r<wp.heap.size)(hR:BRd φ wp B4 B7 B5 Pb xs ss p6 Dd):DT φ wp 92 #[.pointer (ae ⟨B4,0,ai⟩),.pointer (ae ⟨B7,0,ai⟩),.pointer (ae ⟨B5,0,ai⟩)]:=by
 intro b1 C fv γ w p h hp hnp P';have Yo:φ.P.funcs[92]? =ae Tryz.f92:=by rw[hP];exact Tryz.func92
 refine⟨_,_,Yo,rfl,rfl,?_⟩;intro b a k cs ops i rest hb K;have Nd:p<ss.length:=hnj▸hp;have kP:w.cell? ⟨Pb,p,ai⟩=ae (.slice ai 0 0):=by rw[hJ0]at P';exact P'
 have Yt: ∀ad,φ.jl p ad↔ad=⟨Pb,p,ai⟩:=λad=>by rw[sa];exact Iff.rfl
 have hm:=MB.start (p:=p) (S:=(cfg bd old).sig) (λ_=>rfl) (by rw[hP];exact hg) h hnp O;have Wq:JS φ (cfg bd old).sig wp b1 C Pb fv p xs ss[p] (λq=>γ.held q\/q=p) γ.over 0 (γ.hold p) w (λ_=>False) (.slice ai 0 0) (.slice ai 0 0):=⟨hm,λq=>Iff.rfl,rfl,kP,.kE _ _,by simp,.inl ⟨rfl,rfl⟩⟩
 have yZ:Tryz.f92.ntmps=30:=rfl;simp only[yZ,Yu,dT,dF,cy,aV,aD,aP,Nat.reduceAdd,Nat.reduceSub,dD,dE,ez];have hc4: ∀az,φ.e9 (γ.hold p) w az->az.cell? ⟨B4,0,ai⟩=ae p6:=λaz dp=>(da ((dp.rd B4 hR.r4).trans (hm.rd B4 hR.r4))).trans hR.c4
 obtain⟨A,c,hrv,YN⟩:=id hR.rows;refine mP O ?_;refine iG O ?_;simp only[aV,aD,aP,Nat.reduceAdd,bS,bP,cu];refine sB O p6 (ad:=⟨B4,0,ai⟩) rfl rfl (by simp[base]) (.inr hR.r4) (λaz dp=>by have hc:=hc4 az dp;rw[hP];go_simp) (λaz dp e he=>by have hc:=hc4 az dp;rw[hP]at he;simp[go_sem, *]at he;exact he) ?_;walk_nrm;refine l7 O (.int .i64 xs.length) rfl rfl (by simp[base]) (λw _=>by subst hrv;rw[hP];go_simp) (λw _=>by subst hrv;rw[hP];simp[go_sem, *]) ?_;walk_nrm;refine l7 O (.int .i64 (0:Nat)) rfl rfl (by simp[base]) (λw _=>by rw[hP];go_simp) (λw _=>by rw[hP];simp[go_sem, *]) ?_;walk_nrm;refine nB O ?_;refine Ao O ?_;refine Tw O ?_;refine YY (xs:=xs) (ss:=ss) O hP bJ Yt hR Nd ?_ xs.length 0 (γ.hold p) w _ _ _ _ _ _ _ _ _ _ _ _ _ _ _ _ _ _ _ _ _ _ _ _ _ (by omega) Wq;intro γ' w' V sv h';refine K γ' w' (h'.mb.finish O ?_) h'.held h'.over;rw[hJP];refine⟨sv,h'.cell,V,λr hr=>⟨(h'.mb.vo r hr).1,(h'.mb.vo r hr).2.2⟩,λr hr=> ?_,h'.rel,?_⟩
 ·obtain⟨o,o',e1,e2,e3⟩:=h'.mb.vh.obj r r ⟨rfl,hr⟩;rw[e1]at e2;cases e2;exact⟨o,e1,e3⟩
 ·have:=h'.own;rw[ck (ax _)]at this;simpa[Nd,List.flatMap_map]using this
end
end
section
open Go.RowKit
def RowsIn.own {w:ah}{v:ao}{rs:List eE}(h:w.ownsRow 0 50 11 v rs.length (rs.flatMap rC)): ∃A c,v=.slice A rs.length c/\rs.length<=c/\c<=maxLen/\RowsIn w w.heap.size A rs:=by obtain⟨A,c,rfl,h1,h2,h3,_⟩:=EV (f:=rL) (λ_=>rfl) QT h;exact⟨A,c,rfl,h1,h2,h3⟩
def wN (m:List eE)(h:Hd):eE:=(h,(dY m h).getD kQ)
def nA (m:List eE)(hs:List Hd)(k:Nat):List eE:=(hs.take k).map (wN m)
def Oy (m:List eE)(hs:List Hd)(k:Nat)(h:k<hs.length):nA m hs (k+1)=nA m hs k++[wN m hs[k]]:=by unfold nA;rw[bh h,ey];rfl
def Jw {m:List eE}(h: ∀r∈m,ki r)(k:Hd):ki (wN m k):=by
 unfold wN ki;cases e:dY m k with
 |none=>rfl
 |some v=>exact h _ (rJ e)
def UI {m:List eE}(h: ∀r∈m,ki r){k:Hd}{v:List Int}(hv:v.length=9): ∀r∈hZ m k v,ki r:=λr hr=>by
 rcases NH hr with rfl|hr
 ·exact hv
 ·exact h _ hr.1
def TN (A A':Option Addr)(c c':Nat)(l:List eE)(cs:List nM)(w:ah)(ha:RowsIn w w.heap.size A l)(hb:Ay w w.heap.size A' cs)(hoa: ∀r∈l,ki r)(hob: ∀r∈cs,DJ r)(hla:l.length<=maxLen)(hlb:cs.length<=maxLen):Calls aj 32 #[.slice A l.length c,.slice A' cs.length c'] w λe w'=> ∃v,e=.returned (.tuple #[v,.int .i64 (lE l cs).2])/\In (λ_=>False) w [qS v (lE l cs).1] w':=by
 have HA:=af ha;have HB:=af hb;have HOA:=af hoa;have TC:=af hob;have HLA:=af hla;have aiW:(cs.length:Int)<=9223372036854775807:=by unfold maxLen at hlb;omega
 clear ha hb hoa hob hla hlb;obtain⟨i0,qE,uM,sX,tH⟩:=info_parts Q9
 go_enter Tryz.func32,Tryz.ntmps32
 go_wp2_with fail
 refine(Dq A c l w HA.out HOA.out HLA.out).mono ?_;rintro e w1 ⟨rfl,lJ⟩;have qk:=af lJ;clear lJ;cases hma:lj l with
 |false=>
  have HR:Hid (lE l cs=([],4)):=by unfold Hid lE;rw[hma];rfl
  clear hma
  go_wp2_with fail
  go_ret2
  rw[HR.out];exact⟨_,rfl,(In.mN (In.nil w _) _ _).below qk.out⟩
 |true=>
  have Ps:=af hma;clear hma;by_cases hlen:120<cs.length
  ·have Dm:(120:Int)<cs.length:=by omega
   have HR:Hid (lE l cs=([],2)):=by unfold Hid lE;rw[if_neg (by simp[Ps.out]),if_pos hlen]
   clear hlen
   go_wp2_with fail
   go_ret2
   rw[HR.out];exact⟨_,rfl,(In.mN (In.nil w _) _ _).below qk.out⟩
  ·have Dm:(cs.length:Int)<=120:=by omega
   have HR:Hid (lE l cs=match qT l cs with
    | .error e=>([],e)
    | .ok m=>if lj (rowsOf m)then(rowsOf m,0)else([],4)):=by
    unfold Hid lE;rw[if_neg (by simp[Ps.out]),if_neg hlen];cases qT l cs<;>rfl
   have ahr:Hid (l.length<=60):=(mB Ps.out).2.2;clear hlen
   go_wp2_with fail
   refine(Kf A c l w1 (HA.out.below qk.out|>.more qk.out.size) HOA.out HLA.out).mono ?_;rintro e w3 ⟨mx,rfl,fj⟩;rw[QH Ps.out]at fj;have fW:Hid (In (λ_=>False) w [jV mx l] w3):=(In.nil w _).below qk.out|>.new (A:=jV mx l) fj.jI fj.fresh;clear fj qk
   go_wp2_with fail
   go_loopw [22] (λi w'=> ∃(k:Nat) (m:List eE),k<=cs.length/\i=.int .i64 k/\qT l cs=qT m (cs.drop k)/\(∀r∈m,ki r)/\m.length<=60+k/\In (λ_=>False) w [jV mx m] w') (λi _=>cs.length-(intOf i).toNat)
   case atStart=>exact⟨0,l,by omega,rfl,rfl,HOA.out,by have:=ahr.out;omega,fW.out⟩
   case round=>
    clear fW;obtain⟨k,m,hk,rfl,hap,hmo,YF,hI⟩:=hrel;have HAP:=af hap;have HMO:=af hmo;have HML:=af YF;have HI:=af hI;clear hap hmo YF hI;by_cases bJ:k<cs.length
    ·have vI:(k:Int)<cs.length:=by omega
     obtain⟨b,o,hA,zJ,fg⟩:=Ay.at_ (fi.below HB.out HI.out.jI) bJ;subst hA;have qN:Hid (qT m (cs.drop k)=match lq m cs[k]with| .error e=>.error e| .ok m'=>qT m' (cs.drop (k+1))):=by
      unfold Hid;rw[List.drop_eq_getElem_cons bJ]
      rfl
     have hco:=TC.out _ (bg bJ);generalize y5:cs[k]=x at *;clear y5;have Dn:=AJ x;have TE:=af (acS hco);obtain⟨⟨s,g⟩,ox,oy⟩:=x;have x9:ox.length=9:=hco.1;have y9:oy.length=9:=hco.2;clear hco;simp only at TE;rw[TE.out]at Dn fg;have HDG:Hid ((iz m (s,g)).length=9):=vZ HMO.out _
     go_upto_region 10 with(fail)
     refine bZ (In (λ_=>False) w [br wr.heap.size 149 (ints (s::g::(ox++oy))),jV mx m]) (HI.out.struct 149 [0,0,0,0,0,0,0,0,0,0,0,0,0,0,0,0,0,0,0,0] _ Dn) ?_;generalize wr.heap.size=cb;intro w4 gq;have q0:row? w4 cb 0 2=ae (ints [s,g]):=gq.blk.eJ 0 2 (by rw[Dn];omega);have q1:row? w4 cb 2 9=ae (ints ox):=by rw[gq.blk.eJ 2 9 (by rw[Dn];omega)];simp[<-x9]
     have q2:row? w4 cb 11 9=ae (ints oy):=by rw[gq.blk.eJ 11 9 (by rw[Dn];omega)];simp only[mZ];rw[List.drop_left' x9,ck (by omega)]
     have iR:=af gq;clear gq HI fg;have Qc: ∀W,(binOp .eql 48 (.agg (ints ox)) (.agg (ints oy))).run aj W=.ok (.bool (decide (ox=oy))) W:=Iw ox oy x9 y9;by_cases e:ox=oy
     ·have hd:decide (ox=oy)=aw:=by simpa using e
      have HE:Hid (lE l cs=([],4)):=by
       have h1:lq m ⟨(s,g),ox,oy⟩=.error 4:=by unfold lq;rw[if_pos e]
       rw[Hid,HR.out,HAP.out,qN.out,h1]
      rw[hd]at Qc;clear e hd
      go_wp2_with fail
      go_ret2
      rw[HE.out];exact⟨_,rfl,(In.mN (In.nil w _) _ _).below iR.out.jI⟩
     ·have hd:decide (ox=oy)=ay:=by simpa using e
      rw[hd]at Qc;have GK:=af e;clear e hd
      go_upto_region 12 with(fail)
      clear Qc;have HG:Hid (∀n:After w4,Calls aj 81 #[.map (ae mx),.agg (ints [s,g])] n.w λe w'=>e=.returned (.agg (ints (iz m (s,g))))/\Below n.w.heap.size n.w w'):=λn=>Kn (iR.out.swap.fU.after n.below) HMO.out (s,g)
      have c0: ∀n:After w4,row? n.w cb 0 2=ae (ints [s,g]):=λn=>iD n.below q0
      have c1: ∀n:After w4,row? n.w cb 2 9=ae (ints ox):=λn=>iD n.below q1
      have Qc: ∀W,(binOp .neq 48 (.agg (ints (iz m (s,g)))) (.agg (ints ox))).run aj W=.ok (.bool (!decide (iz m (s,g)=ox))) W:=Jg _ ox HDG.out x9;have HQ0:=af q0;have HQ2:=af q2;clear q0 q1 q2;by_cases e:iz m (s,g)=ox
      ·have hd:decide (iz m (s,g)=ox)=aw:=by simpa using e
       rw[hd]at Qc;have afr:=af e;have HAS:Hid (lq m ⟨(s,g),ox,oy⟩=if oy=mJ then .ok (dZ m (s,g))else .ok (hZ m (s,g) oy)):=by unfold Hid lq;rw[if_neg GK.out,if_neg (λh=>h (afr.out))]
       clear e hd afr;generalize iz m (s,g)=dv at *;refine bF (by kernel_rfl) (by kernel_rfl) ?_
       repeat(go_big_quiet_step (first|(go_at_call 81;exact ep (HG.out _))))
       refine wpQuiet_nil ?_;rintro _ ⟨n,rfl⟩;have ni:=af (iR.out.below n.below);have HQ0:=af (iD n.below HQ0.out);have HQ2:=af (iD n.below HQ2.out);clear c0 c1 Qc HG iR;generalize n.w=w5 at *
       go_upto_region 14 with(fail)
       have c2: ∀n:After w5,row? n.w cb 11 9=ae (ints oy):=λn=>iD n.below HQ2.out
       have Qc: ∀W,(binOp .eql 48 (.agg (ints oy)) (.agg (ints mJ))).run aj W=.ok (.bool (decide (oy=mJ))) W:=Iw oy mJ y9 rfl;by_cases e2:oy=mJ
       ·have hd:decide (oy=mJ)=aw:=by simpa using e2
        rw[hd]at Qc;rw[if_pos e2]at HAS;clear e2 hd;refine bF (by kernel_rfl) (by kernel_rfl) ?_
        repeat(go_big_quiet_step (first|(go_at_call 82;exact ep (AP _))))
        refine wpQuiet_nil ?_;rintro _ ⟨n2,rfl⟩;have kO:=af (ni.out.below n2.below);have q0:=iD n2.below HQ0.out;clear c2 Qc ni;generalize n2.w=w6 at *
        go_wp2_with (at_delete;go_loud (refine sx pf rfl _ _ 138 48 rfl Tryz.underlying138 mx _ rfl kO.out.swap.fU (s,g) rfl trivial ?_))
        intro w7 h1 h2 h3;have kh:=af (In.oJ kO.out.swap h1 h2);clear h1 h2 h3 q0
        go_wp2_with fail
        go_roundw
        case rel=>exact⟨k+1,dZ m (s,g),by omega,by go_num,by rw[HAP.out,qN.out,HAS.out],λr hr=>HMO.out r (fP.1 hr).1,by have:=Y' m (s,g);have:=HML.out;omega,kh.out.swap.drop⟩
        case measure=>simp[intOf];omega
       ·have hd:decide (oy=mJ)=ay:=by simpa using e2
        rw[hd]at Qc;rw[if_neg e2]at HAS;clear e2 hd;refine bF (by kernel_rfl) (by kernel_rfl) ?_
        repeat(go_big_quiet_step (first|(go_at_call 82;exact ep (AP _))))
        refine wpQuiet_nil ?_;rintro _ ⟨n2,rfl⟩;have kO:=af (ni.out.below n2.below);have q0:=iD n2.below HQ0.out;have q2:=iD n2.below HQ2.out;clear c2 Qc ni;generalize n2.w=w6 at *
        go_wp2_with (at_mapUpdate;go_loud (refine iZ pf rfl _ _ _ 138 48 rfl Tryz.underlying138 mx _ rfl kO.out.swap.fU (s,g) rfl trivial oy rfl ?_))
        intro w7 h1 h2 h3;have kh:=af (In.oJ kO.out.swap h1 h2);clear h1 h2 h3 q0 q2
        go_wp2_with fail
        go_roundw
        case rel=>exact⟨k+1,hZ m (s,g) oy,by omega,by go_num,by rw[HAP.out,qN.out,HAS.out],UI HMO.out y9,by have:=NK m (s,g) oy;have:=HML.out;omega,kh.out.swap.drop⟩
        case measure=>simp[intOf];omega
      ·have hd:decide (iz m (s,g)=ox)=ay:=by simpa using e
       rw[hd]at Qc;have HE:Hid (lE l cs=([],5)):=by
        have h1:lq m ⟨(s,g),ox,oy⟩=.error 5:=by unfold lq;rw[if_neg GK.out,if_pos e]
        rw[Hid,HR.out,HAP.out,qN.out,h1]
       clear e hd;generalize iz m (s,g)=dv at *;refine bF (by kernel_rfl) (by kernel_rfl) ?_
       repeat(go_big_quiet_step (first|(go_at_call 81;exact ep (HG.out _))))
       refine wpQuiet_nil ?_;rintro _ ⟨n,rfl⟩;have ni:=af (iR.out.below n.below)
       go_wp2_with fail
       go_ret2
       rw[HE.out];exact⟨_,rfl,(In.mN (In.nil w _) _ _).below ni.out.jI⟩
    ·have vI:(cs.length:Int)<=k:=by omega
     have HAL:Hid (qT l cs=.ok m):=by rw[Hid,HAP.out,List.drop_eq_nil_of_le (by omega)];rfl
     have TE:Hid (lE l cs=if lj (rowsOf m)then(rowsOf m,0)else([],4)):=by rw[Hid,HR.out,HAL.out]
     have afv:Hid (m.length<=180):=by have:=HML.out;unfold Hid;omega
     clear HAP HAL HR HML
     go_wp2_with fail
     refine(Jf mx wr).mono ?_;rintro e w7 ⟨rfl,rfl⟩;have kh:Hid (In (λ_=>False) w [br wr.heap.size 138 #[.map (ae mx)],jV mx m] (wr.alloc (.cells #[.map (ae mx)] 138))):=HI.out.alloc _ _;clear HI;generalize (wr.alloc (.cells #[.map (ae mx)] 138))=w7 at *;generalize wr.heap.size=kb at *
     go_wp2_with fail
     refine(wT kh.out.blk kh.out.swap.fU (by have:=afv.out;omega)).mono ?_;rintro e w8 ⟨hv,rfl,mR⟩;have oQ:Hid (In (λ_=>False) w [iy hv (dj m),br kb 138 #[.map (ae mx)],jV mx m] w8):=kh.out.new (A:=iy hv (dj m)) mR.jI mR.fresh;have HLS:Hid ((dj m).length<=180):=by rw[Hid,rS];exact afv.out
     have HBT:Hid (rowsOf m=nA m (dj m) (dj m).length):=by unfold Hid nA;rw[dm];rfl
     clear mR kh;generalize dj m=hs at *;obtain⟨A7,c7,rfl,vA,uL,fg⟩:=o0 oQ.out.rowAt;have agn:(hs.length:Int)<=180:=by have:=HLS.out;omega
     have oQ:Hid (In (λ_=>False) w [qS (.slice ai 0 0) [],iy (.slice A7 hs.length c7) hs,jV mx m] w8):=oQ.out.swap.drop.mN 50 11;clear fg vA uL
     go_wp2_with fail
     go_loopw [9,58] (λout i w'=> ∃k:Nat,k<=hs.length/\i=.int .i64 k/\In (λ_=>False) w [qS out (nA m hs k),iy (.slice A7 hs.length c7) hs,jV mx m] w') (λ_ i _=>hs.length-(intOf i).toNat)
     case atStart=>exact⟨0,by omega,rfl,oQ.out⟩
     case round=>
      clear oQ;obtain⟨k,hk,rfl,hI⟩:=hrel;have HI:=af hI;clear hI;by_cases bJ:k<hs.length
      ·have vI:(k:Int)<hs.length:=by omega
       obtain⟨A7',c7',e7,_,_,fg⟩:=o0 HI.out.swap.rowAt;obtain⟨g7,hA,hrw⟩:=fg k bJ;injection e7 with e1 e2 e3
       subst e1;subst hA;have qN:=af (Oy m hs k bJ);generalize hh:hs[k]=h at *;clear hh fg e2 e3;obtain⟨h1,h2⟩:=h
       go_upto_region 21 with(fail)
       refine bZ (In (λ_=>False) w [br wr.heap.size 43 (ints [h1,h2]),qS u9 (nA m hs k),iy (.slice (ae ⟨g7,0,ai⟩) hs.length c7) hs,jV mx m]) (HI.out.struct 43 [0,0] [h1,h2] rfl) ?_;generalize wr.heap.size=hb;intro w9 o6;have s1:row? w9 hb 0 2=ae (ints [h1,h2]):=o6.blk.bt rfl;have HRO:Hid (ki (wN m (h1,h2))):=Jw HMO.out _;have o8:(j9 138 (.map (ae mx)) (.agg (ints [h1,h2])) ay).run aj w9.drew=.ok (.agg (ints ((dY m (h1,h2)).getD kQ))) w9.drew:=by have:=(o6.fourth.fU.after (Below.refl _ _).drew).look pf Tryz.underlying138 (FN w9.drew) (x:=(h1,h2)) trivial ay;rw[show(.agg (ints [h1,h2]):ao)=lf (h1,h2)from rfl,this];cases dY m (h1,h2)<;>rfl
       have HRF:Hid (wN m (h1,h2)=((h1,h2),(dY m (h1,h2)).getD kQ)):=rfl;have pw:=af o6.drop;clear o6 hrw HI;have HCL:Hid (rC (wN m (h1,h2))=(h1::h2::(dY m (h1,h2)).getD kQ).map (aF .i64)):=by unfold Hid rC;rw[Jm HRO.out,HRF.out]
       have v9:((dY m (h1,h2)).getD kQ).length=9:=HRO.out;generalize (dY m (h1,h2)).getD kQ=bb at *;have Wr:(nA m hs k).length+1<=181:=by unfold nA;rw[aL,cK];have:=HLS.out;omega
       have HO:Hid (w9.drew.ownsRow 0 50 11 u9 (nA m hs k).length ((nA m hs k).flatMap rC)):=pw.out.drew.rowAt
       go_region_law (refine Ak (w:=w9.drew) rfl (.tmp 62) (.tmp 68) 33 rfl 0 50 i0 _ 11 88 Tryz.underlying33 qE uM sX tH rfl (by decide) u9 (nA m hs k).length ((nA m hs k).flatMap rC) (by simp[bX,Act.put]) HO.out ((h1::h2::bb).map (aF .i64)) (by simp[bX,Act.put]) (by rw[aL];simp[v9]) (by intro u hu;obtain⟨x,_,rfl⟩:=aH.1 hu;rfl) (by unfold maxLen;omega) (by omega) (cE _) ?_;intro v' w12 ho hg wx;have ahu:=af ho;have ahp:=af hg;have HOR:=af wx;clear ho hg wx)
       all_goals
        have JV:Hid (In (λ_=>False) w [qS v' (nA m hs (k+1)),iy (.slice (ae ⟨g7,0,ai⟩) hs.length c7) hs,jV mx m] w12):=by
         have g1:=pw.out.drew.xe ahu.out ahp.out HOR.out;rw[qN.out];unfold Hid qS;rw[aZ,dG];have g2:[wN m (h1,h2)].flatMap rC=(h1::h2::bb).map (aF .i64):=by simp only[bN,List.flatMap_nil,ew];exact HCL.out
         rw[g2];exact g1
        go_wp2_with fail
        go_roundw
        case rel=>exact⟨k+1,by omega,by go_num,JV.out⟩
        case measure=>simp[intOf];omega
      ·have vI:(hs.length:Int)<=k:=by omega
       have HE:Hid (nA m hs k=rowsOf m):=by
        have:k=hs.length:=by omega
        rw[Hid,HBT.out,this]
       have vw:Hid (In (λ_=>False) w [qS u9 (rowsOf m)] wr):=by have g1:=HI.out;rw[HE.out]at g1;exact g1.swap.drop.swap.drop
       obtain⟨A9,c9,rfl,vA,uL,Wu⟩:=RowsIn.own vw.out.rowAt;have HRI:=af Wu;have HRL:Hid ((rowsOf m).length<=maxLen):=by unfold Hid;omega
       have HRK:Hid (∀r∈rowsOf m,ki r):=by rw[Hid,HBT.out];intro r hr;obtain⟨x,_,rfl⟩:=aH.1 hr;exact Jw HMO.out x
       clear Wu vA uL HI
       go_wp2_with fail
       refine(Dq A9 c9 (rowsOf m) wr HRI.out HRK.out HRL.out).mono ?_;rintro e w13 ⟨rfl,af0⟩;have afs:=af (vw.out.below af0);clear af0;cases hmr:lj (rowsOf m)with
       |false=>
        rw[hmr]at TE;clear hmr
        go_wp2_with fail
        go_ret2
        rw[TE.out];exact⟨_,rfl,(In.mN (In.nil w _) _ _).below afs.out.jI⟩
       |true=>
        rw[hmr]at TE;clear hmr
        go_wp2_with fail
        go_ret2
        rw[TE.out];exact⟨_,rfl,afs.out⟩
def UO {w:ah}{B:Nat}{e:aA}{size n c g o:Nat}{xs:List ao}{ys:List Int}(h:w.ownsRow B e size (.slice (ae ⟨g,0,ai⟩) n c) n xs)(ho:o+ys.length<=n *size):(putRow w g o ys).ownsRow B e size (.slice (ae ⟨g,0,ai⟩) n c) n (xs.take o++ys.map (aF .i64)++xs.drop (o+ys.length)):=by
 obtain⟨h1,h2⟩:=h;have SE:(xs.take o).length=o:=by rw[cK];omega
 refine⟨by rw[aZ,aZ,SE,aL,List.length_drop];omega,?_⟩;rcases h2 with⟨e1,h0⟩|⟨g',cap,cur,e1,hb,hg,h3,h4,h5,h6⟩
 ·cases e1
 ·injection e1 with e1 e2 e3
  injection e1 with e1
  injection e1 with e1
  subst e1;subst e3;have YB:n *size<=c *size:=fC _ h3;refine bO ⟨g,c,(cur.toList.take o++ys.map (aF .i64)++cur.toList.drop (o+ys.length)).toArray,rfl,hb,?_,h3,h4,?_,?_⟩
  ·simp[putRow,bq,hg]
  ·simp;omega
  ·rw[List.toList_toArray,<-h6];have o8:(cur.toList.take o).length=o:=by rw[cK];simp;omega
   have Dm:((cur.toList.take (n *size)).take o)=cur.toList.take o:=by rw[List.take_take,Nat.min_eq_left (by omega)]
   rw[Dm,List.drop_take];generalize cur.toList.take o=P at o8|-;have hl3:(P++ys.map (aF .i64)).length=o+ys.length:=by rw[aZ,o8,aL]
   rw[List.take_append,hl3,ck (by rw[hl3];exact ho)]
def J' {w:ah}{B size:Nat}{A:Option Addr}{rs:List (List Int)}(hs:0<size)(h:fi w B size A rs):Reads w B size A rs.length (rs.flatMap λr=>r.map (aF .i64)):=by
 obtain⟨h1,h2⟩:=h;have hf: ∀r∈rs,(r.map (aF .i64)).length=size:=λr hr=>by rw[aL,h1 r hr]
 have hl:(rs.flatMap λr=>r.map (aF .i64)).length=rs.length *size:=by
  clear h2 h1
  induction rs with
  |nil=>simp
  |cons r rs ih=>rw[bN,aZ,hf r (by simp),ih (λr hr=>hf r (by simp[hr])),aD,gY];omega
 refine⟨hl,λh0=> ?_⟩;obtain⟨b,o,e,hb,hr⟩:=h2 h0;refine⟨b,o,e,hb,λj u hu=> ?_⟩;have hj:=(bz.1 hu).1;have hk:j / size<rs.length:=(Nat.div_lt_iff_lt_mul hs).2 (by omega);have hm:=Nat.mod_lt j hs;have hdj:j=j / size *size+j % size:=by rw[Nat.mul_comm];exact(Nat.div_add_mod j size).symm
 have fg:=hr (j / size) _ (aq hk);have AX: ∀(l:List (List Int)) (k i:Nat) (hk:k<l.length),(∀r∈l,(r.map (aF .i64)).length=size)->i<size->(l.flatMap λr=>r.map (aF .i64))[k *size+i]? =(l[k].map (aF .i64))[i]?:=by
  intro l
  induction l with
  |nil=>intro k i hk;simp at hk
  |cons a l ih=>
   intro k i hk GI hi;rw[bN];cases k with
   |zero=>rw[Nat.zero_mul,bS,List.getElem?_append_left (by rw[GI a (by simp)];exact hi)];rfl
   |succ k=>rw[List.getElem?_append_right (by rw[GI a (by simp),gY];omega),GI a (by simp),show(k+1) *size+i-size=k *size+i from by rw[gY];omega];exact ih k i (by simpa using hk) (λr hr=>GI r (by simp[hr])) hi
 rw[hdj,AX rs _ _ hk hf hm]at hu;unfold row? at fg
 split at fg
 ·rename_i cs t fr hg
  split at fg
  ·rename_i hle
   injection fg with fg
   rw[cell_of_row w b _ cs t fr hg];have h3:(cs.extract (o+j / size *size) (o+j / size *size+size))[j % size]? =ae u:=by rw[fg];unfold ints;simpa using hu
   rw[Array.getElem?_extract]at h3
   split at h3
   ·rw[show o+j=o+j / size *size+j % size from by omega];exact h3
   ·cases h3
  ·cases fg
 ·cases fg
def jZ (cs:List nM):Nat->List nM
 |0=>cs
 |k+1=>((jZ cs k).set k ((jZ cs k).getD (cs.length-1-k) ⟨(0,0),[],[]⟩)).set (cs.length-1-k) ((jZ cs k).getD k ⟨(0,0),[],[]⟩)
def yQ (cs:List nM)(k:Nat):(jZ cs k).length=cs.length:=by
 induction k with
 |zero=>rfl
 |succ k ih=>unfold jZ;rw[de,de,ih]
def FA (cs:List nM): ∀(k:Nat),2 *k<=cs.length-> ∀p,p<cs.length->(jZ cs k)[p]? =if p<k\/cs.length-1-k<p then cs[cs.length-1-p]? else cs[p]?
 |0,_,p,hp=>by rw[if_neg (by omega)];rfl
 |k+1,hk,p,hp=>by
  have ih:=FA cs k (by omega);have hl:=yQ cs k;unfold jZ;have g1: ∀q,q<cs.length->(jZ cs k)[q]? =ae ((jZ cs k).getD q ⟨(0,0),[],[]⟩):=λq hq=>by rw[aY,aq (by omega)];rfl
  rw[fh,de,hl,fh,hl];by_cases e1:cs.length-1-k=p
  ·rw[if_pos e1,if_pos (by omega),<-g1 k (by omega),ih k (by omega),if_neg (by omega),if_pos (by omega)];congr 1;omega
  ·rw[if_neg e1];by_cases e2:k=p
   ·rw[if_pos e2,if_pos (by omega),<-g1 _ (by omega),ih _ (by omega),if_neg (by omega),if_pos (by omega)];congr 1;omega
   ·rw[if_neg e2,ih p hp];by_cases e3:p<k\/cs.length-1-k<p
    ·rw[if_pos e3,if_pos (by omega)]
    ·rw[if_neg e3,if_neg (by omega)]
def Rp (cs:List nM)(k:Nat)(h1:2 *k<=cs.length)(h2:cs.length<=2 *k+1):jZ cs k=cs.reverse:=by
 apply mf;intro p;by_cases hp:p<cs.length
 ·rw[FA cs k h1 p hp,List.getElem?_reverse hp]
  split
  ·rfl
  ·congr 1;omega
 ·rw[jz (by rw[yQ];omega),jz (by rw[List.length_reverse];omega)]
section
variable {G:Nat->Prop} {w0 w:ah} {l:List bU} {g c:Nat}
def In.KU {E:aA}{size n o:Nat}{xs:List ao}{ys:List Int}(h:In G w0 (eD E size (.slice (ae ⟨g,0,ai⟩) n c) n xs::l) w)(ho:o+ys.length<=n *size):In G w0 (eD E size (.slice (ae ⟨g,0,ai⟩) n c) n (xs.take o++ys.map (aF .i64)++xs.drop (o+ys.length))::l) (putRow w g o ys):=by obtain⟨F1,⟨h1,h2⟩,_,hb⟩:=h.open_;exact hb (A':=eD E size (.slice (ae ⟨g,0,ai⟩) n c) n _) ⟨UO h1 ho,λk hk=>bm (h2 k hk)⟩ ((db.putRow w g o ys).mono λk _ e=>h2 k (by rw[e];rfl))
def In.acm {cs:List nM}{k:Nat}(h:In G w0 (j4 (.slice (ae ⟨g,0,ai⟩) cs.length c) cs::l) w)(hk:k<cs.length)(x:nM):In G w0 (j4 (.slice (ae ⟨g,0,ai⟩) cs.length c) (cs.set k x)::l) (putRow w g (k *20) (cL x)):=by obtain⟨F1,⟨h1,h2⟩,_,hb⟩:=h.open_;have h3:=S0 (enc:=cL) AJ h1 hk x;have hA:(eD 149 20 (.slice (ae ⟨g,0,ai⟩) cs.length c) cs.length ((cs.set k x).flatMap cC)).at_ (putRow w g (k *20) (cL x)) (GL F1 w (putRow w g (k *20) (cL x))):=⟨h3,λk hk=>bm (h2 k hk)⟩;have h4:=hb hA ((db.putRow w g (k *20) (cL x)).mono λk _ e=>h2 k (by rw[e];rfl));unfold j4;rw[de];exact h4
def In.chg {cs:List nM}{k:Nat}(h:In G w0 (j4 (.slice (ae ⟨g,0,ai⟩) cs.length c) cs::l) w)(hk:k<cs.length):row? w g (k *20) 20=ae (ints (cL cs[k])):=by have h1:=mD h.rowAt hk;rw[mv Xx cs k hk]at h1;exact h1
def In.XX {cs:List nM}{k:Nat}(h:In G w0 (j4 (.slice (ae ⟨g,0,ai⟩) cs.length c) cs::l) w)(hk:k<cs.length):fits w g (k *20) 20=aw:=EX h.rowAt hk
end
def Ol {G:Nat->Prop}{w0 w:ah}{l:List bU}{v:ao}{cs:List nM}(h:In G w0 (j4 v cs::l) w):Calls aj 84 #[v] w λe w'=>e=.returned (.tuple #[])/\In G w0 (j4 v cs.reverse::l) w':=by
 obtain⟨A,c,rfl,vA,uL,hA⟩:=cM h.rowAt;have kZ:=af h;have hn:(cs.length:Int)<=9223372036854775807:=by unfold maxLen at uL;omega
 have HA:=af hA;clear h hA vA uL;have mW:IntKind.i64.wrap ((cs.length:Int)-1)=(cs.length:Int)-1:=IntWalk.i64_in _ (by omega)
 go_enter Tryz.func84,Tryz.ntmps84
 go_wp2_with fail
 go_loopw [2,3] (λi j w'=> ∃(k:Nat) (jv:Int),2 *k<=cs.length/\i=.int .i64 k/\j=.int .i64 jv/\jv=(cs.length:Int)-1-k/\In G w0 (j4 (.slice A cs.length c) (jZ cs k)::l) w') (λi _ _=>cs.length-(intOf i).toNat)
 case atStart=>exact⟨0,_,by omega,rfl,rfl,by omega,kZ.out⟩
 case round=>
  clear kZ mW;obtain⟨k,jv,hk,rfl,rfl,hj,hI⟩:=hrel;have HI:=af hI;clear hI;by_cases bJ:(k:Int)<jv
  ·obtain⟨J,rfl⟩: ∃J:Nat,jv=J:=⟨jv.toNat,by omega⟩;obtain⟨g,rfl⟩:=HA.out (by omega);have HJ:Hid (cs.length-1-k=J):=by unfold Hid;omega
   have HL:=af (yQ cs k);have Uo:(k:Int)<cs.length:=by omega
   have hJn:(J:Int)<cs.length:=by omega
   have hI:=HI.out;have gI:jZ cs (k+1)=((jZ cs k).set k ((jZ cs k).getD (cs.length-1-k) ⟨(0,0),[],[]⟩)).set (cs.length-1-k) ((jZ cs k).getD k ⟨(0,0),[],[]⟩):=rfl;rw[HJ.out]at gI;have qN:=af gI;clear gI;generalize jZ cs k=ds at *;have gm:In G w0 (j4 (.slice (ae ⟨g,0,ai⟩) ds.length c) ds::l) wr:=by rw[HL.out];exact hI
   have vH:k<ds.length:=by have:=HL.out;omega
   have hJd:J<ds.length:=by have:=HL.out;omega
   have r1:=gm.chg vH;have r2:=gm.chg hJd;have f1:=gm.XX vH;have f2:=gm.XX hJd;rw[aY,aq hJd,aY,aq vH]at qN;simp only[bT]at qN;generalize hx:ds[k]=x at *;generalize hy:ds[J]=y at *;have fW:=af (gm.acm vH y);have hl3:(ds.set k y).length=ds.length:=de;have ad0:In G w0 (j4 (.slice (ae ⟨g,0,ai⟩) (ds.set k y).length c) (ds.set k y)::l) (putRow wr g (k *20) (cL y)):=by rw[hl3];exact fW.out
   have f3:=ad0.XX (k:=J) (by rw[hl3];exact hJd);have iR:Hid (In G w0 (j4 (.slice (ae ⟨g,0,ai⟩) cs.length c) (jZ cs (k+1))::l) (putRow (putRow wr g (k *20) (cL y)) g (J *20) (cL x))):=by rw[qN.out];have:=ad0.acm (k:=J) (by rw[hl3];exact hJd) x;rw[hl3,HL.out]at this;exact this
   have fD:=gm.acm hJd x;have hl5:(ds.set J x).length=ds.length:=de;have ad1:In G w0 (j4 (.slice (ae ⟨g,0,ai⟩) (ds.set J x).length c) (ds.set J x)::l) (putRow wr g (J *20) (cL x)):=by rw[hl5];exact fD
   have f4:=ad1.XX (k:=k) (by rw[hl5];exact vH);have kO:Hid (In G w0 (j4 (.slice (ae ⟨g,0,ai⟩) cs.length c) (jZ cs (k+1))::l) (putRow (putRow wr g (J *20) (cL x)) g (k *20) (cL y))):=by rw[qN.out,List.set_comm _ _ (by omega)];have:=ad1.acm (k:=k) (by rw[hl5];exact vH) y;rw[hl5,HL.out]at this;exact this
   have lx:=AJ x;have ly:=AJ y;generalize cL x=xs at *;generalize cL y=ys at *;have HJI:=af hj;clear hj hI gm ad0 fD ad1 hx hy hl3 hl5 fW qN HI vH hJd
   go_upto_region 3 with(fail)
   go_region
   all_goals
    (first
      |(have HJN:Hid (In G w0 (j4 (.slice (ae ⟨g,0,ai⟩) cs.length c) (jZ cs (k+1))::l) (putRow (putRow wr g (k *20) ys) g (J *20) xs).drew):=iR.out.drew
        obtain⟨W9,Ap⟩: ∃W9,(putRow (putRow wr g (k *20) ys) g (J *20) xs).drew=W9:=⟨_,rfl⟩;rw[Ap];rw[Ap]at HJN)
      |(have HJN:Hid (In G w0 (j4 (.slice (ae ⟨g,0,ai⟩) cs.length c) (jZ cs (k+1))::l) (putRow (putRow wr g (J *20) xs) g (k *20) ys).drew):=kO.out.drew
        obtain⟨W9,Ap⟩: ∃W9,(putRow (putRow wr g (J *20) xs) g (k *20) ys).drew=W9:=⟨_,rfl⟩;rw[Ap];rw[Ap]at HJN))
    clear Ap r1 r2 f1 f2 f3 f4
    go_wp2_with fail
    go_roundw
    case rel=>exact⟨k+1,(J:Int)-1,by have:=HJI.out;omega,by go_num,by go_num,by have:=HJI.out;omega,HJN.out⟩
    case measure=>simp[intOf];omega
  ·have abp:jv<=(k:Int):=by omega
   have HE:Hid (jZ cs k=cs.reverse):=Rp cs k hk (by omega)
   go_wp2_with fail
   go_end0
   have h1:=HI.out;rw[HE.out]at h1;refine⟨rfl,?_⟩;unfold j4;rw[List.length_reverse];exact(by have h2:=h1;unfold j4 at h2;rw[List.length_reverse]at h2;exact h2)
def rD (cs:List nM)(k:Nat):List nM:=(cs.take k).map su++cs.drop k
def I2 (cs:List nM)(k:Nat):(rD cs k).length=cs.length:=by unfold rD;rw[aZ,aL,cK,List.length_drop];omega
def YV (cs:List nM)(k:Nat)(h:k<cs.length):(rD cs k)[k]'(by rw[I2];exact h)=cs[k]:=by unfold rD;rw[List.getElem_append_right (by rw[aL,cK];omega)];simp only[aL,cK,List.getElem_drop];congr 1;omega
def Qp (cs:List nM)(k:Nat)(h:k<cs.length):rD cs (k+1)=(rD cs k).set k (su cs[k]):=by unfold rD;rw[oA _ _ (by rw[aL,cK];omega),aL,cK,Nat.min_eq_left (by omega),Nat.sub_self,List.drop_eq_getElem_cons h,List.set_cons_zero,bh h,ey];simp
def Uy (cs:List nM):rD cs cs.length=cs.map su:=by unfold rD;simp
def uU {α:Type}(P X Q Y:List α)(o n:Nat)(ho:P.length=o)(hx:X.length=n)(hy:Y.length=n):(P++X++Q).take o++Y++(P++X++Q).drop (o+n)=P++Y++Q:=by rw[cx P X Q,List.take_left' ho,qd,iU (by omega),cy,ho,iL,List.drop_left' hx]
def In.Vy {G:Nat->Prop}{w0 w:ah}{l:List bU}{g c:Nat}{cs:List nM}{k:Nat}(h:In G w0 (j4 (.slice (ae ⟨g,0,ai⟩) cs.length c) cs::l) w)(hk:k<cs.length):In G w0 (j4 (.slice (ae ⟨g,0,ai⟩) cs.length c) (cs.set k (su cs[k]))::l) (putRow (putRow w g (k *20+2) (mq cs[k].now)) g (k *20+11) (mq cs[k].old))/\In G w0 (j4 (.slice (ae ⟨g,0,ai⟩) cs.length c) (cs.set k (su cs[k]))::l) (putRow (putRow w g (k *20+11) (mq cs[k].old)) g (k *20+2) (mq cs[k].now)):=by
 have hle:(k+1) *20<=cs.length *20:=fC _ hk;have e4: ∀y,cs.set k y=cs.take k++y::cs.drop (k+1):=λy=>by rw[List.set_eq_take_append_cons_drop,if_pos hk]
 have hX:cs.flatMap cC=(cs.take k).flatMap cC++cC cs[k]++(cs.drop (k+1)).flatMap cC:=by
  have h1:=e4 cs[k];rw[List.set_getElem_self]at h1
  conv=>lhs;rw[h1]
  rw[dG,bN,cx]
 have hP:((cs.take k).flatMap cC).length=k *20:=by rw[tv Xx,cK,Nat.min_eq_left (by omega)]
 have hY:(cs.set k (su cs[k])).flatMap cC=(cs.take k).flatMap cC++cC (su cs[k])++(cs.drop (k+1)).flatMap cC:=by rw[e4,dG,bN,cx]
 have yA:(cs.set k (su cs[k])).length=cs.length:=de;generalize hx:cs[k]=x at *;have c1:cC x=[aF .i64 x.at_.1,.int .i64 x.at_.2]++(mq x.old).map (aF .i64)++(mq x.now).map (aF .i64):=by unfold cC cL;simp
 have c2:cC (su x)=[aF .i64 x.at_.1,.int .i64 x.at_.2]++(mq x.now).map (aF .i64)++(mq x.old).map (aF .i64):=by unfold cC cL su;simp
 have lo:((mq x.old).map (aF .i64)).length=9:=by rw[aL,il]
 have ln:((mq x.now).map (aF .i64)).length=9:=by rw[aL,il]
 rw[gY,jE]at hle;have go:(putRow (putRow w g (k *20+2) (mq x.now)) g (k *20+11) (mq x.old)).heap.size=w.heap.size:=by rw[jb,jb]
 generalize (cs.take k).flatMap cC=P at *;generalize (cs.drop (k+1)).flatMap cC=Q at *;have hS:([aF .i64 x.at_.1,.int .i64 x.at_.2]:List ao).length=2:=rfl;generalize ([aF .i64 x.at_.1,.int .i64 x.at_.2]:List ao)=S at *;have key: ∀(A B:List ao),A.length=9->B.length=9->P++(S++A++B)++Q=(P++S)++A++(B++Q)/\P++(S++A++B)++Q=(P++S++A)++B++Q:=λA B _ _=>⟨by simp,by simp⟩
 have hPS:(P++S).length=k *20+2:=by rw[aZ,hP,hS]
 constructor
 ·have h1:=h.KU (o:=k *20+2) (ys:=mq x.now) (by rw[il];omega);rw[hX,c1,(key _ _ lo ln).1,il,uU _ _ _ _ _ _ hPS lo ln]at h1;have h2:=h1.KU (o:=k *20+11) (ys:=mq x.old) (by rw[il];omega);rw[show(P++S)++(mq x.now).map (aF .i64)++((mq x.now).map (aF .i64)++Q)=(P++S++(mq x.now).map (aF .i64))++(mq x.now).map (aF .i64)++Q from by simp,il,uU _ _ _ _ _ _ (by rw[aZ,hPS,ln]) ln lo]at h2;unfold j4;rw[yA,hY,c2,(key _ _ ln lo).2];exact h2
 ·have h1:=h.KU (o:=k *20+11) (ys:=mq x.old) (by rw[il];omega);rw[hX,c1,(key _ _ lo ln).2,il,uU _ _ _ _ _ _ (by rw[aZ,hPS,lo]) ln lo]at h1;have h2:=h1.KU (o:=k *20+2) (ys:=mq x.now) (by rw[il];omega);rw[show(P++S++(mq x.old).map (aF .i64))++(mq x.old).map (aF .i64)++Q=(P++S)++(mq x.old).map (aF .i64)++((mq x.old).map (aF .i64)++Q)from by simp,il,uU _ _ _ _ _ _ hPS lo ln]at h2;unfold j4;rw[yA,hY,c2,(key _ _ ln lo).1];exact h2
def Ot {w:ah}{g o n:Nat}{xs:List Int}(h:row? w g o n=ae (ints xs))(a m:Nat)(ham:a+m<=n):row? w g (o+a) m=ae (ints ((xs.drop a).take m)):=by
 unfold row? at *
 split at h
 ·split at h
  ·rename_i hle
   injection h with h
   rw[if_pos (by omega)];congr 1;have h2:(ints xs).extract a (a+m)=ints ((xs.drop a).take m):=by unfold ints;apply oz;simp[List.map_drop,List.map_take,List.extract_eq_take_drop]
   rw[<-h2,<-h,Array.extract_extract,Nat.min_eq_left (by omega),sZ]
  ·cases h
 ·cases h
def IA {w:ah}{g o n:Nat}(h:fits w g o n=aw)(a m:Nat)(ham:a+m<=n):fits w g (o+a) m=aw:=by
 unfold fits at *
 split at h
 ·rw[decide_eq_true_eq]at h|-;omega
 ·cases h
def MT {w:ah}{g o n o':Nat}{ys:List Int}(h:fits w g o n=aw)(h':fits w g o' ys.length=aw):fits (putRow w g o' ys) g o n=aw:=by
 unfold fits at *
 split at h
 ·rename_i cs t hg
  rw[hg]at h';simp only[decide_eq_true_eq]at h h';simp[putRow,bq,hg];omega
 ·cases h
def Qq (A:Option Addr)(c:Nat)(cs:List nM)(w:ah)(h:Ay w w.heap.size A cs)(hA:(A=ai/\cs.length=0/\c=0)\/ ∃ad,A=ae ad)(hl:cs.length<=879609302195):Calls aj 33 #[.slice A cs.length c] w λe w'=> ∃v,e=.returned v/\In (λ_=>False) w [j4 v (xP cs)] w':=by
 have HC:Hid (Reads w w.heap.size 20 A cs.length (cs.flatMap cC)):=by have:=J' (by decide) h;rw[aL,List.flatMap_map]at this;exact this
 have H1:Hid (∀u∈cs.flatMap cC,u.oneCell'=aw):=λu hu=>by
  obtain⟨x,_,hx⟩:=List.mem_flatMap.1 hu;obtain⟨y,_,rfl⟩:=aH.1 hx
  rfl
 have HL:=af hl;have HA:=af hA;clear h hl hA
 go_enter Tryz.func33,Tryz.ntmps33
 go_wp2_with fail
 refine(CR A cs.length c (cs.flatMap cC) w w.heap.size HC.out H1.out HA.out HL.out).mono ?_;rintro e w1 ⟨v,rfl,ho,hb⟩;have qB:Hid (In (λ_=>False) w [j4 v cs] w1):=(In.nil w _).new (A:=j4 v cs) hb ⟨EU ho,λk hk=>(gJ ho k hk).1⟩;clear ho hb HC H1
 go_wp2_with fail
 refine(Ol qB.out).mono ?_;rintro e w2 ⟨rfl,gm⟩;have HLR:Hid (cs.reverse.length<=879609302195):=by rw[Hid,List.length_reverse];exact HL.out
 have HV:Hid (xP cs=cs.reverse.map su):=rfl;clear qB;generalize cs.reverse=ds at *;obtain⟨A2,c2,rfl,vA,uL,hA2⟩:=cM gm.rowAt;have gu:=af gm;have HA2:=af hA2;have Dm:(ds.length:Int)<=879609302195:=by have:=HLR.out;omega
 clear gm hA2 vA uL
 go_wp2_with fail
 go_loopw [11] (λi w'=> ∃k:Nat,k<=ds.length/\i=.int .i64 k/\In (λ_=>False) w [j4 (.slice A2 ds.length c2) (rD ds k)] w') (λi _=>ds.length-(intOf i).toNat)
 case atStart=>exact⟨0,by omega,rfl,gu.out⟩
 case round=>
  clear gu;obtain⟨k,hk,rfl,hI⟩:=hrel;have HI:=af hI;clear hI;by_cases bJ:k<ds.length
  ·have vI:(k:Int)<ds.length:=by omega
   obtain⟨g,rfl⟩:=HA2.out (by omega);have qN:=af (Qp ds k bJ);have vl:=YV ds k bJ;have hlen:=I2 ds k;have gm:In (λ_=>False) w [j4 (.slice (ae ⟨g,0,ai⟩) (rD ds k).length c2) (rD ds k)] wr:=by rw[hlen];exact HI.out
   obtain⟨C2,tF⟩:=gm.Vy (k:=k) (by omega);have hr:=gm.chg (k:=k) (by omega);have hf:=gm.XX (k:=k) (by omega);rw[vl]at C2 tF hr;rw[hlen,<-qN.out]at C2 tF;have q1:row? wr g (k *20+2) 9=ae (ints (mq ds[k].old)):=by rw[Ot hr 2 9 (by omega)];unfold cL;simp only[mZ,List.drop_zero];rw[List.take_left' (il _)]
   have q2:row? wr g (k *20+11) 9=ae (ints (mq ds[k].now)):=by rw[Ot hr 11 9 (by omega)];unfold cL;simp only[mZ];rw[List.drop_left' (il _),ck (by rw[il];omega)]
   have f1:=IA hf 2 9 (by omega);have f2:=IA hf 11 9 (by omega);have l1:=il ds[k].old;have l2:=il ds[k].now;generalize mq ds[k].old=xs at *;generalize mq ds[k].now=ys at *;have f3:fits (putRow wr g (k *20+2) ys) g (k *20+11) 9=aw:=MT f2 (by rw[l2];exact f1);have f4:fits (putRow wr g (k *20+11) xs) g (k *20+2) 9=aw:=MT f1 (by rw[l1];exact f2);have V6:=af C2;have RU:=af tF;clear C2 tF hr hf gm vl hlen qN HI
   go_upto_region 6 with(fail)
   go_region
   all_goals
    (first
      |(have HJN:Hid (In (λ_=>False) w [j4 (.slice (ae ⟨g,0,ai⟩) ds.length c2) (rD ds (k+1))] (putRow (putRow wr g (k *20+2) ys) g (k *20+11) xs).drew):=V6.out.drew
        obtain⟨W9,Ap⟩: ∃W9,(putRow (putRow wr g (k *20+2) ys) g (k *20+11) xs).drew=W9:=⟨_,rfl⟩;rw[Ap];rw[Ap]at HJN)
      |(have HJN:Hid (In (λ_=>False) w [j4 (.slice (ae ⟨g,0,ai⟩) ds.length c2) (rD ds (k+1))] (putRow (putRow wr g (k *20+11) xs) g (k *20+2) ys).drew):=RU.out.drew
        obtain⟨W9,Ap⟩: ∃W9,(putRow (putRow wr g (k *20+11) xs) g (k *20+2) ys).drew=W9:=⟨_,rfl⟩;rw[Ap];rw[Ap]at HJN))
    clear Ap q1 q2 f1 f2 f3 f4
    go_wp2_with fail
    go_roundw
    case rel=>exact⟨k+1,by omega,by go_num,HJN.out⟩
    case measure=>simp[intOf];omega
  ·have vI:(ds.length:Int)<=k:=by omega
   have HE:Hid (rD ds k=xP cs):=by
    have:k=ds.length:=by omega
    rw[Hid,HV.out,this,Uy]
   go_wp2_with fail
   go_ret;refine⟨_,rfl,?_⟩;have h1:=HI.out;have h2:(xP cs).length=ds.length:=by rw[HV.out,aL]
   rw[HE.out]at h1;unfold j4;rw[h2];have h3:=h1;unfold j4 at h3;rw[h2]at h3;exact h3
structure qm (w:ah) (A:Option Addr) (a:List eE):Prop where
 reads:RowsIn w w.heap.size A a
 ok: ∀r∈a,ki r
 len:a.length<=maxLen
structure wZ (w:ah) (A:Option Addr) (a:List nM):Prop where
 reads:Ay w w.heap.size A a
 ok: ∀r∈a,DJ r
 len:a.length<=maxLen
def qm.after {w w':ah}{A:Option Addr}{a:List eE}(h:qm w A a)(hb:Below w.heap.size w w'):qm w' A a:=⟨(fi.below h.reads hb).more hb.size,h.ok,h.len⟩
def wZ.after {w w':ah}{A:Option Addr}{a:List nM}(h:wZ w A a)(hb:Below w.heap.size w w'):wZ w' A a:=⟨(fi.below h.reads hb).more hb.size,h.ok,h.len⟩
def J5 {a b:List eE}(ha: ∀r∈a,ki r)(hb: ∀r∈b,ki r): ∀c∈(jk a b).1,DJ c:=by
 unfold jk
 split
 ·intro c hc;obtain⟨h1,_,_⟩:=Cp hc;rw[h1];exact⟨vZ ha _,vZ hb _⟩
 ·intro c hc;simp at hc
def abw {cs:List nM}(h: ∀c∈cs,DJ c): ∀c∈xP cs,DJ c:=λc hc=>by unfold xP at hc;obtain⟨d,hd,rfl⟩:=aH.1 hc;have:=h d (List.mem_reverse.1 hd);exact⟨this.2,this.1⟩
section
variable {G:Nat->Prop} {w0 w:ah} {l:List bU} {v u:ao}
def In.Aa {rs:List eE}(h:In G w0 (qS v rs::l) w)(rY: ∀r∈rs,ki r): ∃A c,v=.slice A rs.length c/\qm w A rs:=by obtain⟨A,c,rfl,h1,h2,h3⟩:=RowsIn.own h.rowAt;exact⟨A,c,rfl,h3,rY,by omega⟩
def In.R5 {cs:List nM}(h:In G w0 (j4 v cs::l) w)(rY: ∀r∈cs,DJ r): ∃A c,v=.slice A cs.length c/\wZ w A cs/\((A=ai/\cs.length=0/\c=0)\/ ∃ad,A=ae ad):=by
 obtain⟨A,c,rfl,h1,h2,h3,h4⟩:=EV (f:=cL) (λ_=>rfl) AJ h.rowAt;refine⟨A,c,rfl,⟨h3,rY,by omega⟩,?_⟩;cases A with
 |some ad=>exact bO ⟨ad,rfl⟩
 |none=>
  left;refine⟨rfl,?_⟩;rcases h.rowAt.2 with h|⟨g,cap,cur,e,_⟩
  ·injection h.1 with e1 e2 e3
   exact⟨e2,e3⟩
  ·cases e
def Ea {A A':Option Addr}(c c':Nat){a b:List eE}(ha:qm w A a)(hb:qm w A' b):Calls aj 34 #[.slice A a.length c,.slice A' b.length c'] w λe w'=>e=.returned (.bool (decide (a=b)))/\Below w.heap.size w w':=by
 have:=T4 A A' c c' (a.map rL) (b.map rL) w ha.reads hb.reads (by rw[aL];exact ha.len) (by rw[aL];exact hb.len);have hd:oa (a.map rL) (b.map rL)=decide (a=b):=by
  unfold oa;rw[l8,decide_eq_true_eq,decide_eq_true_eq];constructor
  ·intro h;have h1:=ha.ok;have h2:=hb.ok;clear this ha hb
   induction a generalizing b with
   |nil=>cases b with
    |nil=>rfl
    |cons _ _=>simp at h
   |cons x a ih=>cases b with
    |nil=>simp at h
    |cons y b=>
     rw[eN,eN]at h;injection h with e1 e2
     rw[aeG (h1 x (by simp)) (h2 y (by simp)) e1,ih e2 (λr hr=>h1 r (by simp[hr])) (λr hr=>h2 r (by simp[hr]))]
  ·rintro rfl;rfl
 rw[aL,aL,hd]at this;exact this
def PG {A A':Option Addr}(c c':Nat){a b:List eE}(h:In G w0 l w)(ha:qm w A a)(hb:qm w A' b):Calls aj 31 #[.slice A a.length c,.slice A' b.length c'] w λe w'=> ∃v,e=.returned (.tuple #[v,.int .i64 (jk a b).2])/\In G w0 (j4 v (jk a b).1::l) w'/\Below w.heap.size w w':=by refine(Mk A A' c c' a b w ha.reads hb.reads ha.ok hb.ok ha.len hb.len).mono ?_;rintro e w' ⟨v,rfl,hI⟩;exact⟨v,rfl,h.new (A:=j4 v (jk a b).1) hI.jI hI.fresh,hI.jI⟩
def Me {A A':Option Addr}(c c':Nat){a:List eE}{cs:List nM}(h:In G w0 l w)(ha:qm w A a)(hb:wZ w A' cs):Calls aj 32 #[.slice A a.length c,.slice A' cs.length c'] w λe w'=> ∃v,e=.returned (.tuple #[v,.int .i64 (lE a cs).2])/\In G w0 (qS v (lE a cs).1::l) w'/\Below w.heap.size w w':=by refine(TN A A' c c' a cs w ha.reads hb.reads ha.ok hb.ok ha.len hb.len).mono ?_;rintro e w' ⟨v,rfl,hI⟩;exact⟨v,rfl,h.new (A:=qS v (lE a cs).1) hI.jI hI.fresh,hI.jI⟩
def Uz {A:Option Addr}(c:Nat){cs:List nM}(h:In G w0 l w)(ha:wZ w A cs)(hA:(A=ai/\cs.length=0/\c=0)\/ ∃ad,A=ae ad)(hl:cs.length<=879609302195):Calls aj 33 #[.slice A cs.length c] w λe w'=> ∃v,e=.returned v/\In G w0 (j4 v (xP cs)::l) w'/\Below w.heap.size w w':=by refine(Qq A c cs w ha.reads hA hl).mono ?_;rintro e w' ⟨v,rfl,hI⟩;exact⟨v,rfl,h.new (A:=j4 v (xP cs)) hI.jI hI.fresh,hI.jI⟩
end
def H9 (r:cQ):eE:=(r.h,r.b.list)
def EK: ∀{l:List eE} {p:Option Int},(∀r∈l,uY r=aw)->l.Pairwise (λr s=>r.1.1<s.1.1)->(∀q,p=ae q-> ∀r∈l,q<r.1.1)->j7 p l=aw
 | [],_,_,_,_=>rfl
 |r::l,p,h1,h2,h3=>by
  obtain⟨h4,h5⟩:=List.pairwise_cons.1 h2;unfold j7;rw[h1 r (by simp),EK (λs hs=>h1 s (by simp[hs])) h5 (λq hq s hs=>by cases hq;exact h4 s hs)];cases p with
  |none=>rfl
  |some q=>simp[h3 q rfl r (by simp)]
def Jz {z:ZS}(hk:kI z):lj (z.rows.map H9)=aw:=by
 have hl:z.rows.length<=60:=ze hk.w;unfold lj;rw[aG,decide_eq_true_eq,aL];refine⟨EK (λr hr=> ?_) ?_ (λq hq=>by cases hq),hl⟩
 ·obtain⟨x,hx,rfl⟩:=aH.1 hr;obtain⟨_,hb,_,_⟩:=zg hk.w hx;obtain⟨s,e1,e2,e3⟩:=TM hk.w hx;obtain⟨h60,Us⟩:=hk.w.so;obtain⟨g1,g2,_⟩:=Us _ (bg e2);rw[AS,aY,dN,aq e2]at e3;have e3:z.ls[s].1=x.h.2:=e3;rw[e3]at g1 g2;have gF:bI (toaQ x.b.list)=0:=hb;unfold uY H9;simp only[aG,decide_eq_true_eq];exact⟨⟨⟨⟨by omega,by omega⟩,g1⟩,g2⟩,gF⟩
 ·rw[List.pairwise_map];have h:=uy z.ls z.f;exact h.imp λh=>h
def Ov {z:ZS}(hk:kI z): ∀r∈z.rows.map H9,ki r:=λr hr=>by obtain⟨x,hx,rfl⟩:=aH.1 hr;have:=(zg hk.w hx).1;show x.b.list.length=9;simp[aQ.list,this]
def CG: ∀{rs:List cQ},(∀r∈rs,r.b.v.length=8)->(rs.map H9).flatMap rC=rs.flatMap C7
 | [],_=>rfl
 |r::rs,h8=>by
  rw[eN,bN,bN,CG λx hx=>h8 x (by simp[hx])];congr 1;show(rL (H9 r)).map _=(Bs r).map _;have h1:ki (H9 r):=by show r.b.list.length=9;simp[aQ.list,h8 r (by simp)]
  rw[Le (h8 r (by simp)),Jm h1]
  rfl
def S7 {v:ao}{rs:List cQ}(h8: ∀r∈rs,r.b.v.length=8):eo v rs=qS v (rs.map H9):=by show eD _ _ _ _ _=eD _ _ _ _ _;rw[CG h8,aL]
noncomputable def Sn (z:ZS)(qs:List lD):ZS:=qs.foldl (λz o=>(wa z o).1) z
def X7 {z:ZS}{qs:List lD}{k:Nat}(h:k<qs.length):Sn z (qs.take (k+1))=(wa (Sn z (qs.take k)) qs[k]).1:=by unfold Sn;rw[bh h,j5];rfl
def P5: ∀{qs:List lD} {z:ZS},kI z->(∀o∈qs,o.b.v.length=8)->kI (Sn z qs)
 | [],_,hz,_=>hz
 |o::qs,z,hz,h=>P5 (qs:=qs) (hz.do_ (h o (by simp))) λx hx=>h x (by simp[hx])
section
variable {G:Nat->Prop} {w0 w:ah} {l:List bU} {p:Nat} {z:ZS} {gv rv bv:ao}
end
section
variable {G:Nat->Prop} {w0 w:ah} {l:List bU} {p:Nat}
def abt (A:Option Addr)(c:Nat)(f:ao)(w:ah):Calls aj 247 #[.slice A 0 c,f] w λe w'=>e=.returned (.int .i64 (-1))/\w=w':=by
 go_enter Tryz.func247,Tryz.ntmps247
 go_wp2_with fail
 go_loopw [8] (λi w'=>i=.int .i64 0/\w=w') (λ_ _=>0)
 case atStart=>exact⟨rfl,rfl⟩
 case round=>
  obtain⟨rfl,rfl⟩:=hrel
  go_wp2_with fail
  go_ret;exact⟨rfl,rfl⟩
def D7 (A:Option Addr)(c:Nat)(f:ao)(w:ah):Calls aj 238 #[.slice A 0 c,f] w λe w'=>e=.returned (.bool ay)/\w=w':=by
 go_enter Tryz.func238,Tryz.ntmps238
 go_wp2_with fail
 refine(abt A c f w).mono ?_;rintro e w' ⟨rfl,rfl⟩
 go_wp2_with fail
 go_ret;exact⟨rfl,rfl⟩
def abu (A:Option Addr)(c:Nat)(x:Int)(b:Bool)(w:ah):Calls aj 248 #[.slice A 0 c,.agg #[.int .i64 x,.bool b]] w λe w'=>e=.returned (.int .i64 (-1))/\Below w.heap.size w w':=by
 go_enter Tryz.func248,Tryz.ntmps248
 go_upto_region 1 with(fail)
 refine bZ (λw'=>Below w.heap.size w w') ((Below.refl _ _).alloc (ax _) _) ?_;intro w1 hb
 go_wp2_with fail
 go_loopw [8] (λi w'=>i=.int .i64 0/\Below w.heap.size w w') (λ_ _=>0)
 case atStart=>exact⟨rfl,hb⟩
 case round=>
  obtain⟨rfl,hb⟩:=hrel
  go_wp2_with fail
  go_ret;exact⟨rfl,hb⟩
def PT (A:Option Addr)(c:Nat)(x:Int)(b:Bool)(w:ah):Calls aj 241 #[.slice A 0 c,.agg #[.int .i64 x,.bool b]] w λe w'=>e=.returned (.bool ay)/\Below w.heap.size w w':=by
 go_enter Tryz.func241,Tryz.ntmps241
 go_upto_region 1 with(fail)
 refine bZ (λw'=>dt w' w.heap.size 172 #[.int .i64 x,.bool b]/\Below w.heap.size w w') ⟨dt.new _ _ _,(Below.refl _ _).alloc (ax _) _⟩ ?_;rintro w1 ⟨hB,hb⟩;have q1:row? w1 w.heap.size 0 2=ae #[.int .i64 x,.bool b]:=hB.row 0 2 (by simp);clear hB
 go_wp2_with fail
 refine(abu A c x b w1).mono ?_;rintro e w2 ⟨rfl,gF⟩;have IV:=hb.trans (gF.mono hb.size);clear q1 hb gF
 go_wp2_with fail
 go_ret;exact⟨rfl,IV⟩
def aeR (A A':Option Addr)(c c':Nat)(w:ah):Calls aj 213 #[.slice A 0 c,.slice A' 0 c'] w λe w'=> ∃p,e=.returned (.tuple #[.pointer (ae ⟨p,0,ai⟩),.int .i64 0])/\eM w' p [] (λk=>w.heap.size<=k)/\Below w.heap.size w w':=by
 go_enter Tryz.func213,Tryz.ntmps213
 go_upto_region 1 with(fail)
 refine bZ (λw'=>dt w' w.heap.size 32 #[.slice A 0 c]/\Below w.heap.size w w') ⟨dt.new _ _ _,(Below.refl _ _).alloc (ax _) _⟩ ?_;rintro w1 ⟨Eo,lJ⟩;have c1:w1.cell? ⟨w.heap.size,0,ai⟩=ae (.slice A 0 c):=Eo.cell 0;have qk:=af Eo;have Pf:=af lJ;clear Eo lJ
 go_wp2_with fail
 refine(D7 A c _ w1).mono ?_;rintro e w' ⟨rfl,rfl⟩
 go_wp2_with fail
 refine(D7 A' c' _ w1).mono ?_;rintro e w' ⟨rfl,rfl⟩
 go_wp2_with fail
 refine(SP w1).mono ?_;rintro e w2 ⟨rfl,tF,gF⟩;have RU:Hid (eM w2 w1.heap.size [] (λq=>w1.heap.size<=q)):=tF.mono λk _ hk=>by rcases hk with hk|hk;exact absurd hk (by simp);exact hk.1
 have pW:=af gF;clear tF gF;have c2:w2.cell? ⟨w.heap.size,0,ai⟩=ae (.slice A 0 c):=(pW.out.cell (p:=⟨w.heap.size,0,ai⟩) (rX _ _ c1)).trans c1;clear c1
 go_wp2_with fail
 go_loopw [25] (λi w'=>i=.int .i64 0/\w2=w') (λ_ _=>0)
 case atStart=>exact⟨rfl,rfl⟩
 case round=>
  obtain⟨rfl,rfl⟩:=hrel
  go_wp2_with fail
  go_loopw [43] (λi w'=>i=.int .i64 0/\w2=w') (λ_ _=>0)
  case atStart=>exact⟨rfl,rfl⟩
  case round=>
   obtain⟨rfl,rfl⟩:=hrel;obtain⟨A2,c3,f1,f2,f3,f4,f5,f6,f7,f8⟩:=(show kM 170 172 2 yh w2 w1.heap.size [] (λq=>w1.heap.size<=q)from RU.out).slice;have hs:=RU.out;clear c2 f2 f3 f4 f5 f6 f7 f8;have f1:w2.cell? ⟨w1.heap.size,0,ai⟩=ae (.slice A2 0 c3):=f1
   go_wp2_with fail
   refine(PT A2 c3 1000000 aw w2).mono ?_;rintro e w4 ⟨rfl,LO⟩;have aij:=Pf.out.size;have aiY:=pW.out.size;have HSL:Hid (eM w4 w1.heap.size [] (λk=>w.heap.size<=k)):=(hs.only (G:=λ_=>False) (db.gA LO) (λ_ _ h=>h)).mono λk _ h=>by omega
   have W8:Hid (Below w.heap.size w w4):=Pf.out.trans ((pW.out.mono aij).trans (LO.mono (by omega)));clear hs LO f1
   go_wp2_with fail
   go_ret2
   exact⟨_,rfl,HSL.out,W8.out⟩
def ae1 (A A':Option Addr)(c c':Nat)(h:In G w0 l w):Calls aj 167 #[.slice A 0 c,.slice A' 0 c'] w λe w'=> ∃p,e=.returned (.tuple #[.pointer (ae ⟨p,0,ai⟩),.int .i64 0])/\In G w0 (dR p [] (λ_=>ai)::l) w':=by
 have HI:=af h;clear h
 go_enter Tryz.func167,Tryz.ntmps167
 go_wp2_with fail
 go_loopw [20,6] (λi v w'=>i=.int .i64 0/\v=.slice ai 0 0/\w=w') (λ_ _ _=>0)
 case atStart=>exact⟨rfl,rfl,rfl⟩
 case round=>
  obtain⟨rfl,rfl,rfl⟩:=hrel
  go_wp2_with fail
  refine(aeR A ai c 0 w).mono ?_;rintro e w2 ⟨p1,rfl,C2,gF⟩;have gu:Hid (In G w0 (cI p1 []::l) w2):=HI.out.new (A:=cI p1 []) gF C2;clear gF C2 HI
  go_wp2_with fail
  refine(Ts gu.out).mono ?_;rintro e w3 ⟨p,rfl,fj⟩;obtain⟨sp,tb,pb,T,hT,gq⟩:=fj.lz;have c1:w3.cell? ⟨p,0,ai⟩=ae (.pointer (ae ⟨sp,0,ai⟩)):=gq.blk.cell 0;have c2:w3.frozen? ⟨p,0,ai⟩=ay:=gq.blk.frozen _;have L5:Hid (∀W,W=w3.setCell ⟨p,0,ai⟩ (.pointer (ae ⟨p1,0,ai⟩))->In G w0 (nT p p1 [] (λ_=>ai)::l) W):=λW e=>by rw[e];have h1:=In.set gq 0 (.pointer (ae ⟨p1,0,ai⟩));have h2:In G w0 (br p 108 #[.pointer (ae ⟨p1,0,ai⟩),.map (ae tb),.map (ae pb)]::cI p1 []::PtrMap tb (T.ks.map λK=>(K,T.pt K))::bR pb T.ps::((cI sp []::l)++T.ks.map (dI T))) (w3.setCell ⟨p,0,ai⟩ (.pointer (ae ⟨p1,0,ai⟩))):=h1.reorder 5 [0,4,2,3,1] rfl (by simp);exact(In.yP hT h2).swap.drop
  clear fj gq hT gu
  go_upto_region 14 with(fail)
  refine bZ (In G w0 (nT p p1 [] (λ_=>ai)::l)) (L5.out _ rfl) ?_;clear c1 c2 L5;intro w4 gq;have iR:=af gq;clear gq
  go_wp2_with fail
  go_loopw [47] (λi w'=>i=.int .i64 0/\w4=w') (λ_ _=>0)
  case atStart=>exact⟨rfl,rfl⟩
  case round=>
   obtain⟨rfl,rfl⟩:=hrel;have pw:=af iR.out.Lv
   go_wp2_with fail
   go_ret2
   exact⟨p,rfl,pw.out⟩
def ae5 (A A' A2:Option Addr)(c c' c2:Nat)(h:In G w0 l w):Calls aj 107 #[.agg #[.slice A 0 c,.slice A' 0 c',.slice A2 0 c2]] w λe w'=> ∃p,e=.returned (.tuple #[ptr p,.int .i64 0])/\In G w0 (di p vF::l) w':=by
 have H0:=af h;clear h
 go_enter Tryz.func107,Tryz.ntmps107
 go_upto_region 1 with(fail)
 refine bZ (In G w0 (br w.heap.size 36 #[.slice A 0 c,.slice A' 0 c',.slice A2 0 c2]::l)) (H0.out.alloc 36 _) ?_;generalize w.heap.size=sb;intro w1 km;have c0:w1.cell? ⟨sb,0,ai⟩=ae (.slice A 0 c):=km.blk.cell 0;have c1:w1.cell? ⟨sb,1,ai⟩=ae (.slice A' 0 c'):=km.blk.cell 1;have qB:=af km;clear km H0
 go_wp2_with fail
 refine(ae1 A A' c c' qB.out).mono ?_;rintro e w2 ⟨wp,rfl,gm⟩;have gu:=af gm;clear gm qB c0 c1
 go_wp2_with fail
 refine(Sg gu.out).mono ?_;rintro e w3 ⟨fp,rfl,fj⟩
 go_upto_region 5 with(fail)
 refine bZ (In G w0 (di w3.heap.size vF::br sb 36 #[.slice A 0 c,.slice A' 0 c',.slice A2 0 c2]::l)) (In.oc (z:=vF) (m:=[]) Il ((fj.alloc 83 #[ptr wp,ptr fp]).perm ((cJ _ _ _).cons _))) ?_;generalize w3.heap.size=p;clear fj gu;intro w4 gq;have c3:w4.cell? ⟨sb,2,ai⟩=ae (.slice A2 0 c2):=gq.swap.blk.cell 2;have iR:=af gq;clear gq
 go_wp2_with fail
 go_loopw [31] (λi w'=>i=.int .i64 0/\w4=w') (λ_ _=>0)
 case atStart=>exact⟨rfl,rfl⟩
 case round=>
  obtain⟨rfl,rfl⟩:=hrel;clear c3
  go_wp2_with fail
  go_ret2
  exact⟨p,rfl,iR.out.swap.drop⟩
end
section
variable {sp:List Hd} {x:Hd} {o:lD}
end
section
variable {G:Nat->Prop} {w0 w:ah} {l:List bU} {p:Nat} {z:ZS} {B:Nat} {A:Option Addr} {c:Nat} {os:List lD}
end
section
variable {G:Nat->Prop} {w0 w:ah} {l:List bU} {p g:Nat} {z:ZS} {c:Nat} {os:List lD} {t:aA}
def IE {α:Type}(f:α->List Int)(xs:List α)(k n:Nat)(hf: ∀x∈xs,(f x).length=n)(hk:k<xs.length):((xs.flatMap f).drop (k *n)).take n=f xs[k]:=by
 induction xs generalizing k with
 |nil=>simp at hk
 |cons x xs ih=>
  have hx:=hf x (by simp);cases k with
  |zero=>rw[Nat.zero_mul,List.drop_zero,bN,List.take_left' hx];rfl
  |succ k=>rw[bN,Nat.succ_mul,dA,<-List.drop_drop,List.drop_left' hx];exact ih k (λy hy=>hf y (by simp[hy])) (by simpa using hk)
def sJ {α:Type}(f:α->List Int)(xs:List α)(n:Nat)(hf: ∀x∈xs,(f x).length=n):(xs.flatMap f).length=xs.length *n:=by
 induction xs with
 |nil=>simp
 |cons x xs ih=>rw[bN,aZ,hf x (by simp),ih λy hy=>hf y (by simp[hy]),aD];rw[Nat.succ_mul];omega
def nD.EP {F:Nat->Prop}(h:dt w g t (ints (os.flatMap lD.list)))(h8: ∀o∈os,o.b.v.length=8)(hF: ¬F g):nD F w (g+1) (ae ⟨g,0,ai⟩) os:=by
 intro W hI;have bJ:=h.lt;have hB:dt W g t (ints (os.flatMap lD.list)):=(hI.old bJ hF).trans h;refine⟨λr hr=>by obtain⟨x,hx,rfl⟩:=aH.1 hr;exact lD.len (h8 x hx),λh0=>⟨g,0,rfl,by omega,λk r hr=> ?_⟩⟩;rw[dN]at hr;obtain⟨x,hx,rfl⟩:=aJ.1 hr;obtain⟨hk,rfl⟩:=bz.1 hx;have ago: ∀o∈os,(lD.list o).length=16:=λo ho=>lD.len (h8 o ho)
 have Wr:=sJ lD.list os 16 ago;have Yy:(k+1) *16<=os.length *16:=fC 16 hk;rw[bS,hB.eJ (k *16) 16 (by rw[Wr];omega),IE lD.list os k 16 ago hk]
end
def om (G:Nat->Prop)(w0:ah)(B:Nat)(A:Option Addr)(ss:List Sys):Prop:= ∀{W:ah},In G w0 [] W->vi W B A ss
def om.Bh {w:ah}{A:Option Addr}{ss:List Sys}(h:vi w w.heap.size A ss):om (λ_=>False) w w.heap.size A ss:=λhI=>h.below hI.jI
def om.EP {F:Nat->Prop}{w:ah}{g:Nat}{t:aA}{ss:List Sys}(h:dt w g t (ints (ss.flatMap Sys.list)))(hF: ¬F g):om F w (g+1) (ae ⟨g,0,ai⟩) ss:=by intro W hI;have bJ:=h.lt;have hB:dt W g t (ints (ss.flatMap Sys.list)):=(hI.old bJ hF).trans h;refine⟨λr hr=>by obtain⟨x,hx,rfl⟩:=aH.1 hr;rfl,λh0=>⟨g,0,rfl,by omega,λk r hr=> ?_⟩⟩;rw[dN]at hr;obtain⟨x,hx,rfl⟩:=aJ.1 hr;obtain⟨hk,rfl⟩:=bz.1 hx;have Wr:=sJ Sys.list ss 7 (λ_ _=>rfl);have Yy:(k+1) *7<=ss.length *7:=fC 7 hk;rw[bS,hB.eJ (k *7) 7 (by rw[Wr];omega),IE Sys.list ss k 7 (λ_ _=>rfl) hk]
def xU: ∀{l:List Int},iM l=0-> ∀e∈l,e=0
 | [],_,_,h=>by cases h
 |x::l,h,e,he=>by
  unfold iM at h
  split at h
  ·rename_i hx
   rcases cj.1 he with rfl|he
   ·exact hx
   ·exact xU h e he
  ·rename_i hx;exact absurd h hx
def KY {ss:List Sys}(h:(eF ss).2=0):(∀s∈ss,fa s=0)/\ss.length<=20:=by
 unfold eF at h
 split at h
 ·cases h
 ·rename_i hl
  split at h
  ·rename_i he
   exact⟨λs hs=>xU he _ (aH.2 ⟨s,hs,rfl⟩),by omega⟩
  ·rename_i he;exact absurd h he
def vC (z:ZS)(s:Sys)(j:Nat):ZS:=⟨z.ls,sr z.f s (z.rows.take j),z.B⟩
def Zd {z:ZS}(h:kI z)(s:Sys):vC z s z.rows.length=Rq z s:=by unfold vC;rw[dm];unfold ZS.rows;rw[Ox h.w];rfl
def Je {z:ZS}(s:Sys){j:Nat}(hj:j<z.rows.length):vC z s (j+1)=⟨z.ls,ei (vC z s j).f z.rows[j].h.1 (ae (z.rows[j].h.2,cD z.rows[j].b s)),z.B⟩:=by unfold vC;rw[bh hj,Ac]
def SN {z:ZS}(h:kI z)(s:Sys){j:Nat}(hj:j<z.rows.length):(vC z s j).f z.rows[j].h.1=ae (z.rows[j].h.2,z.rows[j].b):=by
 unfold vC;simp only;rw[CI]
 ·exact(nX h.w).1 (bg hj)
 ·intro r hr e;obtain⟨i,hi,rfl⟩:=dK.1 hr;rw[cK]at hi;have:=lO.1 (uy z.ls z.f) i j (show i<z.rows.length by omega) hj (by omega);rw[List.getElem_take]at e;unfold Z1 at this;change z.rows[i].h.1<z.rows[j].h.1 at this;omega
def abJ {z:ZS}(h:kI z)(s:Sys): ∀j,j<=z.rows.length->kI (vC z s j):=by
 intro j
 induction j with
 |zero=>intro _;exact h
 |succ j ih=>intro hj;have h1:=ih (by omega);have vl:=SN h s (show j<z.rows.length by omega);have hb:=h1.w.bo _ _ _ vl;have hl:=(h1.w.lv _ _).2 ⟨_,vl⟩;rw[Je s (show j<z.rows.length by omega)];exact⟨h1.w.upd hl ⟨zt _ _ hb.2 hb.1,by rw[fX];exact hb.2⟩,h.yw,h.Z5,h.lv⟩
def Iv (b:aQ)(s:Sys): ∀j,j∉kinds b.k.toNat->(cD b s).v.getD j 0=b.v.getD j 0:=by
 intro j hj;refine gS b s j λhm=>hj ?_
 have:=(nz b s j).1 hm;exact(jN _ _).2 ⟨this.1,this.2.1⟩
section
variable {G:Nat->Prop} {w0 w:ah} {l:List bU} {p:Nat} {z:ZS} {B:Nat} {A:Option Addr} {c:Nat} {ss:List Sys}
def Oz (h:In G w0 (di p z::l) w)(hk:kI z):Calls aj 37 #[ptr p] w λe w'=> ∃A c,e=.returned (.slice A z.rows.length c)/\In G w0 (eo (.slice A z.rows.length c) z.rows::di p z::l) w':=by
 have HK:=af hk;obtain⟨wp,fp,m,hm,hf,ha,gm⟩:=h.mC;obtain⟨sp,fj⟩:=gm.swap.aan;have c0:w.cell? ⟨p,0,ai⟩=ae (ptr wp):=gm.blk.cell 0;have HM:=af hm;have fW:=af fj;clear h gm fj hm hf ha hk;have HR:=af (Ow fW.out HK.out.w CM);rw[JQ,if_pos rfl,Fo Bc,FM]at HR
 go_enter Tryz.func37,Tryz.ntmps37
 go_wp2_with fail
 refine HR.out.mono ?_;rintro e w2 ⟨rv,rfl,hI⟩;obtain⟨A3,c3,rfl,_,_,_⟩:=cM hI.rowAt;have HI:Hid (In G w0 (eo (.slice A3 z.rows.length c3) z.rows::di p z::l) w2):=(In.oc (z:=z) HM.out (hI.swap.Lv.reorder 4 [2,0,3,1] rfl (by simp))).swap;clear hI HR fW
 go_wp2_with fail
 go_ret;exact⟨_,_,rfl,HI.out⟩
def Ra (hS:om G w0 B A ss)(hB:B<=w0.heap.size)(hlen:ss.length<=maxLen)(h:In G w0 (di p z::l) w)(hk:kI z):Calls aj 12 #[ptr p,.slice A ss.length c] w λe w'=>e=.returned (.int .i64 (eF ss).2)/\In G w0 (di p (if(eF ss).2=0 then lM z ss else z)::l) w':=by
 have HS:Hid (om G w0 B A ss):=hS;have HK:=af hk;have kZ:=af h;have hnm:(ss.length:Int)<=9223372036854775807:=by unfold maxLen at hlen;omega
 have HP:=af (NY A c ss w (fi.more (hS h.bare) (by have:=h.size;omega)) hlen);clear hS h hk hlen;obtain⟨pn,Nf⟩: ∃pn,(eF ss).2=pn:=⟨_,rfl⟩;rw[Nf]at HP|-;have HPN:=af Nf;clear Nf;obtain⟨zo,hzo⟩: ∃zo,zo=(if pn=0 then lM z ss else z):=⟨_,rfl⟩;rw[<-hzo];have HZO:=af hzo;clear hzo
 go_enter Tryz.func12,Tryz.ntmps12
 go_wp2_with fail
 refine HP.out.mono ?_;rintro e w2 ⟨v,rfl,ho,gF⟩;have gu:=af (kZ.out.below gF);clear ho gF HP kZ;by_cases he:pn=0
 rotate_left
 ·have eb:(pn !=0)=aw:=by simp[he]
  have HZ:Hid (zo=z):=HZO.out.trans (if_neg he);clear he HZO
  go_wp2_with fail
  go_ret;exact⟨rfl,by rw[HZ.out];exact gu.out⟩
 have HZ0:Hid (zo=lM z ss):=HZO.out.trans (if_pos he);clear HZO;subst he;have TD:=af (KY HPN.out).1;have h20:=(KY HPN.out).2;have ah6:(ss.length:Int)<=20:=by omega
 go_wp2_with fail
 go_loopw [21] (λi w'=> ∃k:Nat,k<=ss.length/\i=.int .i64 k/\In G w0 (di p (lM z (ss.take k))::l) w') (λi _=>ss.length-(intOf i).toNat)
 case atStart=>exact⟨0,cE _,rfl,gu.out⟩
 case round=>
  clear gu;obtain⟨k,hk,rfl,hI⟩:=hrel;by_cases bJ:k<ss.length
  ·have vI:(k:Int)<ss.length:=by omega
   obtain⟨g,o,rfl,hgb,q1⟩:=(HS.out hI.bare).at_ bJ;have e1:ss.getD k dB=ss[k]:=by simp[bB,bJ]
   rw[e1]at q1;have HSK:=af (TD.out ss[k] (bg bJ));have qN:=af (Vl z ss bJ);have HZ:=af (HK.out.run (ss.take k));have HI:=af hI;clear hI e1;generalize ss[k]=s at *;generalize lM z (ss.take k)=z1 at *
   go_upto_region 7 with(fail)
   refine bZ (In G w0 (br wr.heap.size 54 (ints s.list)::di p z1::l)) (HI.out.struct 54 [0,0,0,0,0,0,0] s.list rfl) ?_;generalize wr.heap.size=sb;intro w3 fj;have fW:=af fj.swap;clear fj HI q1
   go_wp2_with fail
   refine(Oz fW.out HZ.out).mono ?_;rintro e w4 ⟨rA,rc,rfl,gq⟩;have iR:Hid (In G w0 (di p (vC z1 s 0)::eo (.slice rA z1.rows.length rc) z1.rows::br sb 54 (ints s.list)::l) w4):=gq.swap;have Ps:=af (Zd HZ.out s);have HMO:Hid (∀j,j<=z1.rows.length->kI (vC z1 s j)):=λj=>abJ HZ.out s j
   have HMT:Hid (∀j (hj:j<z1.rows.length),(vC z1 s j).f z1.rows[j].h.1=ae (z1.rows[j].h.2,z1.rows[j].b)):=λj hj=>SN HZ.out s hj
   have HMS:Hid (∀j (hj:j<z1.rows.length),vC z1 s (j+1)=⟨(vC z1 s j).ls,ei (vC z1 s j).f z1.rows[j].h.1 (ae (z1.rows[j].h.2,cD z1.rows[j].b s)),(vC z1 s j).B⟩):=λj hj=>Je s hj
   have aif:z1.rows.length<=60:=ze HZ.out.w;have Wu:(z1.rows.length:Int)<=60:=by omega
   clear gq fW;generalize z1.rows=rs at *
   go_wp2_with fail
   go_loopw [28] (λi w'=> ∃j:Nat,j<=rs.length/\i=.int .i64 j/\In G w0 (di p (vC z1 s j)::eo (.slice rA rs.length rc) rs::br sb 54 (ints s.list)::l) w') (λi _=>rs.length-(intOf i).toNat)
   case atStart=>exact⟨0,cE _,rfl,iR.out⟩
   case round=>
    clear iR;obtain⟨j,hj,rfl,hI⟩:=hrel;by_cases abp:j<rs.length
    ·have Wp:(j:Int)<rs.length:=by omega
     have HOJ:=af (HMO.out j (by omega));have HAT:=af (HMT.out j abp);have HNX:=af (HMS.out j abp);obtain⟨Ym,h8⟩:=HOJ.out.w.bo _ _ _ HAT.out;obtain⟨g2,rfl,q2⟩:=yN hI.swap abp h8;have Yz:(rs[j]).list.length=11:=by simp[cQ.list,aQ.list,h8]
     have HI:=af hI;clear hI;generalize rs[j]=r at *;generalize vC z1 s j=zj at *;obtain⟨⟨x1,x2⟩,b⟩:=r;simp only at h8 Ym HAT HNX;have Kw:b.list.length=9:=by simp[aQ.list,h8]
     have HBE:=af Ym;have H8:=af h8;clear Ym
     go_upto_region 10 with(fail)
     refine bZ (In G w0 (di p zj::br wr.heap.size 50 (ints (cQ.list ⟨(x1,x2),b⟩))::eo (.slice (ae ⟨g2,0,ai⟩) rs.length rc) rs::br sb 54 (ints s.list)::l)) (HI.out.struct 50 [0,0,0,0,0,0,0,0,0,0,0] _ Yz).swap ?_;generalize wr.heap.size=rb;intro w5 fD;have HRB:Hid (∀{W:ah} {zz:ZS},In G w0 (di p zz::br rb 50 (ints (cQ.list ⟨(x1,x2),b⟩))::eo (.slice (ae ⟨g2,0,ai⟩) rs.length rc) rs::br sb 54 (ints s.list)::l) W->row? W rb 0 2=ae (ints [x1,x2])/\row? W rb 2 9=ae (ints b.list)/\row? W sb 0 7=ae (ints s.list)):=λ{W zz} hW=>by refine⟨by rw[hW.swap.blk.eJ 0 2 (by omega)];rfl,?_,hW.fourth.blk.bt rfl⟩;rw[hW.swap.blk.eJ 2 9 (by omega)];show ae (ints (b.list.take 9))=_;rw[ck (by omega)]
     obtain⟨s1,s2,s3⟩:=HRB.out fD;have ni:=af fD;clear fD q2 HI
     go_region_held3 (λW=>row? W rb 0 2=ae (ints [x1,x2])/\row? W rb 2 9=ae (ints b.list)/\row? W sb 0 7=ae (ints s.list))
      (refine⟨?_,?_,?_⟩<;>assumption)
      (first
        |(go_at_call 38;refine(S8 vw.out HOJ.out x1 x2 b (cD b s) HAT.out (oT b s) (zt b s H8.out HBE.out) (by rw[fX];exact H8.out) (Iv b s)).mono ?_;rintro e O2 ⟨rfl,qw⟩;obtain⟨u1,u2,u3⟩:=HRB.out qw;have vz:=af qw;clear qw)
        |(go_at_call 39;refine(XI b s H8.out HBE.out HSK.out _).mono ?_;rintro e Ax ⟨rfl,AW⟩;have vw:=af (ni.out.drew.below AW);obtain⟨t1,t2,t3⟩:=HRB.out vw.out;clear AW))
     all_goals
      have JV:Hid (In G w0 (di p (vC z1 s (j+1))::eo (.slice (ae ⟨g2,0,ai⟩) rs.length rc) rs::br sb 54 (ints s.list)::l) O2):=by rw[HNX.out];exact vz.out.swap.drop
      clear vz
      go_wp2_with fail
      go_roundw
      case rel=>exact⟨j+1,by omega,by go_num,JV.out⟩
      case measure=>simp[intOf];omega
    ·have:j=rs.length:=by omega
     subst this;rw[Ps.out,<-qN.out]at hI;have HI:=af hI.swap.drop.swap.drop;clear hI
     go_wp2_with fail
     go_roundw
     case rel=>exact⟨k+1,by omega,by go_num,HI.out⟩
     case measure=>simp[intOf];omega
  ·have:k=ss.length:=by omega
   subst this;rw[dm]at hI;have HI:=af hI;clear hI
   go_wp2_with fail
   go_ret;exact⟨rfl,by rw[HZ0.out];exact HI.out⟩
end
section
variable {G:Nat->Prop} {w0 w:ah} {l:List bU} {p:Nat} {z:ZS}
def yV (h:In G w0 (di p z::l) w)(hk:kI z):Calls aj 16 #[ptr p] w λe w'=> ∃A1 c1 A2 c2 A3 c3,e=.returned (.agg #[.slice A1 (iP z.ls).length c1,.slice A2 z.rows.length c2,.slice A3 z.B.length c3])/\In G w0 (fM (.slice A1 (iP z.ls).length c1) (iP z.ls)::eo (.slice A2 z.rows.length c2) z.rows::xI (.slice A3 z.B.length c3) z.B::di p z::l) w':=by refine(JR h hk).mono ?_;rintro e w' ⟨gv,rv,bv,rfl,hI⟩;obtain⟨A1,c1,rfl,_⟩:=cM hI.rowAt;obtain⟨A2,c2,rfl,_⟩:=cM hI.swap.rowAt;obtain⟨A3,c3,rfl,_⟩:=cM hI.third.rowAt;exact⟨A1,c1,A2,c2,A3,c3,rfl,hI⟩
end
def S9 (z:ZS)(ss:List Sys):(lM z ss).ls=z.ls/\(lM z ss).B=z.B:=by
 unfold lM
 induction ss generalizing z with
 |nil=>exact⟨rfl,rfl⟩
 |cons s ss ih=>exact ih (Rq z s)
def Df:lD:=⟨1,⟨3,[0,0,0,0,0,0,0,0]⟩,(0,0),(0,0),0,0⟩
def po:Sys:=⟨⟨0,0,0⟩,0,2,1,7⟩
def RA:(eF [po]).2=0:=by decide
def RB:(lM ⟨[(0,aw)],ei (λ_=>ai) 0 (ae (0,Df.b)),[]⟩ [po]).rows=[⟨(0,0),⟨3,[0,7,0,0,0,0,0,0]⟩⟩]:=by rfl
end
def r8 (f:BF)(g:aQ->aQ):BF:=λk=>(f k).map λx=>(x.1,g x.2)
def CH (f:BF)(g:aQ->aQ)(l:List cQ):BF:=l.foldl (λf r=>ei f r.h.1 (ae (r.h.2,g r.b))) f
def Fl (f:BF)(g:aQ->aQ)(l:List cQ)(r:cQ):CH f g (l++[r])=ei (CH f g l) r.h.1 (ae (r.h.2,g r.b)):=by unfold CH;rw[j5];rfl
def JA (f:BF)(g:aQ->aQ)(l:List cQ){k:Int}(h: ∀r∈l,r.h.1≠k):CH f g l k=f k:=by
 unfold CH
 induction l generalizing f with
 |nil=>rfl
 |cons r l ih=>rw[l9,ih _ λr hr=>h r (by simp[hr])];unfold ei;rw[if_neg (λe=>h r (by simp) e.symm)]
def Vh {ls:List (Int×Bool)}{f:BF}(hk:pX ls f)(g:aQ->aQ):CH f g (DZ ls f)=r8 f g:=by
 have key: ∀(n:Nat) (l:List cQ),l.length=n->(∀r∈l,f r.h.1=ae (r.h.2,r.b))-> ∀k,(∃r∈l,r.h.1=k)->CH f g l k=r8 f g k:=by
  intro n
  induction n with
  |zero=>rintro l h0 _ k ⟨r,hr,_⟩;rw[ft h0]at hr;cases hr
  |succ n ih=>
   intro l hn hl k hx;have eb:l≠ []:=by intro e;rw[e]at hn;cases hn
   have e0:=List.dropLast_concat_getLast eb;generalize l.getLast eb=r at e0;generalize hd:l.dropLast=l' at e0;have SC:l'.length=n:=by rw[<-hd,List.length_dropLast,hn];rfl
   clear hd;subst e0;rw[Fl];unfold ei;by_cases e:k=r.h.1
   ·rw[if_pos e];unfold r8;rw[e,hl r (by simp)];rfl
   ·rw[if_neg e];refine ih l' SC (λr hr=>hl r (by simp[hr])) k ?_;obtain⟨r',Av,he⟩:=hx;rcases jh.1 Av with h|h
    ·exact⟨r',h,he⟩
    ·rw[eO]at h;subst h;exact absurd he.symm e
 funext k;by_cases hx: ∃r∈DZ ls f,r.h.1=k
 ·exact key _ _ rfl (λr hr=>(nX hk).1 hr) k hx
 ·have C1:f k=ai:=by
   cases hf:f k with
   |none=>rfl
   |some x=>exact absurd ⟨⟨(k,x.1),x.2⟩,(nX hk).2 hf,rfl⟩ hx
  rw[JA f g _ (λr hr e=>hx ⟨r,hr,e⟩)];unfold r8;rw[C1];rfl
def Ie (g:aQ->aQ):Prop:= ∀b,bI b=0->b.v.length=8->bI (g b)=0/\(g b).v.length=8
def pX.gen {ls:List (Int×Bool)}{f:BF}(h:pX ls f){g:aQ->aQ}(hg:Ie g):pX ls (r8 f g):=by
 refine⟨h.so,λk n=> ?_,λk n b hb=> ?_⟩
 ·rw[h.lv];unfold r8;constructor
  ·rintro⟨b,hb⟩;exact⟨g b,by rw[hb];rfl⟩
  ·rintro⟨b,hb⟩;obtain⟨x,hx,he⟩:=aJ.1 hb;injection he with h1 h2
   exact⟨x.2,by rw[hx,<-h1]⟩
 ·unfold r8 at hb;obtain⟨x,hx,he⟩:=aJ.1 hb;injection he with h1 h2
  have h3:=h.bo k x.1 x.2 hx;rw[<-h2];exact hg _ h3.1 h3.2
def kI.gen {z:ZS}(h:kI z){g:aQ->aQ}(hg:Ie g):kI ⟨z.ls,r8 z.f g,z.B⟩:=⟨h.w.gen hg,h.yw,h.Z5,h.lv⟩
def Ei {ls:List (Int×Bool)}{f:BF}(h:pX ls f){g g':aQ->aQ}(hg: ∀b,bI b=0->b.v.length=8->g b=g' b):r8 f g=r8 f g':=by
 funext k;unfold r8;cases hf:f k with
 |none=>rfl
 |some x=>have:=h.bo k x.1 x.2 hf;simp only[fS];rw[hg _ this.1 this.2]
def II (f:BF)(g g':aQ->aQ):r8 (r8 f g) g'=r8 f λb=>g' (g b):=by funext k;unfold r8;cases f k<;>rfl
def Sj (f:BF):r8 f (λb=>b)=f:=by funext k;unfold r8;cases f k<;>rfl
def tO (z:ZS)(g:aQ->aQ)(j:Nat):ZS:=⟨z.ls,CH z.f g (z.rows.take j),z.B⟩
def Zc {z:ZS}(h:kI z)(g:aQ->aQ):tO z g z.rows.length=⟨z.ls,r8 z.f g,z.B⟩:=by unfold tO;rw[dm];unfold ZS.rows;rw[Vh h.w]
def Jd {z:ZS}(g:aQ->aQ){j:Nat}(hj:j<z.rows.length):tO z g (j+1)=⟨z.ls,ei (tO z g j).f z.rows[j].h.1 (ae (z.rows[j].h.2,g z.rows[j].b)),z.B⟩:=by unfold tO;rw[bh hj,Fl]
def SM {z:ZS}(h:kI z)(g:aQ->aQ){j:Nat}(hj:j<z.rows.length):(tO z g j).f z.rows[j].h.1=ae (z.rows[j].h.2,z.rows[j].b):=by
 unfold tO;simp only;rw[JA]
 ·exact(nX h.w).1 (bg hj)
 ·intro r hr e;obtain⟨i,hi,rfl⟩:=dK.1 hr;rw[cK]at hi;have:=lO.1 (uy z.ls z.f) i j (show i<z.rows.length by omega) hj (by omega);rw[List.getElem_take]at e;unfold Z1 at this;change z.rows[i].h.1<z.rows[j].h.1 at this;omega
def abI {z:ZS}(h:kI z){g:aQ->aQ}(hg:Ie g): ∀j,j<=z.rows.length->kI (tO z g j):=by
 intro j
 induction j with
 |zero=>intro _;exact h
 |succ j ih=>intro hj;have h1:=ih (by omega);have vl:=SM h g (show j<z.rows.length by omega);have hb:=h1.w.bo _ _ _ vl;have hl:=(h1.w.lv _ _).2 ⟨_,vl⟩;rw[Jd g (show j<z.rows.length by omega)];exact⟨h1.w.upd hl (hg _ hb.1 hb.2),h.yw,h.Z5,h.lv⟩
def PV (ss:List Sys): ∀b,∀j,j∉kinds b.k.toNat->(jF b ss).v.getD j 0=b.v.getD j 0:=by
 induction ss with
 |nil=>intro b j _;rfl
 |cons s ss ih=>intro b j hj;show(jF (cD b s) ss).v.getD j 0=_;rw[ih _ j (by rw[oT];exact hj)];exact Iv b s j hj
def Mr (L:PS)(hL:uq L): ∀n,Ie λb=>byB b L n:=by
 intro n
 induction n with
 |zero=>intro b h1 h2;exact⟨h1,h2⟩
 |succ n ih=>intro b h1 h2;obtain⟨h3,h4⟩:=ih b h1 h2;exact⟨MF _ _ h4 h3,by show(jF _ _).v.length=8;rw[xj];exact h4⟩
def jd (z:ZS)(L:PS)(n:Nat):ZS:=⟨z.ls,r8 z.f λb=>byB b L n,z.B⟩
def Rh (z:ZS)(L:PS):jd z L 0=z:=by
 have:(λb=>byB b L 0)=λb=>b:=rfl
 unfold jd;rw[this,Sj]
def OF {z:ZS}(h:kI z){L:PS}(hL:uq L)(n:Nat):kI (jd z L n):=h.gen (Mr L hL n)
def Dx {L:PS}(hL:uq L)(b:Int): ∀s∈iw L b,fa s=0:=λs hs=>by unfold iw at hs;obtain⟨x,hx,rfl⟩:=aH.1 hs;exact hL.ok x (cm.1 hx).1
structure oD (L:PS):Prop extends uq L where
 apart:L.Pairwise λx y=>x.2=y.2->gQ x.1 y.1=ay
def yO {L:PS}(hL:oD L)(b:Int):(iw L b).Pairwise λs t=>gQ s t=ay:=by
 unfold iw;rw[List.pairwise_map];refine(hL.apart.sublist List.filter_sublist).imp_of_mem λ{x y} hx hy h=>h ?_
 have h1:=(cm.1 hx).2;have h2:=(cm.1 hy).2;simp only[decide_eq_true_eq]at h1 h2;rw[h1,h2]
def PD {L:PS}(hL:oD L)(b:Int):Ie λx=>iV x (iw L b):=λx h1 h2=>by show bI (iV x (iw L b))=0/\(iV x (iw L b)).v.length=8;rw[yr x h2 _ _ rfl (Dx hL.touq b) (yO hL b)];exact⟨MF _ _ h2 h1,by rw[xj];exact h2⟩
def Mg {L:PS}(hL:oD L)(b:Int){x:aQ}(h2:x.v.length=8): ∀j,j∉kinds x.k.toNat->(iV x (iw L b)).v.getD j 0=x.v.getD j 0:=by rw[yr x h2 _ _ rfl (Dx hL.touq b) (yO hL b)];exact PV _ x
def Rg {z:ZS}(h:kI z){L:PS}(hL:oD L)(n:Nat):tO (jd z L n) (λx=>iV x (iw L n)) (jd z L n).rows.length=jd z L (n+1):=by
 rw[Zc (OF h hL.touq n)];unfold jd;rw[II];congr 1;refine Ei h.w λb h1 h2=> ?_
 have:=Mr L hL.touq n b h1 h2;exact yr _ this.2 _ _ rfl (Dx hL.touq n) (yO hL n)
def ZQ (ss:List Sys): ∀z:ZS,lM z ss=⟨z.ls,r8 z.f λb=>jF b ss,z.B⟩:=by
 induction ss with
 |nil=>intro z;show z=_;have:(λb:aQ=>jF b [])=λb=>b:=rfl;rw[this,Sj]
 |cons s ss ih=>
  intro z;show lM (Rq z s) ss=_;rw[ih];unfold Rq;congr 1;show r8 (r8 z.f λb=>cD b s) _=_;rw[II]
  rfl
def Vv {z:ZS}(h:kI z){L:PS}(hL:oD L)(h0: ∀y∈L,0<=y.2)(n:Nat)(hn: ∀y∈L,y.2<n):jd z L n=lM z (JZ L):=by rw[ZQ];unfold jd;congr 1;exact Ei h.w λb _ h2=>aaW b h2 L hL.touq h0 n hn
def dX (ss:List Sys):PS:=ss.zip (cA ss ss.length)
def kq (ss:List Sys):(dX ss).length=ss.length:=by unfold dX;rw[List.length_zip,fc,Nat.min_self]
def UT (ss:List Sys):JZ (dX ss)=ss:=by unfold JZ dX;rw[List.map_fst_zip (by rw[fc];exact ax _)]
def nJ (ss:List Sys)(i:Nat)(h:i<(dX ss).length):(dX ss)[i]=(ss[i]'(by rw[kq]at h;exact h),(cA ss ss.length).getD i 0):=by
 have h':i<ss.length:=by rw[kq]at h;exact h
 have e:(dX ss)[i]? =ae (ss[i],(cA ss ss.length).getD i 0):=by unfold dX;rw[List.getElem?_zip_eq_some];exact⟨aq h',by simp[bB,fc,h']⟩
 rw[aq h]at e;exact be e
def Zu {ss:List Sys}(hs: ∀s∈ss,fa s=0):oD (dX ss):=by
 have AX: ∀i (h:i<ss.length),ss.getD i dB=ss[i]:=λi h=>by simp[bB,h]
 refine⟨⟨λx hx=> ?_,?_⟩,?_⟩
 ·obtain⟨i,hi,rfl⟩:=dK.1 hx;rw[nJ];exact hs _ (bg _)
 ·refine lO.2 λi j hi hj M9 hc=> ?_
  have gK:i<ss.length:=by rw[kq]at hi;exact hi
  have Um:j<ss.length:=by rw[kq]at hj;exact hj
  rw[nJ,nJ]at hc|-;have:=(NZ ss hs (λs h=>rT h) j Um).1 i M9 (by rw[AX i gK,AX j Um];exact hc);exact this
 ·refine lO.2 λi j hi hj M9 he=> ?_
  have gK:i<ss.length:=by rw[kq]at hi;exact hi
  have Um:j<ss.length:=by rw[kq]at hj;exact hj
  rw[nJ,nJ]at he|-;have:=(NZ ss hs (λs h=>rT h) j Um).2.2 i gK (by omega) he;rw[AX i gK,AX j Um]at this;exact this
def KX (ss:List Sys): ∀y∈dX ss,0<=y.2:=λy hy=>by obtain⟨i,hi,rfl⟩:=dK.1 hy;rw[nJ];exact(Ds ss ss.length i (by rw[kq]at hi;exact hi)).1
def Zv {ss:List Sys}{n:Nat}(h: ∀i,i<ss.length->(cA ss ss.length).getD i 0≠n): ∀i,i<ss.length->(cA ss ss.length).getD i 0<n:=by
 intro i
 induction i using mQ with
 |ind i ih=>
  intro hi;have eb:=h i hi;have h0:=(Ds ss ss.length i hi).1;rw[zV ss ss.length i hi]at eb h0|-;rcases xD (ss:=ss) (p:=cA ss ss.length) (s:=ss.getD i dB) i with e|⟨k,hk,_,e⟩
  ·omega
  ·have:=ih k hk (by omega);omega
def UW {ss:List Sys}{n:Nat}(h:(n:Int)∉cA ss ss.length): ∀y∈dX ss,y.2<n:=λy hy=>by
 obtain⟨i,hi,rfl⟩:=dK.1 hy;rw[nJ];refine Zv (λj hj e=>h ?_) i (by rw[kq]at hi;exact hi);rw[<-e];have:j<(cA ss ss.length).length:=by rw[fc];exact hj
 rw[show(cA ss ss.length).getD j 0=(cA ss ss.length)[j]by simp[bB,this]];exact bg _
def Zt {ss:List Sys}{n:Nat}(h:(n:Int)∈cA ss ss.length):n<ss.length:=by obtain⟨i,hi,e⟩:=dK.1 h;rw[fc]at hi;have:=(Ds ss ss.length i hi).2;rw[show(cA ss ss.length).getD i 0=(cA ss ss.length)[i]'(by rw[fc];exact hi)by simp[bB,fc,hi],e]at this;omega
def Vs (ss:List Sys)(b:Int){i:Nat}(hi:i<ss.length):iw ((dX ss).take (i+1)) b=if(cA ss ss.length).getD i 0=b then iw ((dX ss).take i) b++[ss[i]]else iw ((dX ss).take i) b:=by
 have hl:i<(dX ss).length:=by rw[kq];exact hi
 unfold iw;rw[bh hl,List.filter_append,ey,nJ]
 split
 ·rename_i h
  rw[List.filter_cons_of_pos (by simpa using h)];rfl
 ·rename_i h
  rw[List.filter_cons_of_neg (by simpa using h)];simp
def Vr (ss:List Sys)(b:Int):iw ((dX ss).take ss.length) b=iw (dX ss) b:=by rw[<-kq ss,dm]
def OD (L:PS)(b:Int):(iw L b).length<=L.length:=by unfold iw;rw[aL];exact jA _ _
section
open Go.RowKit
section
variable {G:Nat->Prop} {w0 w:ah} {l:List bU} {p B:Nat} {A:Option Addr} {c:Nat}
def jT:ZS:=⟨[(0,aw)],ei (λ_=>ai) 0 (ae (0,Df.b)),[]⟩
def Ty:wa vF Df=(jT,(0,0),0):=by rw[acU _ _ rfl];rfl
def aew {ob:Nat}(q0:w.cell? ⟨ob,0,ai⟩=ae (.int .i64 1)):Calls aj 108 #[.pointer (ae ⟨ob,0,ai⟩)] w λe w'=>e=.returned (.slice ai 0 0)/\w=w':=by
 go_enter Tryz.func108,Tryz.ntmps108
 go_wp2_with fail
 go_ret;exact⟨rfl,rfl⟩
def ahe (hO:nD G w0 B A [Df])(h:In G w0 (di p vF::l) w):Calls aj 49 #[ptr p,.slice A 1 c] w λe w'=>e=.returned (.tuple #[.int .i64 1,.int .i64 0])/\In G w0 (di p jT::l) w':=by
 have H0:=af h;have HO:Hid (nD G w0 B A [Df]):=hO;obtain⟨i0,qE,uM,sX,tH⟩:=info_parts lu;clear h hO
 go_enter Tryz.func49,Tryz.ntmps49
 go_wp2_with fail
 refine(JR H0.out kI.nil).mono ?_;rintro e w1 ⟨gv,rv,bv,rfl,km⟩;obtain⟨A1,c1,rfl,_⟩:=cM km.rowAt;obtain⟨A2,c2,rfl,_⟩:=cM km.swap.rowAt;obtain⟨A3,c3,rfl,_⟩:=cM km.third.rowAt;have qB:=af (km.drop.drop.drop);have HLD:=af (ae5 A1 A2 A3 c1 c2 c3 qB.out);clear km H0
 go_wp2_with fail
 refine HLD.out.mono ?_;rintro e w2 ⟨np,rfl,gm⟩;have gu:=af gm;clear gm qB HLD
 go_wp2_with fail
 go_loopw [26,8] (λi sv w'=>(i=.int .i64 0/\sv=.slice ai 0 0/\w2=w')\/(i=.int .i64 1/\In G w0 (di np jT::di p vF::l) w')) (λi _ _=>1-(intOf i).toNat)
 case atStart=>exact .inl ⟨rfl,rfl,rfl⟩
 case round=>
  rcases hrel with⟨rfl,rfl,rfl⟩|⟨rfl,hI⟩
  ·obtain⟨b,o,rfl,zJ,q1⟩:=(HO.out gu.out.bare).at_ (k:=0) (by simp);have q1:row? w2 b o 16=ae (ints Df.list):=by have:=q1;rwa[Nat.zero_mul,lC]at this
   go_upto_region 8 with(fail)
   refine bZ (In G w0 (br w2.heap.size 74 (ints Df.list)::di np vF::di p vF::l)) (gu.out.struct 74 [0,0,0,0,0,0,0,0,0,0,0,0,0,0,0,0] Df.list rfl) ?_;generalize w2.heap.size=ob;intro w3 fj;have q0:w3.cell? ⟨ob,0,ai⟩=ae (.int .i64 1):=fj.blk.cell 0;have q2:row? w3 ob 0 16=ae (ints Df.list):=fj.blk.bt rfl;have fW:=af fj.swap;clear fj q1 gu
   go_wp2_with fail
   refine(aew q0).mono ?_;rintro e w4 ⟨rfl,rfl⟩
   go_wp2_with fail
   go_loopw [33] (λi w'=>i=.int .i64 0/\w3=w') (λ_ _=>0)
   case atStart=>exact⟨rfl,rfl⟩
   case round=>
    obtain⟨rfl,rfl⟩:=hrel
    go_wp2_with fail
    refine(RG fW.out kI.nil Df rfl).mono ?_;rintro e w7 ⟨rfl,xM⟩;rw[Ty]at xM|-;simp only at xM|-;have kh:=af xM;clear xM fW q0 q2
    go_upto_region 17 with(fail)
    refine bZ (In G w0 (br w7.heap.size 43 (ints [0,0])::di np jT::br ob 74 (ints Df.list)::di p vF::l)) (kh.out.struct 43 [0,0] [0,0] rfl) ?_;generalize w7.heap.size=hb;intro w8 mR;have q4:row? w8 hb 0 2=ae (ints [0,0]):=mR.blk.bt rfl;have q5:w8.cell? ⟨ob,0,ai⟩=ae (.int .i64 1):=mR.third.blk.cell 0;have pw:Hid (In G w0 (iy (.slice ai 0 0) []::br hb 43 (ints [0,0])::di np jT::br ob 74 (ints Df.list)::di p vF::l) w8):=mR.mN 43 2;have HO:=af pw.out.rowAt;clear mR kh
    go_wp2_with (at_builtin;go_loud (refine eX rfl _ _ 122 rfl 0 43 i0 _ 2 16 Tryz.underlying122 qE uM sX tH rfl (by decide) (.slice ai 0 0) 0 [] rfl HO.out [.int .i64 0,.int .i64 0] rfl rfl (by simp[kT]) (by unfold maxLen;omega) (by omega) (cE _) ?_))
    intro v' w9 ho hg wx;have iq:=In.J2 (cs:=[]) (x:=(0,0)) pw.out ho hg wx;have vw:=af iq.drop.drop.swap.drop;clear ho hg wx iq pw HO q4 q5
    go_wp2_with fail
    go_roundw
    case rel=>exact .inr ⟨by go_num,vw.out⟩
    case measure=>simp[intOf]
  ·obtain⟨wp2,fp2,m2,hm2,hf2,ha2,km⟩:=hI.mC;have afU:In G w0 (di p vF::yU np wp2 fp2::dR wp2 jT.ls jT.f::j3 fp2 m2::l) wr:=km.reorder 4 [3,0,1,2] rfl (by simp);obtain⟨wp,fp,m,hm,hf,ha,gm⟩:=afU.mC;have c1:row? wr np 0 2=ae #[ptr wp2,ptr fp2]:=by rw[km.blk.row 0 2 (by simp)];rfl
   have c2:fits wr p 0 2=aw:=gm.blk.fits 0 2 (by simp);have fW:=af (gm.UY [ptr wp2,ptr fp2] rfl);have CO:=af hm2;clear hI km afU gm hm2 hf2 ha2 hm hf ha gu
   go_wp2_with fail
   go_ret2
   exact⟨rfl,In.oc CO.out fW.out.swap.drop.swap.drop.swap.drop⟩
end
end
section
open Rel
open Go.Conc Go.ConcN
open Go.ConcR (Payload WgAt)
open Go.RowKit
def UM {P:aS}{c:gj}{Post:ao->ah->Prop}{fn:bK}{Q:Exit->Act->ah->Prop}{a:Act}{w:ah}(hc:c.Fits P){ops:Array Oper}{i:Nat}{rest:List Nat}{o:Oper}{v:ao}{w':ah}(h:qQ P c Post fn ops rest Q (a.put o.dst v) w')(ho:ops[i]? =ae o:=by rfl)(hw:bu o (yielded ops a.tmps)=aw:=by rfl)(rY:kp (c.at fn) o=aw:=by kernel_rfl)(htp:w'.tape=w.tape/\w'.drawn=w.drawn:=by exact⟨rfl,rfl⟩)(hr: ∀tp d,(execOp a.eval o).run P (dH w tp d)=.ok (.value v) (dH w' tp d):=by intro tp d;go_simp):qQ P c Post fn ops (i::rest) Q a w:=fQ hc ho hw rY htp hr h
def aN {P:aS}{c:gj}{Post:ao->ah->Prop}{fn:bK}{Q:Exit->Act->ah->Prop}{a:Act}{w:ah}(hc:c.Fits P){ops:Array Oper}{i:Nat}{rest:List Nat}{o:Oper}(v:ao)(h:qQ P c Post fn ops rest Q (a.put o.dst v) w)(ho:ops[i]? =ae o:=by rfl)(hw:bu o (yielded ops a.tmps)=aw:=by rfl)(rY:kp (c.at fn) o=aw:=by kernel_rfl)(hr: ∀tp d,(execOp a.eval o).run P (dH w tp d)=.ok (.value v) (dH w tp d):=by intro tp d;go_simp):qQ P c Post fn ops (i::rest) Q a w:=fQ hc ho hw rY ⟨rfl,rfl⟩ hr h
def V7 (A:bU):Prop:= ∀(w w':ah) (F:Nat->Prop),w'.heap=w.heap->A.at_ w F->A.at_ w' F
def xd (l:List bU):Prop:= ∀A∈l,V7 A
def Sep.hp: ∀{l:List bU} {w w':ah} {F:Nat->Prop},xd l->w'.heap=w.heap->Sep l w F->Sep l w' F
 | [],_,_,_,_,_,_=>trivial
 |A::l,w,w',F,hl,e,⟨F1,F2,h1,h2,h3,h4⟩=>⟨F1,F2,hl A (by simp) w w' F1 e h1,Sep.hp (λB hB=>hl B (by simp[hB])) e h2,h3,h4⟩
def In.dH {G:Nat->Prop}{l:List bU}{w0 w:ah}(h:In G w0 l w)(hl:xd l)(tp:Tape)(d d':Nat):In G (Rel.dH w0 tp d) l (Rel.dH w tp d'):=⟨Sep.hp (w:=w) (w':=Rel.dH w tp d') hl rfl h.sep,⟨h.only.os,rfl,h.only.output,h.only.size,h.only.block⟩⟩
def jU (G:Nat->Prop)(w0:ah)(l:List bU)(w:ah):Prop:=In G (Rel.dH w0 w.tape w0.drawn) l w
def jU.of {G:Nat->Prop}{l:List bU}{w0 w:ah}{tp:Tape}{d:Nat}(h:In G (Rel.dH w0 tp d) l w):jU G w0 l w:=by have ht:w.tape=tp:=h.only.tape;exact⟨h.sep,⟨h.only.os,rfl,h.only.output,h.only.size,h.only.block⟩⟩
def jU.at_ {G:Nat->Prop}{l:List bU}{w0 w:ah}(h:jU G w0 l w)(hl:xd l)(tp:Tape)(d d':Nat):In G (Rel.dH w0 tp d) l (Rel.dH w tp d'):=⟨Sep.hp (w:=w) (w':=Rel.dH w tp d') hl rfl h.sep,⟨h.only.os,rfl,h.only.output,h.only.size,h.only.block⟩⟩
def jU.dH {G:Nat->Prop}{l:List bU}{w0 w:ah}(h:jU G w0 l w)(hl:xd l)(tp:Tape)(d:Nat):jU G w0 l (Rel.dH w tp d):=jU.of (h.at_ hl tp 0 d)
def xd.cons {A:bU}{l:List bU}(h:V7 A)(hl:xd l):xd (A::l):=λB hB=>by
 rcases cj.1 hB with rfl|hB
 ·exact h
 ·exact hl B hB
def xd.nil:xd []:=λ_ h=>by simp at h
def br.hp (g:Nat)(t:aA)(cs:Array ao):V7 (br g t cs):=λw w' F e h=>⟨by have:=h.1;unfold dt at this|-;rw[e];exact this,h.2⟩
def yI {B:Nat}{E:aA}{size n:Nat}{v:ao}{xs:List ao}{w w':ah}(e:w'.heap=w.heap)(h:w.ownsRow B E size v n xs):w'.ownsRow B E size v n xs:=by unfold World.ownsRow at h|-;rw[e];exact h
def eD.hp (E:aA)(size:Nat)(v:ao)(n:Nat)(xs:List ao):V7 (eD E size v n xs):=λw w' F e h=>⟨yI e h.1,h.2⟩
def aeT (s:Sys):List ao:=s.list.map (aF .i64)
abbrev nR (v:ao)(ss:List Sys):bU:=eD 54 7 v ss.length (ss.flatMap aeT)
abbrev nO (v:ao)(bs:List aQ):bU:=eD 48 9 v bs.length (bs.flatMap PE)
def Z' (s:Sys):(aeT s).length=7:=by simp[aeT,Sys.list,Query.list]
def Zo {w:ah}{E:aA}{size c:Nat}{A:Option Addr}{α:Type}{f:α->List ao}(hf: ∀x,(f x).length=size){l:List α}(h:w.ownsRow 0 E size (.slice A l.length c) l.length (l.flatMap f)){k:Nat}(hk:k<l.length): ∃g,A=ae ⟨g,0,ai⟩/\(eA A l.length c).ownBlock=ae g/\row? w g (k *size) size=ae (f l[k]).toArray:=by
 obtain⟨A',c',e,_,_,hg⟩:=cM h;injection e with e1 e2 e3
 subst e1;subst e3;obtain⟨g,rfl⟩:=hg (by omega);exact⟨g,rfl,rfl,by rw[mD h hk,mv hf l k hk]⟩
def In.own {G:Nat->Prop}{w0 w:ah}{l:List bU}{E:aA}{size n:Nat}{v:ao}{xs:List ao}(h:In G w0 (eD E size v n xs::l) w):w.ownsRow 0 E size v n xs:=let⟨_,hA⟩:=h.head;hA.1
def nl (Pb:Nat)(bss:List (List aQ)):bU where
 at_ w F:=F Pb/\Pb<w.heap.size/\ ∀k bs,bss[k]? =ae bs-> ∃v,w.cell? ⟨Pb,k,ai⟩=ae v/\w.ownsRow 0 48 9 v bs.length (bs.flatMap PE)/\ ∀r,v.ownBlock=ae r->F r
 frame h ho hd:=⟨h.1,cc h.2.1 ho.size,λk bs hk=>by obtain⟨v,h1,h2,h3⟩:=h.2.2 k bs hk;exact⟨v,(da (ho.block _ h.2.1 (hd _ h.1))).trans h1,ho.own h2 λr hr=>hd r (h3 r hr),h3⟩⟩
 cut h hd:=⟨hd _ h.2.1 h.1,h.2.1,λk bs hk=>by obtain⟨v,h1,h2,h3⟩:=h.2.2 k bs hk;exact⟨v,h1,h2,λr hr=>hd r (h2.lt r hr).2 (h3 r hr)⟩⟩
def nl.hp (Pb:Nat)(bss:List (List aQ)):V7 (nl Pb bss):=λw w' F e h=>⟨h.1,by rw[e];exact h.2.1,λk bs hk=>by obtain⟨v,h1,h2,h3⟩:=h.2.2 k bs hk;exact⟨v,(da (by rw[e])).trans h1,yI e h2,h3⟩⟩
def In.part {G:Nat->Prop}{w0 w:ah}{l:List bU}{Pb:Nat}{bss:List (List aQ)}(h:In G w0 (nl Pb bss::l) w){k i:Nat}{bs:List aQ}(hk:bss[k]? =ae bs)(h8: ∀b∈bs,b.v.length=8)(hi:i<bs.length): ∃g c,w.cell? ⟨Pb,k,ai⟩=ae (.slice (ae ⟨g,0,ai⟩) bs.length c)/\row? w g (i *9) 9=ae (ints bs[i].list):=by
 obtain⟨F1,hA⟩:=h.head;obtain⟨v,h1,h2,_⟩:=hA.2.2 k bs hk;obtain⟨A,c,rfl,_,_,hg⟩:=cM h2;obtain⟨g,rfl⟩:=hg (by omega);refine⟨g,c,h1,?_⟩;rw[mD h2 hi];have hl: ∀(bs:List aQ) (i:Nat) (hi:i<bs.length),(∀b∈bs,b.v.length=8)->((bs.flatMap PE).drop (i *9)).take 9=PE bs[i]:=by
  intro bs
  induction bs with
  |nil=>intro i hi;simp at hi
  |cons b bs ih=>
   intro i hi h;have hb:(PE b).length=9:=by simp[PE,aQ.list,h b (by simp)]
   cases i with
   |zero=>rw[bN,Nat.zero_mul,List.drop_zero,List.take_append_of_le_length (by omega),ck (by omega)];rfl
   |succ i=>rw[bN,gY,jE,dA,<-hb,qd,iU (by omega),cy,iL,hb];exact ih i (by simpa using hi) λx hx=>h x (by simp[hx])
 rw[hl bs i hi h8]
 rfl
def jU.behind {G:Nat->Prop}{w0 w w':ah}{l:List bU}{Pb:Nat}{t:aA}{cs:Array ao}{bd:bK->List Tmp}{old:Nat}{xs:List cQ}{ss:List Sys}(h:jU G w0 (br Pb t cs::l) w)(hb:JU (λb=>b=Pb) w w')(hp: ∀p,p<ss.length-> ∃o:Nat->Prop,(∀r,o r->w.heap.size+4<=r/\r<w'.heap.size)/\jpB (cfg bd old).sig Pb xs ss o p w'):jU G w0 (nl Pb (ss.map λs=>xs.map λr=>cD r.b s)::l) w':=by
 obtain⟨F1,⟨h1,h2⟩,_,jQ⟩:=In.open_ h;have hs:=hb.size;have:=jQ (w':=w') (A':=nl Pb (ss.map λs=>xs.map λr=>cD r.b s)) ⟨.inl h2,cc h1.lt hs,λk bs hk=> ?_⟩ ⟨hb.os,hb.tape,hb.output,hs,λk hk hn=>hb.old k hk λe=>hn (by rw[e];exact h2)⟩
 ·exact jU.of this
 ·rw[dN]at hk;obtain⟨s,Nh,rfl⟩:=aJ.1 hk;obtain⟨Cg,rfl⟩:=bz.1 Nh;obtain⟨o,ho,v,hc,V,g1,g2,g3,g4⟩:=hp k Cg;rw[show ss.getD k dB=ss[k]by simp[bB,Cg]]at g4;refine⟨v,hc,g4,λr hr=>.inr ?_⟩;obtain⟨A,c,rfl,_,_,hg⟩:=cM g4;cases A with
  |none=>cases hr
  |some ad=>
   have hV:V r:=by
    cases g3 with
    |slice _ _ ha=>injection hr with hr;exact hr▸ha.block.2
   exact⟨by have:=ho r (g1 r hV);omega,(ho r (g1 r hV)).2⟩
section
variable {c:gj} {Post:ao->ah->Prop} {fn:bK} {Q:Exit->Act->ah->Prop} {a:Act} {ops:Array Oper} {i:Nat} {rest:List Nat} {o:Oper} {w:ah} {x0 x1 x2:cG} {uz:Array aA} {n nj:Nat} {jf:bK} {caps:Array ao} {J:Pv} {NR:Nat->Prop}
def UL (hold:c.old<=w.heap.size)(ho:ops[i]? =ae o)(hw:bu o (yielded ops a.tmps)=aw)(hop:o.op=.call {callee:=.value (.func 47),args:= #[x0,x1,x2],argTypes:=uz})(h0:a.eval x0=.int .i64 n)(h1:a.eval x1=.int .i64 nj)(h2:a.eval x2=.func (.func jf) #[] caps)(hn0:1<=n)(hn:n<=8)(hnj:nj<=1000)(K:J.Ok)(xq: ∀b,J.CB b->b<w.heap.size)(aek: ∀π,Rel.Sub π->(∀l,π l l-> ∃o,w.heap[l]? =ae o/\kV c.sig π o o)->s9 (c.at fn) π a.tmps a.tmps->(∀r,NR r->π r r)/\ ∀r,J.CB r->π r r)(hNR: ∀r,NR r-> ¬J.CB r)(P': ∀p,p<nj->J.J0 p w)(M': ∀(φ:Ph) (wp:ah),φ.Ok->φ.P=aj->φ.nj=nj->(∀p,φ.jv p=.int .i64 p)->φ.CB=J.CB->φ.jl=J.jl->φ.J0=J.J0->φ.JP=J.JP->(∀r,NR r->φ.oS r)->(∀r,r<w.heap.size->wp.heap[r]? =w.heap[r]?)->Tryz.prog.globals.size<=wp.heap.size->(∀r,φ.oS r\/φ.CB r\/r=φ.Wg->r<wp.heap.size)->DT φ wp jf caps)(si: ∀w',JU J.CB w w'->(∀p,p<nj-> ∃o:Nat->Prop,(∀r,o r->w.heap.size+4<=r/\r<w'.heap.size)/\J.JP o p w')-> ∃V:Nat->Prop,(∀r,V r->w.heap.size+4<=r/\r<w'.heap.size)/\(∀r,J.CB r\/V r-> ∃o,w'.heap[r]? =ae o/\kV c.sig (only V) o o)/\qQ aj c Post fn ops rest Q (a.put o.dst (.tuple #[])) w'):qQ aj c Post fn ops (i::rest) Q a w:=by
 intro b k cs hb hk hp hq;refine aa0 hold ho hw hk hop h0 h1 h2 hn0 hn hnj K xq (λπ s hO hf=>aek π s hO (by have:=hf.1;rwa[show(b.at a (.inRegion ops (i::rest)::k)).fn=fn from hb]at this)) hNR P' M' λw' hB hP=> ?_
 obtain⟨V,e1,e2,e3⟩:=si w' hB hP;exact⟨V,e1,e2,e3 b k cs hb hk hp hq⟩
end
end
end Go.Proofs.YtknejlcijdngoaaGreat
