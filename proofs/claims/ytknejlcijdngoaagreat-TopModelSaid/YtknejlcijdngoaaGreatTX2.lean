/- Several texts in one, made short by a program of mine. -/
import Derived.Test.YtknejlcijdngoaaGreatTX1
import Derived.Conc.CrowdComm
import Derived.Conc.CrowdStepC2
import Derived.Conc.Company
import Derived.Conc.CrowdRun
import Derived.Test.YtknejlcijdngoaaGreatProg
import Derived.WalkKit
import Derived.WalkSpells
import Derived.WalkLawsBesides
import Derived.Lib.Hide
import Derived.BigQuiet
import Derived.Shelf.Small.Bits
import Derived.Laws.StructEq
import Derived.Laws.ResultCell
import Derived.Laws.MakeOwn
import Derived.OrdersHeld
import Derived.StillTail
import Derived.Deep.DeepCutAuto
import Derived.ProofKit
import Derived.OpenShut
import Derived.SizedLaws
import Derived.Deep.Slices
import Derived.StillTailTactics
set_option linter.defProp false
set_option linter.unusedVariables false
set_option linter.unusedSimpArgs false
set_option linter.unusedSectionVars false
set_option maxHeartbeats 16000000
set_option maxRecDepth 100000
open Array renaming empty_append->jF,ext'->oq,getElem?_eq_getElem->aS,getElem?_eq_some_iff->aC,getElem?_map->gd,getElem?_modify->bp,getElem?_setIfInBounds_ne->aH,getElem?_setIfInBounds_self_of_lt->aQ,mem_append->nl,mem_of_getElem?->qN,range->oY,replicate->dE
open Bool renaming and_eq_true->ay,eq_iff_iff->fj,false_eq_true->dg,or_eq_true->ej,false->aq,true->ak
open Go renaming Frame->dj,FuncId->eu,Goroutine->aw,Program->br,TypeId->cD,Value->aB,World->ar
open Go.Conc renaming mem_ofEvents->bk
open Go.ConcN renaming Mode->fe
open Go.ConcN.Mode renaming retag->nR
open Go.ConcR renaming mk->gS
open Go.Frame renaming enter->fi,finish_at->lU
open Go.Instr renaming buildSlice->gB,fill->fN,loadAt->eo,storeAt->fg
open Go.Lib renaming hid->ae
open Go.MemAct renaming ofEvent->cM,touch?->pP
open Go.MemOp renaming ofEvents->b6
open Go.Proofs.Tryz renaming prog->ai
open Go.Region renaming ready->dZ,wanted->aW
open Go.Result renaming andThen_ok->gG
open Go.Sem renaming run_bind->eJ
open Go.Value renaming cells->iJ,int->aD
open Go.World renaming cell?->da,setChan->nW
open Int renaming toNat_natCast->bP
open List renaming all_eq_true->lD,any_eq_true->nS,append_assoc->b9,append_nil->cK,ext_getElem?->kM,getD->bu,getElem?_eq_getElem->aj,getElem?_eq_none->iD,getElem?_eq_some_iff->bg,getElem?_map->dX,getElem?_take->gF,getElem_mem->aF,length_append->bm,length_cons->ax,length_nil->aM,length_take->cR,map_cons->gg,mem_cons->b8,mem_iff_getElem->bR,mem_map->aA,mem_of_getElem?->kO,mem_range->eS,mem_toArray->nU,nil_append->de,not_mem_nil->fO,range->bB,range'->fL,replicate->cj,size_toArray->aU,take_of_length_le->cA,take_succ_eq_append_getElem->aV
open List.range renaming loop->ca
open Nat renaming add_assoc->kg,add_sub_cancel_left->gV,eq_zero_or_pos->fP,le_refl->ao,le_trans->bD,lt_of_lt_of_le->bQ,lt_or_ge->du,mul_le_mul_right->fh,one_mul->je,strongRecOn->lj,testBit_and->lk,zero_add->bN,zero_le->bH
open Option renaming map_eq_some_iff->aG,map_some->fD,none->ah,some->af
open Option.some renaming inj->aX,injEq->dS
open Or renaming inl->bq,inr->cc
namespace Go.Proofs.YtknejlcijdngoaaGreat
open Tryz
namespace Rel
open Go.Conc Go.ConcN
open Go.ConcR (KK WgAt rd wr mk Payload DC0 stA smA)
variable [Payload]
def ft(w:ar)(r:Nat):Option (cD×Nat×Nat×Nat):=match w.heap[r]? with|some (.cells c a f)=>af (a,c.size,f)|_=>ah
structure Ph where
 P:br
 ty:cD
 Wg:Nat
 Ch:Nat
 n:Nat
 nj:Nat
 lo:Nat
 jv:Nat->aB
 z:aB
 mX:Nat->Prop
 Std:Nat->Prop
 CB:Nat->Prop
 jl:Nat->Addr->Prop
 J0:Nat->ar->Prop
 JP:(Nat->Prop)->Nat->ar->Prop
structure Gh where
 own:Nat->Prop
 held:Nat->Prop
 over:Prop
def Gh.grow(a:Gh)(w w':ar):Gh:={a with own:=λb=>a.own b\/(w.heap.size<=b/\b<w'.heap.size)}
def Gh.hold(a:Gh)(i:Nat):Gh:={a with held:=λk=>a.held k\/k=i}
def Gh.close(a:Gh):Gh:={a with over:=True}
def s0:Loc->Option Nat|.cell a=>af a.block|.obj r=>af r|_=>ah
variable(φ:Ph)
structure Ph.eT(γ:Gh) (w fC:ar):Prop where
 own:∀b,γ.own b->fC.heap[b]? =w.heap[b]?
 rd:∀b,φ.mX b->fC.heap[b]? =w.heap[b]?
 cell:∀i a,γ.held i->φ.jl i a->fC.cell? a=w.cell? a
 pay:∀b,φ.CB b->ft fC b=ft w b
 live:WgLive φ.ty φ.Wg w->WgLive φ.ty φ.Wg fC
 size:w.heap.size<=fC.heap.size
 tape:fC.tape=w.tape
 os:fC.os=w.os
 output:fC.output=w.output
def Ph.Acc(c:Gh)(e:Event):Prop:=(∃m,e=⟨.mark m,aq,ak⟩/\(m=.noRoom\/∃f,m=.extern f))\/(e.sync=aq/\∃b,s0 e.loc=af b/\(c.own b\/(∃i a,c.held i/\φ.jl i a/\e.loc=.cell a)\/(e.write=aq/\φ.mX b)))
structure Ph.yK(γ:Gh) (w w':ar) (es:Array Event):Prop where
 rest:∀b,b<w.heap.size->¬γ.own b->¬φ.CB b->w'.heap[b]? =w.heap[b]?
 cells:∀a,φ.CB a.block->(∀i,γ.held i->¬φ.jl i a)->w'.cell? a=w.cell? a
 pay:∀b,φ.CB b->ft w' b=ft w b
 size:w.heap.size<=w'.heap.size
 tape:w'.tape=w.tape
 os:w'.os=w.os
 output:w'.output=w.output
 ev:∀e∈es,φ.Acc (γ.grow w w') e
def Ph.got(g:aw)(v:aB)(open_:Bool):aw:=Go.Conc.served g (.tuple #[v,.bool open_])
def Ph.N5(a:Gh)(g:aw)(w:ar):Prop:=
 ∃C v m,a.over/\a.own C/\(∀i,a.held i->φ.JP (λb=>a.own b/\b≠C) i w)/\PayAt C 1 w/\
  Goes φ.P aq (RW φ.ty φ.Wg C 1 0 0) (DWs φ.Wg (λ_ _=>False) (λ_ _=>False) C 1 1) (AtR0 φ.P φ.ty φ.Wg C 1 0 1 v) m g w
inductive Ph.WT:Gh->aw->ar->Prop
 |tail {γ:Gh} {g:aw} {w:ar}:φ.N5 γ g w->Ph.WT γ g w
 |step {γ:Gh} {g:aw} {w:ar} (g':ar->aw) (w':ar->ar) (es:ar->Array Event):g.status=.running->
   (∀fC,φ.eT γ w fC->stepG φ.P aq g fC=.go (g' fC) (w' fC) (es fC)/\φ.yK γ fC (w' fC) (es fC))->
   (∀fC,φ.eT γ w fC->Ph.WT (γ.grow fC (w' fC)) (g' fC) (w' fC))->Ph.WT γ g w
 |recv {γ:Gh} {g:aw} {w:ar}:g.status=.running->
   (∀fC,φ.eT γ w fC->stepG φ.P aq g fC=.comm g #[rcase φ.Ch φ.z] ak (.recv ak) fC #[])->
   (∀fC i,φ.eT γ w fC->i<φ.nj->¬γ.held i->φ.J0 i fC->Ph.WT (γ.hold i) (Ph.got g (φ.jv i) ak) fC)->
   (∀fC,φ.eT γ w fC->Ph.WT γ.close (Ph.got g φ.z aq) fC)->Ph.WT γ g w
structure Ph.Ok:Prop where
 hCW:φ.Ch≠φ.Wg
 rdW:¬φ.mX φ.Wg
 rdC:¬φ.mX φ.Ch
 Qs:¬φ.CB φ.Wg
 cbC:¬φ.CB φ.Ch
 QW:∀b,φ.CB b->¬φ.mX b
 abj:¬φ.Std φ.Wg
 acr:¬φ.Std φ.Ch
 aay:∀b,φ.CB b->¬φ.Std b
 lK:∀i a,φ.jl i a->φ.CB a.block
 Am:∀i i' a,φ.jl i a->φ.jl i' a->i=i'
 jp:∀(o:Nat->Prop)(w fC:ar)(i:Nat),(∀b,o b->fC.heap[b]? =w.heap[b]?)->(∀a,φ.jl i a->fC.cell? a=w.cell? a)->φ.JP o i w->φ.JP o i fC
 j0:∀(w fC:ar)(i:Nat),(∀a,φ.jl i a->fC.cell? a=w.cell? a)->φ.J0 i w->φ.J0 i fC
 xt:∀(o o':Nat->Prop)(w:ar)(i:Nat),(∀b,o b->o' b)->φ.JP o i w->φ.JP o' i w
 wY:0<φ.lo
 n31:φ.n<2147483648
variable{φ}
def Ph.eT.refl(a w):φ.eT a w w:=⟨λ_ _=>rfl,λ_ _=>rfl,λ_ _ _ _=>rfl,λ_ _=>rfl,id,ao _,rfl,rfl,rfl⟩
def Ph.eT.trans{d a b c}(h:φ.eT d a b)(k:φ.eT d b c):φ.eT d a c:=⟨λx y=>(k.own x y).trans (h.own x y),λx y=>(k.rd x y).trans (h.rd x y),λi x y z=>(k.cell i x y z).trans (h.cell i x y z),λx y=>(k.pay x y).trans (h.pay x y),k.live∘h.live,bD h.size k.size,k.tape.trans h.tape,k.os.trans h.os,k.output.trans h.output⟩
def Ph.eT.rw'{c C}(hC:c.own C){a b}(h:φ.eT c a b):RW φ.ty φ.Wg C 1 0 0 a b:=⟨λx g _ _=>absurd g (Nat.not_lt_zero _),h.live,λ⟨d,e,f⟩=>⟨d,(h.own C hC).trans e,f⟩,cell_of_block (h.own C hC) 0⟩
def Ph.N5.rely(O:φ.Ok){f g w c}(h:φ.N5 f g w)(r:φ.eT f w c):φ.N5 f g c:=by obtain⟨C,v,m,o,hC,n,⟨k,d,e⟩,l⟩:=h;exact⟨C,v,m,o,hC,λi j=>O.jp _ w c i (λb q=>r.own b q.1) (λa p=>r.cell i a j p) (n i j),⟨k,(r.own C hC).trans d,e⟩,Goes.rely (λ_ _ _ d e=>d.trans e) l (r.rw' hC)⟩
def Ph.WT.status{b g w}(h:φ.WT b g w):g.status=.running:=by
 cases h with|tail h=>obtain⟨C,v,m,_,_,_,_,a⟩:=h;exact Goes.running (λ_ _ x=>x.1) w (RW.refl w) a|step _ _ _ h _ _=>exact h|recv h _ _ _=>exact h
abbrev WX:=Gh×aw×ar
def Ph.Sub(φ:Ph)(y x:WX):Prop:=
 ¬φ.N5 x.1 x.2.1 x.2.2/\∃a,φ.eT x.1 x.2.2 a/\
  ((∃es,stepG φ.P aq x.2.1 a=.go y.2.1 y.2.2 es/\y.1=x.1.grow a y.2.2)\/
   (∃g b c es,stepG φ.P aq x.2.1 a=.comm g b ak c a es/\y.2.2=a/\
     ((∃i,i<φ.nj/\¬x.1.held i/\φ.J0 i a/\y.1=x.1.hold i/\y.2.1=Ph.got x.2.1 (φ.jv i) ak)\/(y.1=x.1.close/\y.2.1=Ph.got x.2.1 φ.z aq))))
def Ph.WT.acc{l g w}(h:φ.WT l g w):_root_.Acc φ.Sub (l,g,w):=by
 induction h with
 |tail h=>exact⟨_,λy j=>absurd h j.1⟩| @step l g w D w' es A c s B=>refine⟨_,?_⟩;rintro⟨q,t,C⟩ ⟨_,a,hrel,j⟩;obtain⟨k,_⟩:=c a hrel;rcases j with⟨m,b,d⟩|⟨_,_,_,_,b,_⟩;simp only at b d hrel;rw[k]at b;cases b;subst d;exact B a hrel;simp only at b;rw[k]at b;cases b
 | @recv l g w A c r v o p=>refine⟨_,?_⟩;rintro⟨q,t,C⟩ ⟨_,a,hrel,j⟩;have k:=c a hrel;rcases j with⟨m,b,d⟩|⟨_,_,_,_,b,d,u⟩;simp only at b;rw[k]at b;cases b;simp only at d;subst d;rcases u with⟨i,x,z,n,e,f⟩|⟨e,f⟩;simp only at e f;subst e;subst f;exact o _ i hrel x z n;simp only at e f;subst e;subst f;exact p _ hrel
end Rel
namespace Rel
open Go.Conc Go.ConcN
open Go.ConcR (KK WgAt rd wr mk Payload DC0 stA smA)
variable [Payload] (φ:Ph)
structure Ph.MR(μ:Nat->Prop) (w fC:ar):Prop where
 Tk:∀b,φ.Std b->fC.heap[b]? =w.heap[b]?
 own:∀b,μ b->fC.heap[b]? =w.heap[b]?
 rd:∀b,φ.mX b->fC.heap[b]? =w.heap[b]?
 pay:∀b,φ.CB b->ft fC b=ft w b
 live:WgLive φ.ty φ.Wg w->WgLive φ.ty φ.Wg fC
 size:w.heap.size<=fC.heap.size
 tape:fC.tape=w.tape
 os:fC.os=w.os
 output:fC.output=w.output
def Ph.EvM(c:Nat->Prop)(e:Event):Prop:=
 e=⟨.mark .noRoom,aq,ak⟩\/(∃a,a.block=φ.Wg/\(e=⟨.mark (.read a),aq,ak⟩\/e=⟨.mark (.write a),aq,ak⟩))\/
  (e.sync=aq/\∃b,s0 e.loc=af b/\(c b\/(e.write=aq/\φ.mX b)))
def Ph.DM(a:Nat->Prop)(w w':ar)(es:Array Event):Prop:=w'=w/\∀e∈es,φ.EvM a e
structure Ph.Al(w w':ar):Prop where
 rest:∀b,b<w.heap.size->w'.heap[b]? =w.heap[b]?
 size:w.heap.size<=w'.heap.size
 tape:w'.tape=w.tape
 os:w'.os=w.os
 output:w'.output=w.output
def rV(a:Nat->Prop)(w w':ar):Nat->Prop:=λb=>a b\/(w.heap.size<=b/\b<w'.heap.size)
abbrev Ph.GP(b:Nat->Prop)(a:aw->ar->Prop)(m:Nat)(g:aw)(w:ar):Prop:=Goes φ.P ak (φ.MR b) (φ.DM b) a m g w
section
variable(Z:Nat->Prop) (Y:aw->ar->Prop) (X:aw->ar->Prop)
def Ph.AtRet(g:aw)(w:ar):Prop:=g.status=.running/\Y g w
def Ph.AtAcq(g:aw)(w:ar):Prop:=g.status=.running/\∃a,stepG φ.P ak g w=.go a w #[gS (.acquire (stA φ.Wg))]/\∃m,φ.GP Z (Ph.AtRet Y) m a w
def Ph.AtKe(g:aw)(w:ar):Prop:=g.status=.running/\∃a,stepG φ.P ak g w=.go a w #[gS .enable]/\∃m,φ.GP Z (φ.AtAcq Z Y) m a w
def Ph.AtW4(g:aw)(w:ar):Prop:=g.status=.running/\(WgAt φ.ty φ.Wg w 0 0->∃a,stepG φ.P ak g w=.go a w #[rd (stA φ.Wg)]/\∃m,φ.GP Z (φ.AtKe Z Y) m a w)
def Ph.AtW3(g:aw)(w:ar):Prop:=
 g.status=.running/\g.offers=ah/\
  ((∃b,WgAt φ.ty φ.Wg w b 0)->stepG φ.P ak g w=.go {g with status:=.blocked} w #[])/\
  (WgAt φ.ty φ.Wg w 0 1->∃a,stepG φ.P ak g w=.go a (w.setCell (smA φ.Wg) (.int .u32 0)) (semEvents (smA φ.Wg))/\∃m,φ.GP Z (φ.AtW4 Z Y) m a (w.setCell (smA φ.Wg) (.int .u32 0)))
def Ph.AtW2(vs:Nat)(g:aw)(w:ar):Prop:=
 g.status=.running/\∀v:Nat,v<2147483648->WgAt φ.ty φ.Wg w (v*KK) 0->
  (v=vs->∃a,stepG φ.P ak g w=.go a (w.setCell (stA φ.Wg) (.int .u64 (v*KK+1))) #[rd (stA φ.Wg),wr (stA φ.Wg)]/\∃m,φ.GP Z (φ.AtW3 Z Y) m a (w.setCell (stA φ.Wg) (.int .u64 (v*KK+1))))/\
  (v≠vs->∃a,stepG φ.P ak g w=.go a w #[rd (stA φ.Wg)]/\∃m,φ.GP Z X m a w)
def Ph.AtW1(g:aw)(w:ar):Prop:=g.status=.running/\∀v:Nat,v<2147483648->WgAt φ.ty φ.Wg w (v*KK) 0->∃a,stepG φ.P ak g w=.go a w #[rd (stA φ.Wg)]/\(v=0->∃m,φ.GP Z (φ.AtKe Z Y) m a w)/\(v≠0->∃m,φ.GP Z (φ.AtW2 Z Y X v) m a w)
def Ph.AtKd(g:aw)(w:ar):Prop:=g.status=.running/\∃a,stepG φ.P ak g w=.go a w #[gS .disable]/\∃m,φ.GP Z X m a w
end
section
variable(Z:(Nat->Prop)->aw->ar->Prop) (Y:Nat->Prop)
def Ph.AtGoS(g:aw)(w:ar):Prop:=g.status=.running/\∃d a c,stepG φ.P ak g w=.spawn d a w #[]/\(∀b,c b->Y b)/\φ.WT ⟨c,λ_=>False,False⟩ a w/\Z (λb=>Y b/\¬c b) d w
def Ph.AtKeS(g:aw)(w:ar):Prop:=g.status=.running/\∃a,stepG φ.P ak g w=.go a w #[gS .enable]/\∃m,φ.GP Y (φ.AtGoS Z Y) m a w
def Ph.AtA1(g:aw)(w:ar):Prop:=
 g.status=.running/\∀v:Nat,v<2147483647->WgAt φ.ty φ.Wg w (v*KK) 0->
  ∃a,stepG φ.P ak g w=.go a (w.setCell (stA φ.Wg) (.int .u64 ((v+1)*KK))) #[rd (stA φ.Wg),wr (stA φ.Wg)]/\
   ∃m,φ.GP Y (φ.AtKeS Z Y) m a (w.setCell (stA φ.Wg) (.int .u64 ((v+1)*KK)))
def Ph.AtKdS(g:aw)(w:ar):Prop:=g.status=.running/\∃a,stepG φ.P ak g w=.go a w #[gS .disable]/\∃m,φ.GP Y (φ.AtA1 Z Y) m a w
def Ph.Qx(b:(Nat->Prop)->aw->ar->Prop)(g:aw)(w:ar):Prop:=g.status=.running/\∃a w' es,stepG φ.P ak g w=.go a w' es/\Ph.Al w w'/\(∀e∈es,φ.EvM (rV Y w w') e)/\∃m,φ.GP (rV Y w w') (b (rV Y w w')) m a w'
end
def Ph.Spawns(Fin:(Nat->Prop)->aw->ar->Prop):Nat->(Nat->Prop)->aw->ar->Prop
 |0,a,g,w=>Fin a g w|r+1,a,g,w=>∃m,φ.GP a (φ.Qx a λa=>φ.Qx a λa=>φ.AtKdS (Ph.Spawns Fin r) a) m g w
variable(Goal:aw->ar->Prop) (AnchW:(Nat->Prop)->aw->ar->Prop)
def Ph.Fin(a:Nat->Prop)(g:aw)(w:ar):Prop:=∃m,φ.GP a (φ.AtKd a (AnchW a)) m g w
inductive Ph.jO:CTag->Nat->Nat->(Nat->Prop)->aw->ar->Prop
 |X8 {r m:Nat} {μ:Nat->Prop} {g:aw} {w:ar}:r<φ.n->φ.GP μ (φ.Qx μ λμ=>φ.Qx μ λμ=>φ.AtKdS (φ.Spawns (φ.Fin AnchW) r) μ) m g w->Ph.jO (.sp r 7) m 0 μ g w
 |al2 {r m:Nat} {μ:Nat->Prop} {g:aw} {w:ar}:r<φ.n->φ.GP μ (φ.Qx μ λμ=>φ.AtKdS (φ.Spawns (φ.Fin AnchW) r) μ) m g w->Ph.jO (.sp r 6) m 0 μ g w
 |skd {r m:Nat} {μ:Nat->Prop} {g:aw} {w:ar}:r<φ.n->φ.GP μ (φ.AtKdS (φ.Spawns (φ.Fin AnchW) r) μ) m g w->Ph.jO (.sp r 5) m 0 μ g w
 |sa1 {r m:Nat} {μ:Nat->Prop} {g:aw} {w:ar}:r<φ.n->φ.GP μ (φ.AtA1 (φ.Spawns (φ.Fin AnchW) r) μ) m g w->Ph.jO (.sp r 4) m 1 μ g w
 |ske {r m:Nat} {μ:Nat->Prop} {g:aw} {w:ar}:r<φ.n->φ.GP μ (φ.AtKeS (φ.Spawns (φ.Fin AnchW) r) μ) m g w->Ph.jO (.sp r 3) m 1 μ g w
 |sgo {r m:Nat} {μ:Nat->Prop} {g:aw} {w:ar}:r<φ.n->φ.GP μ (φ.AtGoS (φ.Spawns (φ.Fin AnchW) r) μ) m g w->Ph.jO (.sp r 2) m 0 μ g w
 |kd {m:Nat} {μ:Nat->Prop} {g:aw} {w:ar}:φ.GP μ (φ.AtKd μ (AnchW μ)) m g w->Ph.jO .kd m 0 μ g w
 |anch {m:Nat} {μ:Nat->Prop} {g:aw} {w:ar}:φ.GP μ (AnchW μ) m g w->Ph.jO .anch m 1 μ g w
 |w1 {m:Nat} {μ:Nat->Prop} {g:aw} {w:ar}:φ.GP μ (φ.AtW1 μ Goal (AnchW μ)) m g w->Ph.jO .w1 m 1 μ g w
 |w2 {vs m:Nat} {μ:Nat->Prop} {g:aw} {w:ar}:φ.GP μ (φ.AtW2 μ Goal (AnchW μ) vs) m g w->Ph.jO (.w2 vs) m 1 μ g w
 |w3 {m:Nat} {μ:Nat->Prop} {g:aw} {w:ar}:φ.GP μ (φ.AtW3 μ Goal) m g w->Ph.jO .w3 (m+1) 1 μ g w
 |blk {μ:Nat->Prop} {g:aw} {w:ar}:(∀fC,φ.MR μ w fC->φ.AtW3 μ Goal g fC)->Ph.jO .blk 0 1 μ {g with status:=.blocked} w
 |w4 {m:Nat} {μ:Nat->Prop} {g:aw} {w:ar}:φ.GP μ (φ.AtW4 μ Goal) m g w->Ph.jO .w4 m 1 μ g w
 |ke {m:Nat} {μ:Nat->Prop} {g:aw} {w:ar}:φ.GP μ (φ.AtKe μ Goal) m g w->Ph.jO .ke m 1 μ g w
 |acq {m:Nat} {μ:Nat->Prop} {g:aw} {w:ar}:φ.GP μ (φ.AtAcq μ Goal) m g w->Ph.jO .acq m 0 μ g w
 |ret {m:Nat} {μ:Nat->Prop} {g:aw} {w:ar}:φ.GP μ (Ph.AtRet Goal) m g w->Ph.jO .ret m 0 μ g w
section
variable{φ} {Z:aw->ar->Prop} {Y:(Nat->Prop)->aw->ar->Prop}
def Ph.MR.refl(a w):φ.MR a w w:=⟨λ_ _=>rfl,λ_ _=>rfl,λ_ _=>rfl,λ_ _=>rfl,id,ao _,rfl,rfl,rfl⟩
def Ph.MR.trans{d a b c}(h:φ.MR d a b)(k:φ.MR d b c):φ.MR d a c:=⟨λx y=>(k.Tk x y).trans (h.Tk x y),λx y=>(k.own x y).trans (h.own x y),λx y=>(k.rd x y).trans (h.rd x y),λx y=>(k.pay x y).trans (h.pay x y),k.live∘h.live,bD h.size k.size,k.tape.trans h.tape,k.os.trans h.os,k.output.trans h.output⟩
def Ph.jO.rely{tag f d g a w w'}(h:φ.jO Z Y tag f d g a w)(b:φ.MR g w w'):φ.jO Z Y tag f d g a w':=by
 have c:∀x y z,φ.MR g x y->φ.MR g y z->φ.MR g x z:=λ_ _ _ k l=>k.trans l
 cases h with|X8 e h=>exact .X8 e (Goes.rely c h b)|al2 e h=>exact .al2 e (Goes.rely c h b)|skd e h=>exact .skd e (Goes.rely c h b)|sa1 e h=>exact .sa1 e (Goes.rely c h b)|ske e h=>exact .ske e (Goes.rely c h b)|sgo e h=>exact .sgo e (Goes.rely c h b)|kd h=>exact .kd (Goes.rely c h b)|anch h=>exact .anch (Goes.rely c h b)|w1 h=>exact .w1 (Goes.rely c h b)|w2 h=>exact .w2 (Goes.rely c h b)|w3 h=>exact .w3 (Goes.rely c h b)|blk h=>exact .blk (λj i=>h j (b.trans i))|w4 h=>exact .w4 (Goes.rely c h b)|ke h=>exact .ke (Goes.rely c h b)|acq h=>exact .acq (Goes.rely c h b)|ret h=>exact .ret (Goes.rely c h b)
def Ph.jO.status{tag f d e a w}(i:∀e g w,Y e g w->g.status=.running)(h:φ.jO Z Y tag f d e a w):(a.status=.running/\tag≠.blk)\/(a.status=.blocked/\tag=.blk):=by
 have b:∀{c:aw->ar->Prop}{m:Nat},(∀g w,c g w->g.status=.running)->φ.GP e c m a w->a.status=.running:=λj h=>Goes.running j w (.refl e w) h
 cases h with|X8 _ h=>exact .inl ⟨b (λ_ _ x=>x.1) h,by simp⟩|al2 _ h=>exact .inl ⟨b (λ_ _ x=>x.1) h,by simp⟩|skd _ h=>exact .inl ⟨b (λ_ _ x=>x.1) h,by simp⟩|sa1 _ h=>exact .inl ⟨b (λ_ _ x=>x.1) h,by simp⟩|ske _ h=>exact .inl ⟨b (λ_ _ x=>x.1) h,by simp⟩|sgo _ h=>exact .inl ⟨b (λ_ _ x=>x.1) h,by simp⟩|kd h=>exact .inl ⟨b (λ_ _ x=>x.1) h,by simp⟩|anch h=>exact .inl ⟨b (i e) h,by simp⟩|w1 h=>exact .inl ⟨b (λ_ _ x=>x.1) h,by simp⟩|w2 h=>exact .inl ⟨b (λ_ _ x=>x.1) h,by simp⟩|w3 h=>exact .inl ⟨b (λ_ _ x=>x.1) h,by simp⟩|blk h=>exact .inr ⟨rfl,rfl⟩|w4 h=>exact .inl ⟨b (λ_ _ x=>x.1) h,by simp⟩|ke h=>exact .inl ⟨b (λ_ _ x=>x.1) h,by simp⟩|acq h=>exact .inl ⟨b (λ_ _ x=>x.1) h,by simp⟩|ret h=>exact .inl ⟨b (λ_ _ x=>x.1) h,by simp⟩
def Ph.jO.wokenBy{tag f d b a w w'}(e:∀b g w,Y b g w->g.status=.running)(h:φ.jO Z Y tag f d b a w)(p:φ.MR b w w')(g j):∃tag' f',φ.jO Z Y tag' f' d b (woken φ.P g j w' a) w'/\(tag'=tag\/(tag=.blk/\tag'=.w3))/\(mayWake φ.P g=ak->j.status=.running->tag'≠.blk):=by
 have c:=h.rely p;unfold Go.Conc.woken;split;rcases c.status e with⟨q,i⟩|⟨_,rfl⟩;exact⟨tag,f,by rw[again_running _ (.inl q)];exact c,.inl rfl,λ_ _=>i⟩;cases c with|blk l=>have k:=l w' (.refl b w');exact⟨.w3,0+1,by rw[Go.ConcR.again_blocked k.1 k.2.1];exact .w3 (Goes.stop l),.inr ⟨rfl,rfl⟩,λ_ _=>by simp⟩
 rename_i o;exact⟨tag,f,c,.inl rfl,λm n=>absurd (by simp[m,n]) o⟩
end
end Rel
namespace Rel
open Go.Conc Go.ConcN
open Go.ConcR (KK WgAt rd wr Payload DC0 stA smA)
inductive wW where
 |kG
 |tree (x:WX)
 |tail (d:WD)
def wW.wd:wW->WD|.kG=>⟨1,0,0⟩|.tree _=>⟨7,0,0⟩|.tail d=>d
section
variable [Payload] (Z:Ph)
def Ph.G0:wW->wW->Prop|.tail a,.tail b=>a.stage<b.stage\/(a.stage=b.stage/\a.fuel<b.fuel)|.tail _,.tree _=>True|.tail _,.kG=>True|.tree y,.tree x=>Z.Sub y x|.tree y,.kG=>_root_.Acc Z.Sub y|_,_=>False
variable{Z}
def G8(s m d):_root_.Acc Z.G0 (.tail ⟨s,m,d⟩):=by
 have c:∀s m d,_root_.Acc Z.G0 (.tail ⟨s,m,d⟩):=by
  intro s
  induction s using lj with
  |ind s k=>
   intro m
   induction m using lj with
   |ind m b=>
    intro d;refine⟨_,λy a=> ?_⟩;cases y with
    |kG=>exact a.elim|tree x=>exact a.elim|tail e=>obtain⟨l,j,f⟩:=e;rcases a with h|⟨g,i⟩;exact k l h j f;simp only at g i;subst g;exact b j i f
 exact c s m d
def G9{x}(h:_root_.Acc Z.Sub x):_root_.Acc Z.G0 (.tree x):=by
 induction h with
 |intro x _ b=>
  refine⟨_,λy a=> ?_⟩;cases y with|kG=>exact a.elim|tree y=>exact b y a|tail e=>obtain⟨s,m,d⟩:=e;exact G8 s m d
def Kt:_root_.Acc Z.G0 .kG:=by
 refine⟨_,λy a=> ?_⟩;cases y with|kG=>exact a.elim|tree y=>exact G9 a|tail e=>obtain⟨s,m,d⟩:=e;exact G8 s m d
def vlt(r:wW->wW->Prop)(n:Nat)(a S:Nat->wW):Prop:=∃i,i<n/\r (a i) (S i)/\∀k,k≠i->a k=S k
def UD{r}:∀n S,(∀i,i<n->_root_.Acc r (S i))->_root_.Acc (vlt r n) S:=by
 intro n
 induction n with
 |zero=>intro S _;exact⟨_,λc ⟨i,h,_⟩=>absurd h (Nat.not_lt_zero _)⟩|succ n t=>
  intro S b;have q:∀x,_root_.Acc r x->∀S,S n=x->_root_.Acc (vlt r n) S->(∀i,i<n->_root_.Acc r (S i))->_root_.Acc (vlt r (n+1)) S:=by
   intro x s
   induction s with
   |intro x s p=>
    intro S f a
    induction a with
    |intro S a o=>
     intro b;refine⟨_,?_⟩;rintro c ⟨i,h,l,g⟩;rcases du i n with m|u;refine o c ⟨i,m,l,g⟩ ((g n (by omega)).trans f) λk j=> ?_
     by_cases e:k=i;subst e;exact(b k j).inv l;rw[g k e];exact b k j;obtain rfl:i=n:=by omega
     have d:∀k,k<i->_root_.Acc r (c k):=λk j=>by rw[g k (by omega)];exact b k j
     exact p (c i) (f▸l) c rfl (t c d) d
  exact q (S n) (b n (by omega)) S rfl (t S λi h=>b i (by omega)) λi h=>b i (by omega)
abbrev Mu:=(Nat->wW)×(Nat×(Nat×Nat))
variable(Z)in
def Ph.O5:Mu->Mu->Prop:=Prod.Lex (vlt Z.G0 Z.n) (Prod.Lex (· < ·) (Prod.Lex (· < ·) (· < ·)))
def UC(S)(h:∀i,i<Z.n->_root_.Acc Z.G0 (S i))(p):_root_.Acc Z.O5 (S,p):=by have a:WellFounded (Prod.Lex (· < ·) (Prod.Lex (· < ·) (· < ·)):Nat×(Nat×Nat)->Nat×(Nat×Nat)->Prop):=(Prod.lex Nat.lt_wfRel (Prod.lex Nat.lt_wfRel Nat.lt_wfRel)).wf;exact Prod.lexAccessible (UD Z.n S h) (λb=>a.apply b) p
def V5{P}{u:Type}{r}(Inv:u->Machine->Trace->Prop)(Q:Machine->Trace->Prop)(h:∀c m t,Inv c m t->Q m t\/∃d a b,stepT P m=(.next d,a)/\r b c/\Inv b d (t++a)):∀c,_root_.Acc r c->∀m t,Inv c m t->∃N d f,runNT P N m t=(.next d,f)/\Q d f:=by
 intro c k
 induction k with
 |intro c _ p=>intro m t j;rcases h c m t j with l|⟨d,a,b,o,n,e⟩;exact⟨0,m,t,rfl,l⟩;obtain⟨N,q,s,g,i⟩:=p b n d (t++a) e;exact⟨N+1,q,s,by rw[runNT_succ_next o];exact g,i⟩
end
section
variable [Payload] (φ:Ph)
def Ph.aas(c:Gh)(l:Loc):Prop:=(∃b,s0 l=af b/\c.own b)\/∃i a,c.held i/\φ.jl i a/\l=.cell a
def Ph.rT(c:Nat->Gh)(j:Nat)(d:Nat->Prop):lF where
 own:=λk l=>∃i,i<j/\k=φ.lo+i/\φ.aas (c i) l
 fr:=λl=>∃q a,(∀i,i<j->¬(c i).held q)/\φ.jl q a/\l=.cell a
 rd:=λl=>∃b,s0 l=af b/\φ.mX b
 mine:=λl=>∃b,s0 l=af b/\d b
 sh:=ShN φ.Wg
structure Ph.Qo(B0:Nat) (γ:Nat->Gh) (j:Nat) (μ:Nat->Prop) (sz:Nat):Prop where
 Hs:∀i i' b,i<j->i'<j->(γ i).own b->(γ i').own b->i=i'
 mine:∀i b,i<j->(γ i).own b->¬μ b
 zm:∀i b,i<j->(γ i).own b->B0<=b/\b<sz
 va:∀b,μ b->B0<=b/\b<sz
 Ag:∀i i' q,i<j->i'<j->(γ i).held q->(γ i').held q->i=i'
 lW:∀i q,i<j->(γ i).held q->q<φ.nj
 sz:B0<=sz
 B:φ.Wg<B0/\φ.Ch<B0/\(∀b,φ.mX b->b<B0)/\∀b,φ.CB b->b<B0
 st:∀b,φ.Std b->b<B0
def Ph.zH(a:Gh):wW->aw->ar->Prop
 |.kG,_,_=>False|.tree x,g,w=>x.1=a/\x.2.1=g/\φ.WT a g x.2.2/\φ.eT a x.2.2 w|.tail d,g,w=>∃C v,a.over/\a.own C/\PayAt C 1 w/\(∀i,a.held i->φ.JP (λb=>a.own b/\b≠C) i w)/\1<=d.stage/\d.stage<=7/\WSit φ.P φ.ty φ.Wg C 1 (λ_ _=>False) (λ_ _=>False) 0 1 v d.stage d.fuel d.deaf g w
def Ph.MD(k:Nat)(w:ar):Prop:=k<=φ.nj/\∃a s r b,w.heap[φ.Ch]? =af (.chan a ((fL k (φ.nj-k)).map φ.jv).toArray ak s r b)
structure Ph.Com(B0:Nat) (t0:Trace) (gs:Array aw) (w:ar) (t:Trace) (j:Nat) (γ:Nat->Gh) (S:Nat->wW) (μ:Nat->Prop) (q:Nat->Nat) (k:Nat):Prop where
 size:gs.size=φ.lo+j
 jn:j<=φ.n
 old:∀i g,0<i->i<φ.lo->gs[i]? =af g->QuitsD φ.P (q i) (Deaf t i) g
 wk:∀i,i<j->∃g,gs[φ.lo+i]? =af g/\φ.zH (γ i) (S i) g w
 un:∀i,j<=i->S i=.kG
 deaf:∀i,i<j->Deaf t (φ.lo+i)=(S i).wd.deaf
 et:ET (φ.rT γ j μ) φ.lo (φ.lo+j) t
 iz:φ.Qo B0 γ j μ w.heap.size
 norel:∀i,t0.size<=i->t.act? i≠af (.mark (.release (stA φ.Wg)))
 rel:∀i,i<j->(S i).wd.stage<=6->∃r,RelBy (stA φ.Wg) t (φ.lo+i) r
 pre:∃u,t=t0++u
 X':∀(i:Nat)(op:MemOp)(x:Touch),t0.size<=i->t[i]? =af op->op.g≠0->op.act.touch? =af x->x.kind≠.plain->ShN φ.Wg x.loc
 mute:∀(i:Nat)(op:MemOp),t0.size<=i->t[i]? =af op->op.g≠0->op.g<φ.lo->op.act.touch? =ah
 seen:∀op∈t,∀x,op.act.touch? =af x->x.loc.low w.heap.size
 chan:φ.MD k w
 done:∀p,p<k->∃i,i<j/\(γ i).held p
 todo:∀p i,k<=p->i<j->¬(γ i).held p
 over:∀i,i<j->(γ i).over->k=φ.nj
 free:∀p,k<=p->p<φ.nj->φ.J0 p w
variable{φ}
def Ph.Qo.apart(O:φ.Ok){G y j F I}(h:φ.Qo G y j F I):(φ.rT y j F).Apart:=by
 obtain⟨J,hC,D,o⟩:=h.B;have cell:∀{a:Addr},s0 (.cell a)=af a.block:=rfl;have E:∀{i:Nat}{l:Loc},i<j->φ.aas (y i) l->∃b,s0 l=af b/\((y i).own b\/∃q a,(y i).held q/\φ.jl q a/\l=.cell a/\a.block=b):=by rintro i l m (⟨b,d,n⟩|⟨q,a,t,f,rfl⟩);exact⟨b,d,.inl n⟩;exact⟨a.block,rfl,.inr ⟨q,a,t,f,rfl,rfl⟩⟩
 have s:∀{l:Loc},ShN φ.Wg l->s0 l=af φ.Wg:=by rintro l ⟨a,rfl,f⟩;rw[cell,f]
 refine⟨?_,?_,?_,?_,?_,?_,?_,?_,?_,?_,?_⟩;rintro k k' l ⟨i,m,rfl,r⟩ ⟨B,u,rfl,H⟩;rcases r with⟨b,d,n⟩|⟨q,a,t,f,rfl⟩<;>rcases H with⟨w,c,x⟩|⟨C,a',A,p,e⟩
 rw[d]at c;cases c;rw[h.Hs i B b m u n x];subst e;rw[cell]at d;cases d;have:=(h.zm i _ m n).1;have:=o _ (O.lK _ _ p);omega;rw[cell]at c;cases c;have:=(h.zm B _ u x).1;have:=o _ (O.lK _ _ f);omega;cases e;obtain rfl:=O.Am q C a f p;rw[h.Ag i B q m u t A];rintro k l ⟨i,m,rfl,r⟩ ⟨C,a',z,p,rfl⟩;rcases r with⟨b,d,n⟩|⟨q,a,t,f,e⟩;rw[cell]at d;cases d;have:=(h.zm i _ m n).1;have:=o _ (O.lK _ _ p);omega;cases e;obtain rfl:=O.Am q C _ f p;exact z i m t;rintro k l ⟨i,m,rfl,r⟩ ⟨w,c,g⟩;rcases r with⟨b,d,n⟩|⟨q,a,t,f,rfl⟩;rw[d]at c;cases c;have:=(h.zm i _ m n).1;have:=D _ g;omega;rw[cell]at c;cases c;exact O.QW _ (O.lK _ _ f) g;rintro k l ⟨i,m,rfl,r⟩ ⟨w,c,hm⟩;rcases r with⟨b,d,n⟩|⟨q,a,t,f,rfl⟩;rw[d]at c;cases c;exact h.mine i _ m n hm;rw[cell]at c;cases c;have:=(h.va _ hm).1;have:=o _ (O.lK _ _ f);omega;rintro k l ⟨i,m,rfl,r⟩ v;have c:=s v;rcases r with⟨b,d,n⟩|⟨q,a,t,f,rfl⟩;rw[d]at c;cases c;have:=(h.zm i _ m n).1;omega;rw[cell]at c;have e:a.block=φ.Wg:=aX c;exact O.Qs (e▸O.lK _ _ f);rintro l ⟨q,a,z,f,rfl⟩ ⟨w,c,g⟩;rw[cell]at c;cases c;exact O.QW _ (O.lK _ _ f) g;rintro l ⟨q,a,z,f,rfl⟩ ⟨w,c,hm⟩;rw[cell]at c;cases c;have:=(h.va _ hm).1;have:=o _ (O.lK _ _ f);omega;rintro l ⟨q,a,z,f,rfl⟩ v;have e:a.block=φ.Wg:=aX (s v);exact O.Qs (e▸O.lK _ _ f);rintro l ⟨b,d,g⟩ ⟨w,c,hm⟩;rw[d]at c;cases c;have:=(h.va _ hm).1;have:=D _ g;omega;rintro l ⟨b,d,g⟩ v;rw[s v]at d;cases d;exact O.rdW g;rintro l ⟨b,d,hm⟩ v;rw[s v]at d;cases d;have:=(h.va _ hm).1;omega
def Ph.zH.status{b s g w}(h:φ.zH b s g w):g.status=.running\/g.status=.finished:=by
 cases s with|kG=>exact h.elim|tree x=>obtain⟨_,c,a,_⟩:=h;exact .inl a.status|tail d=>obtain⟨C,v,_,_,_,_,_,_,h⟩:=h;exact h.status
def Ph.zH.rely(O:φ.Ok){j s g w c}(h:φ.zH j s g w)(r:φ.eT j w c):φ.zH j s g c:=by
 cases s with|kG=>exact h.elim|tree x=>obtain⟨m,e,f,n⟩:=h;exact⟨m,e,f,n.trans r⟩|tail d=>obtain⟨C,v,p,hC,⟨l,e,f⟩,o,u,y,h⟩:=h;exact⟨C,v,p,hC,⟨l,(r.own C hC).trans e,f⟩,λi k=>O.jp _ w c i (λb t=>r.own b t.1) (λa q=>r.cell i a k q) (o i k),u,y,h.rely (by simpa using r.rw' hC)⟩
end
section
variable [Payload] {Z:Ph} {Y:Nat} {X:Trace} {W:Array aw} {w w':ar} {t:Trace} {j:Nat} {V:Nat->Gh} {S:Nat->wW} {U:Nat->Prop} {q:Nat->Nat} {k k':Nat}
def Ph.Com.BO(O:Z.Ok)(h:Z.Com Y X W w t j V S U q k){i}(hi:i<j){g' c TO Si}(f)(R:∀o,o.status=.running\/o.status=.finished->f o=o)(m:∀op∈c,op.g=Z.lo+i)(hrel:∀a,a<j->a≠i->Z.eT (V a) w w')(hs:Z.zH TO Si g' w')(z:Deaf (t++c) (Z.lo+i)=Si.wd.deaf)(K:ET (Z.rT (upd V i TO) j U) Z.lo (Z.lo+j) (t++c))(H:Z.Qo Y (upd V i TO) j U w'.heap.size)(M:∀op∈c,op.act≠.mark (.release (stA Z.Wg)))(N:Si.wd.stage<=6->∃r,RelBy (stA Z.Wg) (t++c) (Z.lo+i) r)(G:∀op∈c,∀x,op.act.touch? =af x->x.kind≠.plain->ShN Z.Wg x.loc)(D:∀op∈c,∀x,op.act.touch? =af x->x.loc.low w'.heap.size)(P:w.heap.size<=w'.heap.size)(v:Z.MD k' w')(A:∀p,p<k'->∃a,a<j/\(upd V i TO a).held p)(E:∀p a,k'<=p->a<j->¬(upd V i TO a).held p)(C:∀a,a<j->(upd V i TO a).over->k'=Z.nj)(B:∀p,k'<=p->p<Z.nj->Z.J0 p w'):Z.Com Y X ((W.map f).setIfInBounds (Z.lo+i) g') w' (t++c) j (upd V i TO) (upd S i Si) U q k':=by have wY:=O.wY;refine⟨by simp[h.size],h.jn,λa x h0 hl n=> ?_,λa d=> ?_,λa d=> ?_,λa d=> ?_,K,H,λp hp F=> ?_,λa d s=> ?_,?_,λp op x hp b L n T=> ?_,λp op hp b L I=> ?_,λop b=> ?_,v,A,E,C,B⟩;rw[get_map_set _ _ _ _ (by omega)]at n;obtain⟨y,hy,rfl⟩:=aG.1 n;have hq:=h.old a y h0 hl hy;rw[R y hq.status,Deaf_other t (g':=Z.lo+i) (by omega) _ m];exact hq;by_cases e:a=i;subst e;exact⟨g',get_map_set_same _ _ _ (by rw[h.size];omega),by rw[upd_same,upd_same];exact hs⟩;obtain⟨x,n,J⟩:=h.wk a d;refine⟨x,by rw[get_map_set _ _ _ _ (by omega),n,fD,R x J.status],?_⟩;rw[upd_ne _ _ e,upd_ne _ _ e];exact J.rely O (hrel a d e);rw[upd_ne _ _ (by omega)];exact h.un a d;by_cases e:a=i;subst e;rw[upd_same];exact z;rw[Deaf_other t (g':=Z.lo+i) (by omega) _ m,h.deaf a d,upd_ne _ _ e];obtain⟨op,b,Q⟩:=aG.1 F;rcases getElem?_append_cases b with⟨_,g⟩|⟨_,l⟩;exact h.norel p hp (by rw[act?_of g,Q]);exact M op l Q;by_cases e:a=i;subst e;rw[upd_same]at s;exact N s;rw[upd_ne _ _ e]at s;obtain⟨r,N⟩:=h.rel a d s;exact⟨r,N.appNot λop b=>by rw[m op b];omega⟩;obtain⟨u,rfl⟩:=h.pre;exact⟨u++c,by rw[Array.append_assoc]⟩;rcases getElem?_append_cases b with⟨_,g⟩|⟨_,l⟩;exact h.X' p op x hp g L n T;exact G op l x n T;rcases getElem?_append_cases b with⟨_,g⟩|⟨_,l⟩;exact h.mute p op hp g L I;rw[m op l]at I;omega;intro x n;rcases nl.1 b with y|y;exact Loc.low_mono P (h.seen op y x n);exact D op y x n
omit [Payload]in
def ta{e:Event}{b:Nat}(c:s0 e.loc=af b)(f:e.sync=aq):cM e=.access e/\(cM e).touch? =af ⟨e.loc,e.write,.plain⟩:=by
 obtain⟨d,wr,g⟩:=e;simp only at f;subst f;cases d with|mark m=>cases c|output=>cases c|goroutines=>cases c|cell a=>cases wr<;>exact⟨rfl,rfl⟩|obj r=>cases wr<;>exact⟨rfl,rfl⟩
omit [Payload]in
def Av{B:Nat}{l:Loc}(h:∀b,s0 l=af b->b<B):l.low B:=by
 cases l with|cell a=>exact h _ rfl|obj r=>exact h _ rfl|_=>exact trivial
omit [Payload]in
def uK{B:Nat}(h:∀op∈t,∀x,op.act.touch? =af x->x.loc.low B){l:Loc}{b:Nat}(c:s0 l=af b)(k:B<=b):pX t l:=by
 rintro i a g rfl;obtain⟨x,j,e⟩:=touch_of g;have d:=h x (qN j) a e;revert c d;cases a.loc with|cell f=>intro c d;cases c;exact absurd d (by show¬(f.block<B);omega)|obj r=>intro c d;cases c;exact absurd d (by show¬(b<B);omega)|_=>intro c;cases c
def pZ{V e}(h:Z.Acc V e):(∃m,cM e=.mark m/\e.loc=.mark m/\(m=.noRoom\/∃f,m=.extern f))\/(cM e=.access e/\(cM e).touch? =af ⟨e.loc,e.write,.plain⟩/\∃b,s0 e.loc=af b/\(V.own b\/(∃i a,V.held i/\Z.jl i a/\e.loc=.cell a)\/(e.write=aq/\Z.mX b))):=by rcases h with⟨m,rfl,hm⟩|⟨d,b,c,h⟩;rcases hm with rfl|⟨f,rfl⟩;exact .inl ⟨_,rfl,rfl,.inl rfl⟩;exact .inl ⟨_,rfl,rfl,.inr ⟨_,rfl⟩⟩;exact .inr ⟨(ta c d).1,(ta c d).2,b,c,h⟩
def Ph.Qo.grow(h:Z.Qo Y V j U w.heap.size){i}(n:i<j)(m:w.heap.size<=w'.heap.size):Z.Qo Y (upd V i ((V i).grow w w')) j U w'.heap.size:=by
 have own:∀{a b:Nat},(upd V i ((V i).grow w w') a).own b->(V a).own b\/(a=i/\w.heap.size<=b/\b<w'.heap.size):=by
  intro a b k;by_cases e:a=i;subst e;rw[upd_same]at k;exact k.imp id λx=>⟨rfl,x⟩
  rw[upd_ne _ _ e]at k;exact .inl k
 have c:∀{a p:Nat},(upd V i ((V i).grow w w') a).held p->(V a).held p:=by intro a p hp;by_cases e:a=i;subst e;rwa[upd_same]at hp;rwa[upd_ne _ _ e]at hp
 have o:=h.sz;refine⟨λa a' b d g f l=> ?_,λa b d f hm=> ?_,λa b d f=> ?_,λb k=> ?_,λa a' p d g f l=>h.Ag a a' p d g (c f) (c l),λa p d f=>h.lW a p d (c f),by omega,h.B,h.st⟩;rcases own f with x|⟨rfl,x⟩<;>rcases own l with y|⟨rfl,y⟩
 exact h.Hs a a' b d g x y;have:=(h.zm a b d x).2;omega;have:=(h.zm a' b g y).2;omega;rfl;rcases own f with x|⟨rfl,x⟩;exact h.mine a b d x hm;have:=(h.va b hm).2;omega;rcases own f with x|⟨rfl,x⟩;have:=h.zm a b d x;omega;omega;have:=h.va b k;omega
def Ph.yK.rely(O:Z.Ok)(h:Z.Qo Y V j U w.heap.size){i}(n:i<j){es}(d:Z.yK (V i) w w' es){g}(f:g<j)(k:g≠i):Z.eT (V g) w w':=by
 obtain⟨t,hC,r,l⟩:=h.B;have B:=h.sz;have c:∀b,b<Y->¬(V i).own b:=λb e o=>by have:=(h.zm i b n o).1;omega
 refine⟨λb e=> ?_,λb e=>d.rest b (by have:=r b e;omega) (c b (r b e)) λx=>O.QW b x e,λp a hp s=>d.cells a (O.lK p a s) λy q m=> ?_,d.pay,λ⟨A,z,u⟩=>⟨A,z,?_⟩,d.size,d.tape,d.os,d.output⟩;have v:=h.zm g b f e;exact d.rest b v.2 (λo=>k (h.Hs g i b f n e o)) λx=>by have:=l b x;omega
 obtain rfl:=O.Am p y a s m;exact k (h.Ag g i p f n hp q);exact(d.rest Z.Wg (by omega) (c _ t) O.Qs).trans u
def Ph.yK.mr(O:Z.Ok)(h:Z.Qo Y V j U w.heap.size){i}(k:i<j){es}(d:Z.yK (V i) w w' es):Z.MR U w w':=by
 obtain⟨l,hC,g,e⟩:=h.B;have q:=h.sz;have a:∀b,b<Y->¬(V i).own b:=λb c f=>by have:=(h.zm i b k f).1;omega
 refine⟨λb c=>d.rest b (by have:=h.st b c;omega) (a b (h.st b c)) λx=>O.aay b x c,λb c=> ?_,λb c=>d.rest b (by have:=g b c;omega) (a b (g b c)) λx=>O.QW b x c,d.pay,λ⟨p,o,m⟩=>⟨p,o,?_⟩,d.size,d.tape,d.os,d.output⟩;have n:=h.va b c;exact d.rest b n.2 (λf=>h.mine i b k f c) λx=>by have:=e b x;omega
 exact(d.rest Z.Wg (by omega) (a _ l) O.Qs).trans m
omit [Payload]in
def deaf_quiet{g:Nat}{a:eu}{pos:String}{es:Array Event}(h:∀e∈es,e.loc≠.mark .disable/\e.loc≠.mark .enable):Deaf (t++b6 g a pos es) g=Deaf t g:=by rw[Deaf_own];exact deafBehind_idle h _
def N7{V}{es:Array Event}(h:∀e∈es,Z.Acc V e):∀e∈es,e.loc≠.mark .disable/\e.loc≠.mark .enable:=by intro e c;rcases pZ (h e c)with⟨m,_,d,hm⟩|⟨_,_,b,a,_⟩;rw[d];rcases hm with rfl|⟨f,rfl⟩<;>simp;exact⟨λx=>(by rw[x]at a;cases a),λx=>by rw[x]at a;cases a⟩
def Ph.Com.Ty(O:Z.Ok)(h:Z.Com Y X W w t j V S U q k){i}(E:i<j){g R w0}(hS:S i=.tree (V i,g,w0)){es}(C:Z.yK (V i) w w' es)(TY:Z.WT ((V i).grow w w') R w')(fn pos f)(hf:∀o,o.status=.running\/o.status=.finished->f o=o):Z.Com Y X ((W.map f).setIfInBounds (Z.lo+i) R) w' (t++b6 (Z.lo+i) fn pos es) j (upd V i ((V i).grow w w')) (upd S i (.tree ((V i).grow w w',R,w'))) U q k:=by
 have I:∀op∈b6 (Z.lo+i) fn pos es,op.g=Z.lo+i:=λop c=>by obtain⟨e,_,rfl⟩:=bk c;rfl
 have z:=h.iz.grow E C.size;have A:=z.apart O;have YH:(S i).wd.deaf=0:=by rw[hS];rfl
 have B:∀a,(upd V i ((V i).grow w w') a).held=(V a).held:=λa=>by by_cases e:a=i;subst e;rw[upd_same];rfl;rw[upd_ne _ _ e]
 have N:∀a,(upd V i ((V i).grow w w') a).over=(V a).over:=λa=>by by_cases e:a=i;subst e;rw[upd_same];rfl;rw[upd_ne _ _ e]
 refine h.BO O E f hf I (λG v e=>C.rely O h.iz E v e) ⟨rfl,rfl,TY,.refl _ _⟩ ?_ ?_ z ?_ (λx=>by simp[wW.wd]at x) ?_ ?_ C.size ?_ (λp hp=> ?_) (λp G hp v=> ?_) (λG v d=> ?_) (λp hp hpn=> ?_);rw[deaf_quiet (N7 C.ev),h.deaf i E,YH];rfl;refine ET.X9 A (k:=Z.lo+i) (h.et.rT rfl (λkk _ _ l n=> ?_) (λl n=> ?_) (λl n=>n) λl n=>.inl n) (Nat.le_add_right _ _) (by omega) λop c=>⟨I op c,λx d=> ?_⟩
 obtain⟨a,H,rfl,n⟩:=n;by_cases e:a=i;subst e;rw[upd_same]at n;rcases n with⟨b,D,F⟩|⟨p,K,hp,u,rfl⟩;rcases F with F|⟨y,_⟩;exact .inl ⟨a,H,rfl,.inl ⟨b,D,F⟩⟩;exact .inr (.inr (uK h.seen D y));exact .inl ⟨a,H,rfl,.inr ⟨p,K,hp,u,rfl⟩⟩;rw[upd_ne _ _ e]at n;exact .inl ⟨a,H,rfl,n⟩;obtain⟨p,K,hn,u,rfl⟩:=n;exact⟨p,K,λa H=>by have:=hn a H;rwa[B a]at this,u,rfl⟩;obtain⟨e,J,rfl⟩:=bk c;simp only at d;rcases pZ (C.ev e J)with⟨m,y,_,hm⟩|⟨_,T,b,D,h3⟩;rcases hm with rfl|⟨Q,rfl⟩<;>rw[y]at d<;>cases d;rw[T]at d;cases d;rcases h3 with F|⟨p,K,hp,u,n⟩|⟨hw,hr⟩;exact .inr (.inl ⟨i,E,rfl,by rw[upd_same];exact .inl ⟨b,D,F⟩⟩);exact .inr (.inl ⟨i,E,rfl,by rw[upd_same];exact .inr ⟨p,K,hp,u,n⟩⟩);exact .inr (.inr ⟨⟨b,D,hr⟩,hw⟩);intro op c;obtain⟨e,J,rfl⟩:=bk c;rcases pZ (C.ev e J)with⟨m,y,_,hm⟩|⟨y,_⟩;rcases hm with rfl|⟨Q,rfl⟩<;>simp only[y]<;>simp;simp only[y];simp;intro op c x d hk;obtain⟨e,J,rfl⟩:=bk c;rcases pZ (C.ev e J)with⟨m,y,_,hm⟩|⟨_,T,_⟩;rcases hm with rfl|⟨Q,rfl⟩<;>simp only[y]at d<;>cases d;simp only[T]at d;cases d;exact absurd rfl hk;intro op c x d;obtain⟨e,J,rfl⟩:=bk c;have hs:=h.iz.sz;have hz:=C.size;obtain⟨hW,hC,hR,L⟩:=h.iz.B;rcases pZ (C.ev e J)with⟨m,y,_,hm⟩|⟨_,y,b,D,h3⟩;rcases hm with rfl|⟨Q,rfl⟩<;>simp only[y]at d<;>cases d;simp only[y]at d;cases d;refine Av (l:=e.loc) λb' M=> ?_
 rw[D]at M;cases M;rcases h3 with F|⟨p,K,hp,u,n⟩|⟨hw,hr⟩;exact(z.zm i b E (by rw[upd_same];exact F)).2;rw[n]at D;cases D;have:=L _ (O.lK _ _ u);omega;have:=hR b hr;omega;obtain⟨hk,P,s,r,tm,hc⟩:=h.chan;obtain⟨hW,hC,hR,L⟩:=h.iz.B;have hs:=h.iz.sz;exact⟨hk,P,s,r,tm,(C.rest Z.Ch (by omega) (λF=>by have:=(h.iz.zm i _ E F).1;omega) O.cbC).trans hc⟩;obtain⟨G,v,hh⟩:=h.done p hp;exact⟨G,v,by rw[B G];exact hh⟩;rw[B G];exact h.todo p G hp v;rw[N G]at d;exact h.over G v d;refine O.j0 w w' p (λa H=>C.cells a (O.lK p a H) λp' hp' ha'=> ?_) (h.free p hp hpn);obtain rfl:=O.Am p p' a H ha';exact h.todo p i hp E hp'
end
section
variable [Payload] {Z:Ph} {Y:Nat} {X:Trace} {W:Array aw} {w w':ar} {t:Trace} {j:Nat} {V:Nat->Gh} {S:Nat->wW} {U:Nat->Prop} {q:Nat->Nat} {k k':Nat}
def IM{i c}(h:∀x g,x≠i->W[x]? =af g->g.status≠.blocked\/g.offers=ah)(b):partners (W.setIfInBounds i Go.Conc.ph) c b=[]:=by
 refine partners_nil λx g j=> ?_
 rcases getElem?_stand W i x g j with⟨_,rfl⟩|⟨a,d⟩;rfl;rcases h x g a d with f|e;exact offersAt_of_not_blocked f _ _;unfold offersAt;rw[e];cases g.status<;>rfl
def EE(O:Z.Ok){γ'}(hC:¬γ'.own Z.Ch)(d c cl s r g)(j:∃d c cl s r g,w.heap[Z.Ch]? =af (.chan d c cl s r g)):Z.eT γ' w (w.setChan Z.Ch d c cl s r g):=by
 have blk:∀b,b≠Z.Ch->(w.setChan Z.Ch d c cl s r g).heap[b]? =w.heap[b]?:=λb f=>by show(w.heap.setIfInBounds Z.Ch _)[b]? =_;rw[aH (Ne.symm f)]
 refine⟨λb f=>blk b λe=>hC (e▸f),λb f=>blk b λe=>O.rdC (e▸f),λp a _ i=> ?_,λb f=> ?_,λ⟨m,l,k⟩=>⟨m,l,(blk Z.Wg (Ne.symm O.hCW)).trans k⟩,by simp[nW],rfl,rfl,rfl⟩;have h:a.block≠Z.Ch:=λe=>O.cbC (e▸O.lK p a i)
 unfold da;rw[blk _ h];unfold ft;rw[blk _ λe=>O.cbC (e▸f)]
def VA(O:Z.Ok)(hC:¬U Z.Ch)(d c cl s r f):Z.MR U w (w.setChan Z.Ch d c cl s r f):=by
 have blk:∀b,b≠Z.Ch->(w.setChan Z.Ch d c cl s r f).heap[b]? =w.heap[b]?:=λb a=>by show(w.heap.setIfInBounds Z.Ch _)[b]? =_;rw[aH (Ne.symm a)]
 exact⟨λb a=>blk b λe=>O.acr (e▸a),λb a=>blk b λe=>hC (e▸a),λb a=>blk b λe=>O.rdC (e▸a),λb a=>by unfold ft;rw[blk _ λe=>O.cbC (e▸a)],λ⟨i,h,g⟩=>⟨i,h,(blk Z.Wg (Ne.symm O.hCW)).trans g⟩,by simp[nW],rfl,rfl,rfl⟩
def Ph.Com.WQ(h:Z.Com Y X W w t j V S U q k){i}(a:i<j):¬(V i).own Z.Ch:=λb=>by have:=(h.iz.zm i _ a b).1;have:=h.iz.B.2.1;omega
def Ph.Com.Yg(h:Z.Com Y X W w t j V S U q k):¬U Z.Ch:=λa=>by have:=(h.iz.va _ a).1;have:=h.iz.B.2.1;omega
def Ej(W:Array aw):W.map id=W:=by simp
def Ph.Com.VY(O:Z.Ok)(h:Z.Com Y X W w t j V S U q k){i}(J:i<j){g x}(R:S i=.tree x)(N:k<Z.nj){n s r E}(C:w.heap[Z.Ch]? =af (.chan n ((fL k (Z.nj-k)).map Z.jv).toArray ak s r E))(L:Z.WT ((V i).hold k) (Ph.got g (Z.jv k) ak) w)(fn pos):Z.Com Y X (W.setIfInBounds (Z.lo+i) (Ph.got g (Z.jv k) ak)) (w.setChan Z.Ch n ((fL (k+1) (Z.nj-(k+1))).map Z.jv).toArray ak s (r+1) E) (t++#[{g:=Z.lo+i,fn,pos,act:=.recv Z.Ch r n},{g:=Z.lo+i,fn,pos,act:=.recvDone Z.Ch r}]) j (upd V i ((V i).hold k)) (upd S i (.tree ((V i).hold k,Ph.got g (Z.jv k) ak,w))) U q (k+1):=by
 have hm:∀op∈(#[{g:=Z.lo+i,fn,pos,act:=.recv Z.Ch r n},{g:=Z.lo+i,fn,pos,act:=.recvDone Z.Ch r}]:Trace),op.g=Z.lo+i/\op.act.touch? =ah/\(∀m,op.act≠.mark m)/\op.act.low w.heap.size:=by
  intro op c;have u:Z.Ch<w.heap.size:=by have:=h.iz.B.2.1;have:=h.iz.sz;omega
  simp only[nU,b8,fO,or_false]at c;rcases c with rfl|rfl<;>exact⟨rfl,rfl,by simp,u⟩
 have G:(w.setChan Z.Ch n ((fL (k+1) (Z.nj-(k+1))).map Z.jv).toArray ak s (r+1) E).heap.size=w.heap.size:=by simp[nW]
 have own:∀{a b:Nat},(upd V i ((V i).hold k) a).own b↔(V a).own b:=by intro a b;by_cases e:a=i;subst e;rw[upd_same];rfl;rw[upd_ne _ _ e]
 have H:∀{a:Nat},(upd V i ((V i).hold k) a).over↔(V a).over:=by intro a;by_cases e:a=i;subst e;rw[upd_same];rfl;rw[upd_ne _ _ e]
 have d:∀{a p:Nat},(upd V i ((V i).hold k) a).held p↔((V a).held p\/(a=i/\p=k)):=by intro a p;by_cases e:a=i;subst e;rw[upd_same];simp[Gh.hold];rw[upd_ne _ _ e];simp[e]
 have e:=h.BO (w':=w.setChan Z.Ch n ((fL (k+1) (Z.nj-(k+1))).map Z.jv).toArray ak s (r+1) E) (k':=k+1) (g':=Ph.got g (Z.jv k) ak) (TO:=(V i).hold k) (Si:=.tree ((V i).hold k,Ph.got g (Z.jv k) ak,w)) O J id (λ_ _=>rfl)
  (λop c=>(hm op c).1) (λB f _=>EE O (h.WQ f) _ _ _ _ _ _ ⟨_,_,_,_,_,_,C⟩)
  ⟨rfl,rfl,L,EE O (γ':=(V i).hold k) (h.WQ J) _ _ _ _ _ _ ⟨_,_,_,_,_,_,C⟩⟩ ?_ ?_ ?_ (λop c=>(hm op c).2.2.1 _) (λx=>by simp[wW.wd]at x) (λop c x D=>by rw[(hm op c).2.1]at D;cases D)
  (λop c x D=>by rw[(hm op c).2.1]at D;cases D) (by rw[G];exact ao _) ?_ (λp hp=> ?_) (λp B hp f=> ?_) (λB f D=> ?_) (λp hp Q=>O.j0 _ _ p (λa o=> ?_) (h.free p (by omega) Q))
 rw[Ej]at e;exact e;rw[Deaf_still t _ _ λop c=>⟨(hm op c).2.2.1 _,(hm op c).2.2.1 _⟩,h.deaf i J,R];rfl;refine ET.mute (g:=Z.lo+i) (h.et.rT rfl (λkk _ _ l u=> ?_) (λl u=> ?_) (λl u=>u) λl u=>.inl u) (by omega) (λop c=>(hm op c).1) λop c=>(hm op c).2.1
 obtain⟨a,o,rfl,u⟩:=u;rcases u with⟨b,T,ho⟩|⟨p,I,hp,A,rfl⟩;exact .inl ⟨a,o,rfl,.inl ⟨b,T,own.1 ho⟩⟩;rcases d.1 hp with hp|⟨rfl,rfl⟩;exact .inl ⟨a,o,rfl,.inr ⟨p,I,hp,A,rfl⟩⟩;exact .inr (.inl ⟨p,I,λB f=>h.todo p B (ao _) f,A,rfl⟩);obtain⟨p,I,hn,A,rfl⟩:=u;exact⟨p,I,λa o hp=>hn a o (d.2 (.inl hp)),A,rfl⟩;rw[G];refine⟨λa a' b o z v K=>h.iz.Hs a a' b o z (own.1 v) (own.1 K),λa b o v=>h.iz.mine a b o (own.1 v),λa b o v=>h.iz.zm a b o (own.1 v),h.iz.va,λa a' p o z v K=> ?_,λa p o v=> ?_,h.iz.sz,h.iz.B,h.iz.st⟩;rcases d.1 v with x|⟨rfl,rfl⟩<;>rcases d.1 K with y|⟨rfl,y⟩
 exact h.iz.Ag a a' p o z x y;subst y;exact absurd x (h.todo _ a (ao _) o);exact absurd y (h.todo _ a' (ao _) z);rfl;rcases d.1 v with x|⟨rfl,rfl⟩;exact h.iz.lW a p o x;exact N;refine⟨by omega,n,s,r+1,E,?_⟩;show(w.heap.setIfInBounds Z.Ch _)[Z.Ch]? =_;rw[aQ (aC.1 C).1];rcases du p k with F|F;obtain⟨B,f,M⟩:=h.done p F;exact⟨B,f,d.2 (.inl M)⟩;exact⟨i,J,d.2 (.inr ⟨rfl,by omega⟩)⟩;intro M;rcases d.1 M with x|⟨_,rfl⟩;exact h.todo p B (by omega) f x;omega;have:=h.over B f (H.1 D);omega;have P:a.block≠Z.Ch:=λe=>O.cbC (e▸O.lK p a o)
 have blk:(w.setChan Z.Ch n ((fL (k+1) (Z.nj-(k+1))).map Z.jv).toArray ak s (r+1) E).heap[a.block]? =w.heap[a.block]?:=by show(w.heap.setIfInBounds Z.Ch _)[a.block]? =_;rw[aH (Ne.symm P)]
 unfold da;rw[blk]
def Ph.Com.SZ(O:Z.Ok)(h:Z.Com Y X W w t j V S U q k){i}(D:i<j){g x}(E:S i=.tree x)(G:k=Z.nj)(B:Z.WT (V i).close (Ph.got g Z.z aq) w)(fn pos):Z.Com Y X (W.setIfInBounds (Z.lo+i) (Ph.got g Z.z aq)) w (t++#[{g:=Z.lo+i,fn,pos,act:=.recvClosed Z.Ch}]) j (upd V i (V i).close) (upd S i (.tree ((V i).close,Ph.got g Z.z aq,w))) U q k:=by
 have hm:∀op∈(#[{g:=Z.lo+i,fn,pos,act:=.recvClosed Z.Ch}]:Trace),op.g=Z.lo+i/\op.act.touch? =ah/\(∀m,op.act≠.mark m)/\op.act.low w.heap.size:=by
  intro op c;have o:Z.Ch<w.heap.size:=by have:=h.iz.B.2.1;have:=h.iz.sz;omega
  simp only[nU,b8,fO,or_false]at c;rcases c with rfl;exact⟨rfl,rfl,by simp,o⟩
 have own:∀{a b:Nat},(upd V i (V i).close a).own b↔(V a).own b:=by intro a b;by_cases e:a=i;subst e;rw[upd_same];rfl;rw[upd_ne _ _ e]
 have d:∀{a p:Nat},(upd V i (V i).close a).held p↔(V a).held p:=by intro a p;by_cases e:a=i;subst e;rw[upd_same];rfl;rw[upd_ne _ _ e]
 have e:=h.BO (w':=w) (k':=k) (g':=Ph.got g Z.z aq) (TO:=(V i).close) (Si:=.tree ((V i).close,Ph.got g Z.z aq,w)) O D id (λ_ _=>rfl)
  (λop c=>(hm op c).1) (λy n _=>.refl _ _) ⟨rfl,rfl,B,.refl _ _⟩ ?_ ?_ ?_ (λop c=>(hm op c).2.2.1 _) (λx=>by simp[wW.wd]at x) (λop c x v=>by rw[(hm op c).2.1]at v;cases v)
  (λop c x v=>by rw[(hm op c).2.1]at v;cases v) (ao _) h.chan (λp hp=> ?_) (λp y hp n=> ?_) (λy n v=>G) h.free
 rw[Ej]at e;exact e;rw[Deaf_still t _ _ λop c=>⟨(hm op c).2.2.1 _,(hm op c).2.2.1 _⟩,h.deaf i D,E];rfl;refine ET.mute (g:=Z.lo+i) (h.et.rT rfl (λJ _ _ l o=>.inl ?_) (λl o=> ?_) (λl o=>o) λl o=>.inl o) (by omega) (λop c=>(hm op c).1) λop c=>(hm op c).2.1
 obtain⟨a,f,rfl,o⟩:=o;rcases o with⟨b,F,I⟩|⟨p,z,hp,u,rfl⟩;exact⟨a,f,rfl,.inl ⟨b,F,own.1 I⟩⟩;exact⟨a,f,rfl,.inr ⟨p,z,d.1 hp,u,rfl⟩⟩;obtain⟨p,z,H,u,rfl⟩:=o;exact⟨p,z,λa f hp=>H a f (d.2 hp),u,rfl⟩;exact⟨λa a' b f s r A=>h.iz.Hs a a' b f s (own.1 r) (own.1 A),λa b f r=>h.iz.mine a b f (own.1 r),λa b f r=>h.iz.zm a b f (own.1 r),h.iz.va,λa a' p f s r A=>h.iz.Ag a a' p f s (d.1 r) (d.1 A),λa p f r=>h.iz.lW a p f (d.1 r),h.iz.sz,h.iz.B,h.iz.st⟩;obtain⟨y,n,C⟩:=h.done p hp;exact⟨y,n,d.2 C⟩;intro C;exact h.todo p y hp n (d.1 C)
end
end Rel
namespace Rel
open Go.Conc Go.ConcN
open Go.ConcR (KK WgAt rd wr Payload DC0 stA smA Bk ofEvent_loc_mark ofEvent_cell bk_of_mute)
section
variable [Payload] {Z:Ph} {Y:Nat} {X:Trace} {W:Array aw} {w w':ar} {t:Trace} {j:Nat} {V:Nat->Gh} {S:Nat->wW} {U:Nat->Prop} {q:Nat->Nat} {k k':Nat}
def Nr(O:Z.Ok){d}(hC:¬d.own Z.Wg)(h:Go.Conc.Aside Z.Wg w w')(i:WgLive Z.ty Z.Wg w'):Z.eT d w w':=by
 refine⟨λb c=>h.block b λe=>hC (e▸c),λb c=>h.block b λe=>O.rdW (e▸c),λp a _ g=> ?_,λb c=> ?_,λ_=>i,by rw[h.size];exact ao _,h.tape,h.os,h.output⟩;have f:a.block≠Z.Wg:=λe=>O.Qs (e▸O.lK p a g)
 unfold da;rw[h.block _ f];unfold ft;rw[h.block _ λe=>O.Qs (e▸c)]
def aa3(O:Z.Ok)(hC:¬U Z.Wg)(h:Go.Conc.Aside Z.Wg w w')(c:WgLive Z.ty Z.Wg w'):Z.MR U w w':=⟨λb a=>h.block b λe=>O.abj (e▸a),λb a=>h.block b λe=>hC (e▸a),λb a=>h.block b λe=>O.rdW (e▸a),λb a=>by unfold ft;rw[h.block _ λe=>O.Qs (e▸a)],λ_=>c,by rw[h.size];exact ao _,h.tape,h.os,h.output⟩
def Ph.Com.NJ(h:Z.Com Y X W w t j V S U q k){i}(a:i<j):¬(V i).own Z.Wg:=λb=>by have:=(h.iz.zm i _ a b).1;have:=h.iz.B.1;omega
def Ph.Com.ZG(h:Z.Com Y X W w t j V S U q k):¬U Z.Wg:=λa=>by have:=(h.iz.va _ a).1;have:=h.iz.B.1;omega
def ju{b}(f:Nat->b)(i):upd f i (f i)=f:=by funext a;by_cases e:a=i;subst e;rw[upd_same];rw[upd_ne _ _ e]
def zN{e}(h:Bk Z.Wg e):(∀x,(cM e).touch? =af x->x.kind=.atomic/\ShN Z.Wg x.loc)/\cM e≠.mark (.release (stA Z.Wg))/\∀B,Z.Wg<B->(cM e).low B:=by rcases h with c|c|⟨a,wr,rfl,d⟩;rw[ofEvent_loc_mark c];exact⟨λx b=>by(cases b),by simp,λ_ _=>trivial⟩;rw[ofEvent_loc_mark c];exact⟨λx b=>by(cases b),by simp,λ_ _=>trivial⟩;rw[ofEvent_cell];refine⟨λx b=> ?_,by simp,λB f=>by show a.block<B;rw[d];exact f⟩;simp only[pP,dS]at b;subst b;exact⟨rfl,a,rfl,d⟩
def Ph.Com.Tr(O:Z.Ok)(h:Z.Com Y X W w t j V S U q k){i}(z:i<j){d m}(M:S i=.tail d){g' es C v}(T:(V i).over)(hC:(V i).own C)(hP:PayAt C 1 w)(R:∀p,(V i).held p->Z.JP (λb=>(V i).own b/\b≠C) p w)(g:Go.Conc.Aside Z.Wg w w')(hl:WgLive Z.ty Z.Wg w')(l:∀e∈es,Bk Z.Wg e)(K:WSit Z.P Z.ty Z.Wg C 1 (λ_ _=>False) (λ_ _=>False) 0 1 v m.stage m.fuel m.deaf g' w')(s1:1<=m.stage)(s7:m.stage<=6)(Q:d.stage<=6)(hd:∀x e,es[x]? =af e->(cM e).touch? =ah\/0<deafBehind d.deaf (es.extract 0 x))(I:deafBehind d.deaf es=m.deaf)(L pos f)(hf:∀o,o.status=.running\/o.status=.finished->f o=o):Z.Com Y X ((W.map f).setIfInBounds (Z.lo+i) g') w' (t++b6 (Z.lo+i) L pos es) j V (upd S i (.tail m)) U q k:=by
 have n:∀op∈b6 (Z.lo+i) L pos es,op.g=Z.lo+i:=λop c=>by obtain⟨e,_,rfl⟩:=bk c;rfl
 have A:Z.Wg<w'.heap.size:=by have:=h.iz.B.1;have:=h.iz.sz;rw[g.size];omega
 have B:Deaf t (Z.lo+i)=d.deaf:=by rw[h.deaf i z,M];rfl
 have rel:=λ{N:Nat}(y:N<j)=>Nr O (h.NJ y) g hl
 obtain⟨P,p1,p2⟩:=hP;have e:=h.BO (w':=w') (k':=k) (g':=g') (TO:=V i) (Si:=.tail m) O z f hf n (λN y _=>rel y) ⟨C,v,T,hC,⟨P,((rel z).own C hC).trans p1,p2⟩,λp hp=>O.jp _ w w' p (λb hb=>(rel z).own b hb.1) (λa H=>(rel z).cell p a hp H) (R p hp),s1,by omega,K⟩ (by rw[Deaf_own,B,I];rfl) ?_ ?_ ?_ (λ_=> ?_) ?_ ?_ (by rw[g.size];exact ao _) ?_ ?_ ?_ ?_ ?_
 rw[ju]at e;exact e;rw[ju];refine ET.X9 (h.iz.apart O) (k:=Z.lo+i) h.et (Nat.le_add_right _ _) (by omega) λop c=>⟨n op c,λx D=> ?_⟩
 obtain⟨e,u,rfl⟩:=bk c;obtain⟨E,G⟩:=(zN (l e u)).1 x D;exact .inl ⟨G,by rw[E];simp,by rw[E];simp⟩;rw[ju,g.size];exact h.iz;intro op c;obtain⟨e,u,rfl⟩:=bk c;exact(zN (l e u)).2.1;obtain⟨r,hr⟩:=h.rel i z (by rw[M];exact Q);exact⟨r,hr.book B _ _ l hd⟩;intro op c x D _;obtain⟨e,u,rfl⟩:=bk c;exact((zN (l e u)).1 x D).2;intro op c x D;obtain⟨e,u,rfl⟩:=bk c;obtain⟨a,E,G⟩:=((zN (l e u)).1 x D).2;rw[E];exact(by rw[G];exact A:a.block<w'.heap.size);obtain⟨hk,F,s,r,tm,hc⟩:=h.chan;exact⟨hk,F,s,r,tm,(g.block Z.Ch O.hCW).trans hc⟩;rw[ju];exact h.done;rw[ju];exact h.todo;rw[ju];exact h.over;intro p hp J;refine O.j0 _ _ p (λa H=> ?_) (h.free p hp J);unfold da;rw[g.block _ λe=>O.Qs (e▸O.lK p a H)]
def Ph.Com.NC(O:Z.Ok)(h:Z.Com Y X W w t j V S U q k){i}(D:i<j){d d'}(hS:S i=.tail d){g' es C v}(hO:(V i).over)(hC:(V i).own C)(hP:PayAt C 1 w)(hJ:∀p,(V i).held p->Z.JP (λb=>(V i).own b/\b≠C) p w')(c:AsideCell C 1 0 w w')(N:WSit Z.P Z.ty Z.Wg C 1 (λ_ _=>False) (λ_ _=>False) 0 1 v d'.stage d'.fuel d'.deaf g' w')(s1:1<=d'.stage)(s7:d'.stage<=7)(J:deafBehind d.deaf es=d'.deaf)(G pos)(n:∀e∈es,(∀x,(cM e).touch? =af x->ShN Z.Wg x.loc/\x.kind≠.plain/\x.kind≠.said)/\cM e≠.mark (.release (stA Z.Wg)))(hr:d'.stage<=6->∃r,RelBy (stA Z.Wg) (t++b6 (Z.lo+i) G pos es) (Z.lo+i) r)(f)(hf:∀o,o.status=.running\/o.status=.finished->f o=o):Z.Com Y X ((W.map f).setIfInBounds (Z.lo+i) g') w' (t++b6 (Z.lo+i) G pos es) j V (upd S i (.tail d')) U q k/\Z.MR U w w':=by
 have u:∀op∈b6 (Z.lo+i) G pos es,op.g=Z.lo+i:=λop g=>by obtain⟨e,_,rfl⟩:=bk g;rfl
 have K:Deaf t (Z.lo+i)=d.deaf:=by rw[h.deaf i D,hS];rfl
 obtain⟨hW,H,T,m⟩:=h.iz.B;have R:=h.iz.zm i C D hC;have ne:∀b,b<Y->b≠C:=λb l e=>by omega
 have rel:∀{B:Nat},B<j->B≠i->Z.eT (V B) w w':=λ{B} z A=>by refine⟨λb l=>c.block b λe=>A (h.iz.Hs B i b z D l (e▸hC)),λb l=>c.block b (ne b (T b l)),λp a _ I=> ?_,λb l=> ?_,λ⟨Q,P,L⟩=>⟨Q,P,(c.block Z.Wg (ne _ hW)).trans L⟩,by rw[c.size];exact ao _,c.tape,c.os,c.output⟩;unfold da;rw[c.block _ (ne _ (m _ (O.lK p a I)))];unfold ft;rw[c.block _ (ne _ (m _ l))]
 refine⟨?_,⟨λb l=>c.block b (ne b (h.iz.st b l)),λb l=>c.block b λe=>h.iz.mine i C D hC (e▸l),λb l=>c.block b (ne b (T b l)),λb l=>by unfold ft;rw[c.block _ (ne _ (m _ l))],λ⟨Q,P,L⟩=>⟨Q,P,(c.block Z.Wg (ne _ hW)).trans L⟩,by rw[c.size];exact ao _,c.tape,c.os,c.output⟩⟩;have e:=h.BO (w':=w') (k':=k) (g':=g') (TO:=V i) (Si:=.tail d') O D f hf u (λB z A=>rel z A) ⟨C,v,hO,hC,c.pay hP,hJ,s1,s7,N⟩ (by rw[Deaf_own,K,J];rfl) ?_ ?_ ?_ hr ?_ ?_ (by rw[c.size];exact ao _) ?_ ?_ ?_ ?_ ?_
 rw[ju]at e;exact e;rw[ju];refine ET.X9 (h.iz.apart O) (k:=Z.lo+i) h.et (Nat.le_add_right _ _) (by omega) λop g=>⟨u op g,λx E=> ?_⟩
 obtain⟨e,y,rfl⟩:=bk g;exact .inl ((n e y).1 x E);rw[ju,c.size];exact h.iz;intro op g;obtain⟨e,y,rfl⟩:=bk g;exact(n e y).2;intro op g x E hk;obtain⟨e,y,rfl⟩:=bk g;exact((n e y).1 x E).1;intro op g x E;obtain⟨e,y,rfl⟩:=bk g;obtain⟨⟨a,h1,h2⟩,_⟩:=(n e y).1 x E;have hs:=h.iz.sz;rw[h1,c.size];exact(by rw[h2];omega:a.block<w.heap.size);obtain⟨hk,F,s,r,tm,hc⟩:=h.chan;exact⟨hk,F,s,r,tm,(c.block Z.Ch (ne _ H)).trans hc⟩;rw[ju];exact h.done;rw[ju];exact h.todo;rw[ju];exact h.over;intro p hp M;refine O.j0 _ _ p (λa I=> ?_) (h.free p hp M);unfold da;rw[c.block _ (ne _ (m _ (O.lK p a I)))]
end
def zG(n j:Nat):CTag->Prop|.sp r _=>j+(r+1)=n|_=>j=n
def iI(v:Nat):CTag->Nat|.sp r s=>20+16*r+s|.kd=>12|.anch=>7|.w1=>6|.w2 vs=>if v=vs then 5 else 10|.w3=>4|.blk=>4|.w4=>3|.ke=>2|.acq=>1|.ret=>0
section
variable [Payload] (Z:Ph) (Y:aw->ar->Prop) (X:(Nat->Prop)->aw->ar->Prop) (W:Nat) (V:Trace)
def Ph.qW(j:Nat)(t:Trace):Prop:=∃p,V.size<=p/\t.act? p=af (.mark (.acquire (stA Z.Wg)))/\t.g? p=af 0/\t.heard p/\∀i,i<j->∃r,RelBy (stA Z.Wg) t (Z.lo+i) r/\r<p/\V.size<=r
abbrev jd(S:Nat->wW):Nat->WD:=λi=>(S i).wd
def Ph.mu(S:Nat->wW)(q:Nat->Nat)(j:Nat)(tag:CTag)(a:Nat):Mu:=(S,(sumTo Z.lo q,(iI (Vc j (jd S)) tag,a)))
def Ph.Inv(m:Mu)(h:Machine)(t:Trace):Prop:=
 ∃(b:Array aw)(w:ar)(sl:Option (Nat×Nat))(j:Nat)(l:Nat->Gh)(S:Nat->wW)(g:Nat->Prop)(q:Nat->Nat)(k:Nat)(tag:CTag)(d c:Nat)(a:aw)(f e:Int),
  h=crowd b w sl/\b[0]? =af a/\Z.jO Y X tag d c g a w/\Deaf t 0=c/\Z.Com W V b w t j l S g q k/\WgAt Z.ty Z.Wg w f e/\fe j (jd S) tag f e/\zG Z.n j tag/\
  (tag=.ret->Z.qW V j t)/\(∀i,i<Z.n->_root_.Acc Z.G0 (S i))/\m=Z.mu S q j tag d
end
section
variable [Payload] {Z:Ph} {Y:aw->ar->Prop} {X:(Nat->Prop)->aw->ar->Prop} {W:Nat} {V:Trace} {U T:Array aw} {w R:ar} {sl:Option (Nat×Nat)} {t:Trace} {j:Nat} {Q P:Nat->Gh} {S:Nat->wW} {N:Nat->Prop} {q:Nat->Nat} {k O:Nat} {tag:CTag} {M K:Nat} {a:aw} {J I H G:Int}
def ug(S i s):jd (upd S i s)=upd (jd S) i s.wd:=by funext x;by_cases e:x=i;subst e;show(upd S x s x).wd=_;rw[upd_same,upd_same];show(upd S i s x).wd=_;rw[upd_ne _ _ e,upd_ne _ _ e]
def uV(b:∀i,i<Z.n->_root_.Acc Z.G0 (S i))(A:j<=Z.n)(u:Deaf t 0=K)(v:zG Z.n j tag){i}(C:i<j)(B:0<Z.lo){h a a' tag' f'}(f:Z.Com W V T R (t++a) j P (upd S i h) N q O)(s:T[0]? =af a')(l:Z.jO Y X tag' f' K N a' R)(c:tag'=tag\/(tag=.blk/\tag'=.w3))(n:∀op∈a,op.g=Z.lo+i)(o:runT Z.P (crowd U w sl) (Z.lo+i)=(.next (crowd T R sl),a))(y:WgAt Z.ty Z.Wg R H G)(g:fe j (jd (upd S i h)) tag' H G)(k:tag=.ret->Z.qW V j (t++a))(m:Z.G0 h (S i)):∃z d p,runT Z.P (crowd U w sl) (Z.lo+i)=(.next z,d)/\Z.O5 p (Z.mu S q j tag M)/\Z.Inv Y X W V p z (t++d):=by refine⟨_,_,Z.mu (upd S i h) q j tag' f',o,Prod.Lex.left _ _ ⟨i,by omega,by rw[upd_same];exact m,λx r=>upd_ne _ _ r⟩,T,R,sl,j,P,upd S i h,N,q,O,tag',f',K,a',H,G,rfl,s,l,?_,f,y,g,?_,?_,λx r=> ?_,rfl⟩;rw[Deaf_other t (g':=Z.lo+i) (by omega) _ n,u];rcases c with rfl|⟨rfl,rfl⟩<;>exact v;intro e;rcases c with rfl|⟨_,rfl⟩;exact k e;cases e;by_cases e:x=i;subst e;rw[upd_same];exact(b x r).inv m;rw[upd_ne _ _ e];exact b x r
def rE(s:∀N g w,X N g w->g.status=.running)(l:∀i,i<Z.n->_root_.Acc Z.G0 (S i))(z:j<=Z.n)(x:Deaf t 0=K)(E:zG Z.n j tag){i}(T:i<j)(A:0<Z.lo)(L:U[0]? =af a)(v:Z.jO Y X tag M K N a w){g k es}(Q:U[Z.lo+i]? =af g)(y:stepG Z.P aq g w=.go k R es){r}(u:Z.MR N w R)(d:∀f:aw->aw,(∀o,o.status=.running\/o.status=.finished->f o=o)->Z.Com W V ((U.map f).setIfInBounds (Z.lo+i) k) R (t++b6 (Z.lo+i) g.frame.fn g.frame.place es) j P (upd S i r) N q O)(F:WgAt Z.ty Z.Wg R H G)(h:∀tag',(tag'=tag\/(tag=.blk/\tag'=.w3))->(mayWake Z.P g=ak->k.status=.running->tag'≠.blk)->fe j (jd (upd S i r)) tag' H G)(m:tag=.ret->Z.qW V j (t++b6 (Z.lo+i) g.frame.fn g.frame.place es))(B:Z.G0 r (S i)):∃J c p,runT Z.P (crowd U w sl) (Z.lo+i)=(.next J,c)/\Z.O5 p (Z.mu S q j tag M)/\Z.Inv Y X W V p J (t++c):=by
 obtain⟨tag',f',n,b,I⟩:=v.wokenBy s u g k;have C:(Z.lo+i==0)=aq:=by simp;omega
 refine uV l z x E T A (d (woken Z.P g k R) λo ho=> ?_) ?_ n b (λop D=>by obtain⟨e,_,rfl⟩:=bk D;rfl) (runT_crowd_go Q (by rw[C];exact y)) F (h tag' b I) m B;unfold Go.Conc.woken;split;exact again_running _ ho;rfl;rw[get_map_set _ _ _ _ (by omega),L];rfl
def qW.app{u}(h:Z.qW V j t)(m:∀i r,i<j->RelBy (stA Z.Wg) t (Z.lo+i) r->RelBy (stA Z.Wg) (t++u) (Z.lo+i) r):Z.qW V j (t++u):=by obtain⟨p,e,c,f,g,k⟩:=h;have hp:=lt_of_act? c;exact⟨p,e,by rw[act?_old hp];exact c,by rw[g?_old hp];exact f,(heard_old hp).2 g,λi d=>let⟨r,l,b,a⟩:=k i d;⟨r,m i r d l,b,a⟩⟩
def ER(O:Z.Ok)(Yv:∀N g w,X N g w->g.status=.running)(ha:U[0]? =af a)(OL:Z.jO Y X tag M K N a w)(T1:Deaf t 0=K)(A:Z.Com W V U w t j Q S N q k)(u:WgAt Z.ty Z.Wg w J I)(z:fe j (jd S) tag J I)(RS:zG Z.n j tag)(OJ:tag=.ret->Z.qW V j t){i}(T:i<j){g}(hg:U[Z.lo+i]? =af g)(uU:g.status=.running){d}(hS:S i=.tail d):∃g' R es d' H G,stepG Z.P aq g w=.go g' R es/\Z.MR N w R/\WgAt Z.ty Z.Wg R H G/\(d'.stage<d.stage\/(d'.stage=d.stage/\d'.fuel<d.fuel))/\(∀tag',(tag'=tag\/(tag=.blk/\tag'=.w3))->(mayWake Z.P g=ak->g'.status=.running->tag'≠.blk)->fe j (upd (jd S) i d') tag' H G)/\(tag=.ret->Z.qW V j (t++b6 (Z.lo+i) g.frame.fn g.frame.place es))/\∀f:aw->aw,(∀o,o.status=.running\/o.status=.finished->f o=o)->Z.Com W V ((U.map f).setIfInBounds (Z.lo+i) g') R (t++b6 (Z.lo+i) g.frame.fn g.frame.place es) j Q (upd S i (.tail d')) N q k:=by
 obtain⟨Yt,Iq,K2⟩:=A.wk i T;obtain rfl:g=Yt:=by rw[hg]at Iq;exact aX Iq
 rw[hS]at K2;obtain⟨C,v,hO,hC,hP,hJ,s1,s7,hs⟩:=K2;have hdk:Deaf t (Z.lo+i)=d.deaf:=by rw[A.deaf i T,hS];rfl
 have hwd:jd S i=d:=by show(S i).wd=d;rw[hS];rfl
 have hCW:C≠Z.Wg:=λe=>A.NJ T (e▸hC)
 have hVj:Vc j (jd S)<=j:=Vc_le j (jd S);have hjn:=A.jn;have hn:=O.n31;obtain⟨ds,df,dd⟩:=d;simp only at hs s1 s7 hdk|-;have B:(jd S i).stage=ds:=by rw[hwd]
 have E:∀{g':aw}{R:ar}{es:Array Event}{s' m' UP:Nat}{H G:Int},stepG Z.P aq g w=.go g' R es->Go.Conc.Aside Z.Wg w R->WgAt Z.ty Z.Wg R H G->(∀e∈es,Bk Z.Wg e)->
  (∀jx e,es[jx]? =af e->(cM e).touch? =ah\/0<deafBehind dd (es.extract 0 jx))->WSit Z.P Z.ty Z.Wg C 1 (λ_ _=>False) (λ_ _=>False) 0 1 v s' m' UP g' R->deafBehind dd es=UP->1<=s'->s'<=6->ds<=6->
  (∀tag',(tag'=tag\/(tag=.blk/\tag'=.w3))->(mayWake Z.P g=ak->g'.status=.running->tag'≠.blk)->fe j (upd (jd S) i ⟨s',m',UP⟩) tag' H G)->(tag=.ret->Z.qW V j (t++b6 (Z.lo+i) g.frame.fn g.frame.place es))->(s'<ds\/(s'=ds/\m'<df))->_:=
  λ{g' R es s' m' UP H G} c hAs YZ RI hd hs' hdd T6 YT h6 YP aaF lW=>
   (⟨g',R,es,⟨s',m',UP⟩,H,G,c,aa3 O A.ZG hAs ⟨_,_,YZ⟩,YZ,lW,YP,aaF,λf hf=>A.Tr O T hS hO hC hP hJ hAs ⟨_,_,YZ⟩ RI hs' T6 YT h6 hd hdd _ _ f hf⟩:∃g' R es d' H G,stepG Z.P aq g w=.go g' R es/\Z.MR N w R/\WgAt Z.ty Z.Wg R H G/\(d'.stage<ds\/(d'.stage=ds/\d'.fuel<df))/\
   (∀tag',(tag'=tag\/(tag=.blk/\tag'=.w3))->(mayWake Z.P g=ak->g'.status=.running->tag'≠.blk)->fe j (upd (jd S) i d') tag' H G)/\
   (tag=.ret->Z.qW V j (t++b6 (Z.lo+i) g.frame.fn g.frame.place es))/\
   ∀f:aw->aw,(∀o,o.status=.running\/o.status=.finished->f o=o)->Z.Com W V ((U.map f).setIfInBounds (Z.lo+i) g') R (t++b6 (Z.lo+i) g.frame.fn g.frame.place es) j Q (upd S i (.tail d')) N q k)
 have same:∀m' UP tag',(tag'=tag\/(tag=.blk/\tag'=.w3))->fe j (upd (jd S) i ⟨ds,m',UP⟩) tag' J I:=λm' UP tag' ht=>nR (by have:=z.same (i:=i) m' UP;rwa[B]at this) ht
 have nr:ds≠1->tag≠.ret:=λh=>z.not_ret T (by rw[B];exact h)
 have idle:∀{g':aw}{m':Nat},stepG Z.P aq g w=.go g' w #[]->WSit Z.P Z.ty Z.Wg C 1 (λ_ _=>False) (λ_ _=>False) 0 1 v ds m' dd g' w->m'<df->ds<=6->ds≠1->_:=λ{g' m'} c hs' hm h6 h1=>E c (.refl Z.Wg w) u (by simp) (by simp) hs' rfl s1 h6 h6 (λtag' ht _=>same m' dd tag' ht) (λe=>absurd e (nr h1)) (.inr ⟨rfl,hm⟩)
 cases hs with
 |r0 h=>
  rcases Goes.cases h with n|⟨m',rfl,l⟩;obtain⟨_,acY,g',c,F,hk⟩:=n w (RW.refl w);have own:=λf hf=>A.NC (v:=v) O T hS (g':=g') (d':=⟨6,F,0⟩) (es:=#[gS (.releaseMerge (stA Z.Wg))]) hO hC hP hJ ⟨rfl,rfl,rfl,rfl,λ_ _=>rfl,id,λ_ _=>rfl⟩ (.k1 hk) (by simp) (by simp) rfl g.frame.fn g.frame.place (λe m=>by simp at m;subst m;exact⟨(λx hx=>by cases hx),by simp[Go.ConcR.ofEvent_mk]⟩) (λ_=>⟨t.size,RelBy.new hdk _ _⟩) f hf
  exact⟨g',w,_,⟨6,F,0⟩,J,I,c,.refl N w,u,.inl (by simp),λtag' ht _=>(z.counted T (by rw[B];decide) (.inl rfl) _ _).retag ht,λe=>absurd e (nr (by decide)),λf hf=>(own f hf).1⟩;obtain⟨g',R,es,c,⟨YD,Ip⟩,P⟩:=l w (RW.refl w);have YD:AsideCell C 1 0 w R:=YD;have hJ':∀p,(Q i).held p->Z.JP (λb=>(Q i).own b/\b≠C) p R:=λp hp=>by
   refine O.jp _ w R p (λb hb=>YD.block b hb.2) (λad U7=> ?_) (hJ p hp);have CU:ad.block≠C:=λe=>by have h1:=A.iz.B.2.2.2 _ (O.lK p ad U7);have h2:=(A.iz.zm i C T hC).1;omega
   unfold da;rw[YD.block _ CU]
  have own:=λf hf=>A.NC O T hS (g':=g') (d':=⟨7,m',0⟩) (es:=es) hO hC hP hJ' YD (.r0 P) (by simp) (by simp) (deafBehind_idle (λe m=>⟨(Ip e m).2.1,(Ip e m).2.2.1⟩) 0) g.frame.fn g.frame.place (λe m=>⟨λx hx=>(((Ip e m).1 0 "").2 x hx).elim id λh=>h.elim False.elim λh=>h.1.elim,?_⟩) (λx=>by simp at x) f hf
  exact⟨g',R,es,⟨7,m',0⟩,J,I,c,(own id (λ_ _=>rfl)).2,u.of_block (YD.block Z.Wg (Ne.symm hCW)),.inr ⟨rfl,by simp⟩,λtag' ht _=>same m' 0 tag' ht,λe=>absurd e (nr (by decide)),λf hf=>(own f hf).1⟩;intro x;exact(Ip e m).2.2.2 (Go.ConcR.loc_of_ofEvent x)
 |k1 h=>
  rcases Goes.cases h with n|⟨m',rfl,l⟩;obtain⟨_,g',c,F,hk⟩:=n w (RW.refl w);exact E c (.refl Z.Wg w) u (by intro e m;simp at m;subst m;exact .inl rfl) (by intro jx e m;exact .inl (by have:=qN m;simp at this;subst this;rfl)) (.d1 hk) rfl (by decide) (by decide) (by decide) (λtag' ht _=>(z.counted T (by rw[B];decide) (.inr rfl) _ _).retag ht) (λe=>absurd e (nr (by decide))) (.inl (by decide))
  obtain⟨g',R,es,c,⟨rfl,rfl⟩,P⟩:=l w (RW.refl w);exact idle c (.k1 P) (by omega) (by decide) (by decide)
 |d1 h=>
  rcases Goes.cases h with n|⟨m',rfl,l⟩;obtain⟨_,yP⟩:=n w (RW.refl w);have YG:cnt (jd S i)=1:=by simp[cnt,B]
  have hV1:1<=Vc j (jd S):=by have:=le_sumTo (f:=λx=>cnt (jd S x)) T;simp only[Vc];omega
  have bk2:∀e∈ #[rd (stA Z.Wg),wr (stA Z.Wg)],Bk Z.Wg e:=by intro e m;simp at m;rcases m with rfl|rfl<;>exact bk_cell _ _ rfl
  have df2:∀jx e,(#[rd (stA Z.Wg),wr (stA Z.Wg)]:Array Event)[jx]? =af e->(cM e).touch? =ah\/0<deafBehind 1 ((#[rd (stA Z.Wg),wr (stA Z.Wg)]:Array Event).extract 0 jx):=by
   intro jx e m
   match jx,m with|0,_=>exact .inr (by simp[deafBehind])|1,_=>exact .inr (by simp[deafBehind,rd])|jx+2,m=>simp at m
  have hq0:∀x,cnt (⟨1,x,1⟩:WD)=0:=λ_=>rfl
  have opq:∀x,OpenSt j (jd S)->OpenSt j (upd (jd S) i ⟨1,x,1⟩):=λx h y hy=>by by_cases e:y=i;subst e;rw[upd_same];simp;rw[upd_ne _ _ e];exact h y hy
  cases z with
  |opn h1 h2 h3=>
   obtain⟨vv,hv⟩:∃vv,Vc j (jd S)+pend tag=vv+1:=⟨Vc j (jd S)+pend tag-1,by omega⟩;have hvn:vv<2147483647:=by
    have hp:pend tag<=1:=by cases tag<;>simp only[pend]<;>(try split)<;>omega
    have:Vc j (jd S)+pend tag<=Z.n:=by
     cases tag with|sp r s=>have:j+(r+1)=Z.n:=RS;omega|_=>simp only[pend]at hp|-;omega
    omega
   rw[hv]at u;have Xi:WgAt Z.ty Z.Wg w (((vv:Nat)+1)*KK+((0:Nat):Int)) 0:=by simpa using u
   obtain⟨g',c,_,hq⟩:=yP vv 0 (by omega) hvn Xi;obtain⟨x,hq⟩:=hq (by omega);have hv':Vc j (upd (jd S) i ⟨1,x,1⟩)+pend tag=vv:=by have:=Vc_upd (jd S) (⟨1,x,1⟩:WD) T;have:=hq0 x;omega
   refine E c (aside_setCell w (stA Z.Wg) _) (u.setSt _) bk2 df2 (.quit hq) rfl (by decide) (by decide) (by decide) (λtag' ht _=>nR ?_ ht) (λe=>absurd e (nr (by decide))) (.inl (by decide));have e:((vv:Nat):Int)*KK+((0:Nat):Int)=((Vc j (upd (jd S) i ⟨1,x,1⟩)+pend tag:Nat):Int)*KK:=by rw[hv'];simp
   rw[e];exact .opn h1 (opq x h2) (λvs ev=>by have:=h3 vs ev;omega)
  |reg h1 h2 h3=>
   obtain⟨vv,hv⟩:∃vv,Vc j (jd S)=vv+1:=⟨Vc j (jd S)-1,by omega⟩;rw[hv]at u;have Xi:WgAt Z.ty Z.Wg w (((vv:Nat)+1)*KK+((1:Nat):Int)) 0:=by simpa using u
   obtain⟨g',c,hl,hq⟩:=yP vv 1 (by omega) (by omega) Xi;by_cases hv0:vv=0;subst hv0;obtain⟨F,hk⟩:=hl ⟨rfl,rfl⟩;refine E c (aside_setCell w (stA Z.Wg) _) (u.setSt _) bk2 df2 (.d2 hk) rfl (by decide) (by decide) (by decide) (λtag' ht _=>nR ?_ ht) (λe=>absurd e (nr (by decide))) (.inl (by decide));have K1:∀y,y<j->y≠i->(jd S y).stage=1:=λy hy e=>by have c0:=others_uncounted T hv YG y hy e;have:=h2 y hy;simp only[cnt]at c0;split at c0<;>omega
   have:=Go.ConcN.Mode.last (j:=j) (D:=upd (jd S) i ⟨4,F,1⟩) (tag:=tag) i h1 T (by rw[upd_same];simp) (λy hy e=>by rw[upd_ne _ _ e];exact K1 y hy e);rw[upd_same]at this;simpa using this;obtain⟨x,hq⟩:=hq (by omega);have hv':Vc j (upd (jd S) i ⟨1,x,1⟩)=vv:=by have:=Vc_upd (jd S) (⟨1,x,1⟩:WD) T;have:=hq0 x;omega
   refine E c (aside_setCell w (stA Z.Wg) _) (u.setSt _) bk2 df2 (.quit hq) rfl (by decide) (by decide) (by decide) (λtag' ht _=>nR ?_ ht) (λe=>absurd e (nr (by decide))) (.inl (by decide));have e:((vv:Nat):Int)*KK+((1:Nat):Int)=((Vc j (upd (jd S) i ⟨1,x,1⟩):Nat):Int)*KK+1:=by rw[hv'];simp
   rw[e];exact .reg h1 (opq x h2) (by omega)
  |last L _ h2 h3 h4=>by_cases e:i=L;subst e;rw[B]at h3;omega;have:=h4 i T e;rw[B]at this;omega|sema h2=>have:=h2 i T;rw[B]at this;omega|fin _ h2=>have:=h2 i T;rw[B]at this;omega
  obtain⟨g',R,es,c,⟨rfl,rfl⟩,P⟩:=l w (RW.refl w);exact idle c (.d1 P) (by omega) (by decide) (by decide)
 |d2 h=>rcases Goes.cases h with n|⟨m',rfl,l⟩;obtain⟨_,hx⟩:=n w (RW.refl w);obtain⟨YC,K1,rfl,rfl⟩:=z.isLast T (by rw[B];decide);simp only[B]at u;obtain⟨g',c,F,hk⟩:=hx (by simpa using u);refine E c (.refl Z.Wg w) u (by intro e m;simp at m;subst m;exact bk_cell _ _ rfl) (by intro jx e m;match jx,m with|0,_=>exact .inr (by simp[deafBehind])|jx+1,m=>simp at m) (.d3 hk) rfl (by decide) (by decide) (by decide) (λtag' ht _=>nR ?_ ht) (λe=>absurd e (nr (by decide))) (.inl (by decide));have:=Go.ConcN.Mode.last (j:=j) (D:=upd (jd S) i ⟨3,F,1⟩) (tag:=tag) i YC T (by rw[upd_same];simp) (λy hy e=>by rw[upd_ne _ _ e];exact K1 y hy e);rw[upd_same]at this;simpa using this;obtain⟨g',R,es,c,⟨rfl,rfl⟩,P⟩:=l w (RW.refl w);exact idle c (.d2 P) (by omega) (by decide) (by decide)
 |d3 h=>rcases Goes.cases h with n|⟨m',rfl,l⟩;obtain⟨_,hx⟩:=n w (RW.refl w);obtain⟨YC,K1,rfl,rfl⟩:=z.isLast T (by rw[B];decide);simp only[B]at u;obtain⟨g',c,F,hk⟩:=hx (by simpa using u);refine E c (aside_setCell w (stA Z.Wg) _) (u.setSt 0) (by intro e m;simp at m;subst m;exact bk_cell _ _ rfl) (by intro jx e m;match jx,m with|0,_=>exact .inr (by simp[deafBehind])|jx+1,m=>simp at m) (.d4 hk) rfl (by decide) (by decide) (by decide) (λtag' ht _=>nR ?_ ht) (λe=>absurd e (nr (by decide))) (.inl (by decide));have:=Go.ConcN.Mode.last (j:=j) (D:=upd (jd S) i ⟨2,F,1⟩) (tag:=tag) i YC T (by rw[upd_same];simp) (λy hy e=>by rw[upd_ne _ _ e];exact K1 y hy e);rw[upd_same]at this;simpa using this;obtain⟨g',R,es,c,⟨rfl,rfl⟩,P⟩:=l w (RW.refl w);exact idle c (.d3 P) (by omega) (by decide) (by decide)
 |d4 h=>
  rcases Goes.cases h with n|⟨m',rfl,l⟩;obtain⟨_,hmw,hx⟩:=n w (RW.refl w);obtain⟨YC,K1,rfl,rfl⟩:=z.isLast T (by rw[B];decide);simp only[B]at u;obtain⟨g',c,x,hq⟩:=hx (by simpa using u);have Ea:g'.status=.running:=by
   cases x with|zero=>exact absurd hq.2 (by decide)|succ x=>exact hq.elim (λx=>absurd x.2 (by decide)) (λx=>x.1)
  refine E c (aside_setCell w (smA Z.Wg) _) (u.setSm 1) (es:=semEvents (smA Z.Wg)) ?_ ?_ (.quit hq) (by simp[deafBehind,semEvents]) (by decide) (by decide) (by decide) ?_ (λe=>absurd e (nr (by decide))) (.inl (by decide));intro e m;simp[semEvents]at m;rcases m with rfl|rfl|rfl|rfl;exact .inl rfl;exact bk_cell _ _ rfl;exact bk_cell _ _ rfl;exact .inr (.inl rfl);intro jx e m
  match jx,m with|0,m=>simp[semEvents]at m;subst m;exact .inl rfl|1,_=>exact .inr (by simp[deafBehind,semEvents])|2,_=>exact .inr (by simp[deafBehind,semEvents])|3,m=>simp[semEvents]at m;subst m;exact .inl rfl|jx+4,m=>simp[semEvents]at m
  intro tag' ht hw;have hnb:=hw hmw Ea;have e3:tag'=.w3:=by
   rcases ht with rfl|⟨_,rfl⟩;cases tag'<;>first|rfl|exact YC.elim|exact absurd rfl hnb
   rfl
  subst e3;simp only[if_true];exact .sema λy hy=>by by_cases e:y=i;subst e;rw[upd_same];rw[upd_ne _ _ e];exact K1 y hy e
  obtain⟨g',R,es,c,⟨rfl,rfl⟩,P⟩:=l w (RW.refl w);exact idle c (.d4 P) (by omega) (by decide) (by decide)
 |quit h=>
  cases df with
  |zero=>rw[h.1]at uU;cases uU|succ x=>
   rcases h with⟨hf,_⟩|⟨_,g',es,Xa,l,hq⟩;rw[hf]at uU;cases uU;have RI:∀e∈es,Bk Z.Wg e:=λe m=>bk_of_mute (Xa e m)
   have hno:∀jx e,es[jx]? =af e->(cM e).touch? =ah\/0<deafBehind dd (es.extract 0 jx):=λjx e m=>.inl (touch_mute (Xa e (qN m)))
   refine E (l w) (.refl Z.Wg w) u RI hno (.quit hq) rfl (by decide) (by decide) (by decide) (λtag' ht _=>same x (deafBehind dd es) tag' ht) (λe=>qW.app (OJ e) λi' r hi' hr=> ?_) (.inr ⟨rfl,by omega⟩);by_cases e':i'=i;subst e';exact hr.book hdk _ _ RI hno;exact hr.appNot λop hop=>by obtain⟨e,_,rfl⟩:=bk hop;simp;omega
end
end Rel
namespace Rel
open Go.Conc Go.ConcN
open Go.ConcR (KK WgAt rd wr Payload DC0 stA smA Bk)
section
variable [Payload] {Z:Ph} {Y:aw->ar->Prop} {X:(Nat->Prop)->aw->ar->Prop} {W:Nat} {V:Trace} {U T:Array aw} {w R:ar} {sl:Option (Nat×Nat)} {t:Trace} {j:Nat} {Q P:Nat->Gh} {S:Nat->wW} {N:Nat->Prop} {q:Nat->Nat} {k O:Nat} {M:CTag} {L K:Nat} {a:aw} {J I H G:Int}
def NG{b}(f i)(x y:b):upd (upd f i x) i y=upd f i y:=by funext a;by_cases e:a=i;subst e;rw[upd_same,upd_same];rw[upd_ne _ _ e,upd_ne _ _ e,upd_ne _ _ e]
def Ph.jO.offers{a}(b:∀N g w,X N g w->g.status=.running)(h:Z.jO Y X M L K N a w):a.status≠.blocked\/a.offers=ah:=by
 rcases h.status b with⟨c,_⟩|⟨c,rfl⟩;left;rw[c];simp;cases h with|blk d=>exact .inr (d w (.refl N w)).2.1
def JM(O:Z.Ok)(Yv:∀N g w,X N g w->g.status=.running)(ha:U[0]? =af a)(B:Z.jO Y X M L K N a w)(T1:Deaf t 0=K)(c:Z.Com W V U w t j Q S N q k)(Xj:WgAt Z.ty Z.Wg w J I)(o:fe j (jd S) M J I)(RS:zG Z.n j M)(OJ:M=.ret->Z.qW V j t)(A:∀i,i<Z.n->_root_.Acc Z.G0 (S i)){i}(hi:i<j){g}(hg:U[Z.lo+i]? =af g)(uU:g.status=.running):∃m' IY μ',runT Z.P (crowd U w sl) (Z.lo+i)=(.next m',IY)/\Z.O5 μ' (Z.mu S q j M L)/\Z.Inv Y X W V μ' m' (t++IY):=by
 obtain⟨Yt,Iq,K2⟩:=c.wk i hi;obtain rfl:g=Yt:=by rw[hg]at Iq;exact aX Iq
 have wY:=O.wY;cases hS:S i with
 |kG=>rw[hS]at K2;exact K2.elim|tail d=>obtain⟨g',R,es,d',H,G,hgo,hMR,E,p,u,T,l⟩:=ER O Yv ha B T1 c Xj o RS OJ hi hg uU hS;exact rE Yv A c.jn T1 RS hi wY ha B hg hgo hMR l E (λtag' h1 h2=>by rw[ug];exact u tag' h1 h2) T (by rw[hS];exact p)|tree x=>
  obtain⟨γx,gx,w0⟩:=x;rw[hS]at K2;obtain⟨h1,h2,TY,hrel⟩:=K2;simp only at h1 h2 TY hrel;subst h1;subst h2;have hwd:jd S i=⟨7,0,0⟩:=by show(S i).wd=_;rw[hS];rfl
  have nr:M≠.ret:=o.not_ret hi (by rw[hwd];decide);have keep:∀y,jd (upd S i (.tree y))=jd S:=λy=>by rw[ug];show upd (jd S) i ⟨7,0,0⟩=_;rw[<-hwd,ju]
  by_cases hT:Z.N5 (Q i) gx w0;obtain⟨C,v,m,hO,hC,hJ,hP,hG⟩:=hT.rely O hrel;have aaJ:Z.Com W V U w t j Q (upd S i (.tail ⟨7,m,0⟩)) N q k:=by refine⟨c.size,c.jn,c.old,λF D=> ?_,λF D=> ?_,λF D=> ?_,c.et,c.iz,c.norel,λF D hs=> ?_,c.pre,c.X',c.mute,c.seen,c.chan,c.done,c.todo,c.over,c.free⟩;by_cases e:F=i;subst e;exact⟨gx,hg,by rw[upd_same];exact⟨C,v,hO,hC,hP,hJ,by simp,by simp,.r0 hG⟩⟩;rw[upd_ne _ _ e];exact c.wk F D;rw[upd_ne _ _ (by omega)];exact c.un F D;by_cases e:F=i;subst e;rw[upd_same,c.deaf F D,hS];rfl;rw[upd_ne _ _ e];exact c.deaf F D;by_cases e:F=i;subst e;rw[upd_same]at hs;simp[wW.wd]at hs;rw[upd_ne _ _ e]at hs;exact c.rel F D hs
  have YQ:fe j (jd (upd S i (.tail ⟨7,m,0⟩))) M J I:=by
   refine o.congr λy hy=> ?_
   rw[ug];by_cases e:y=i;subst e;rw[upd_same,hwd];rfl;rw[upd_ne _ _ e]
  obtain⟨g',R,es,d',H,G,hgo,hMR,E,p,u,T,l⟩:=ER O Yv ha B T1 aaJ Xj YQ RS OJ hi hg uU (upd_same _ _ _);rw[ug,NG]at u;exact rE Yv A c.jn T1 RS hi wY ha B hg hgo hMR (λf hf=>by have:=l f hf;rwa[NG]at this) E (λtag' h1 h2=>by rw[ug];exact u tag' h1 h2) T (by rw[hS];trivial);cases TY with
  |tail h=>exact absurd h hT|step g' R es hr OP YV=>
   obtain⟨hgo,hgu⟩:=OP w hrel;have abT:=YV w hrel;have E:WgAt Z.ty Z.Wg (R w) J I:=by have hs:=c.iz.sz;have hW:=c.iz.B.1;exact(hgu.rest Z.Wg (by omega) (c.NJ hi) O.Qs).trans Xj
   exact rE Yv A c.jn T1 RS hi wY ha B hg hgo (hgu.mr O c.iz hi) (λf hf=>c.Ty O hi hS hgu abT _ _ f hf) E (λtag' h1 _=>by rw[keep];exact o.retag h1) (λe=>absurd e nr) (by rw[hS];exact⟨hT,w,hrel,.inl ⟨_,hgo,rfl⟩⟩)
  |recv hr OP YM KZ=>
   have hcm:=OP w hrel;obtain⟨hk,cap,s,r,tm,hch⟩:=c.chan;have CU:(Z.lo+i==0)=aq:=by simp;omega
   have noP:∀b,partners (U.setIfInBounds (Z.lo+i) Go.Conc.ph) Z.Ch b=[]:=λb=>IM (λy gy hy hgy=>by
    rcases fP y with rfl|ace;rw[ha]at hgy;cases hgy;exact B.offers Yv;rcases du y Z.lo with p|hge;left;rcases(c.old y gy ace p hgy).status with h|h<;>rw[h]<;>simp;obtain⟨F,rfl⟩:∃F,y=Z.lo+F:=⟨y-Z.lo,by omega⟩;have p:F<j:=by have:=(aC.1 hgy).1;rw[c.size]at this;omega
    obtain⟨g2,RJ,YS⟩:=c.wk F p;rw[hgy]at RJ;cases RJ;left;rcases YS.status with h|h<;>rw[h]<;>simp) b
   have Hw:∀fn pos,b6 (Z.lo+i) fn pos #[]=#[]:=λfn pos=>by rw[ofEvents_eq];simp
   rcases du k Z.nj with p|hge;obtain⟨n,hn⟩:∃n,Z.nj-k=n+1:=⟨Z.nj-k-1,by omega⟩;have z:=crowd_recv_buf (P:=Z.P) (sl:=sl) hg (by rw[CU];exact hcm) hch (by simp;omega) (noP ak);have e1:((fL k (Z.nj-k)).map Z.jv).toArray.getD 0 undef=Z.jv k:=by rw[hn];simp[List.range'_succ]
   have e2:((fL k (Z.nj-k)).map Z.jv).toArray.extract 1 ((fL k (Z.nj-k)).map Z.jv).toArray.size=((fL (k+1) (Z.nj-(k+1))).map Z.jv).toArray:=by rw[hn,show Z.nj-(k+1)=n by omega];simp[List.range'_succ];exact cA (by simp)
   rw[e1,e2,Hw,jF,finishComm_recv]at z;have hnh:¬(Q i).held k:=c.todo k i (ao _) hi;have l:=c.VY O hi (g:=gx) hS p hch (YM w k hrel p hnh (c.free k (ao _) p)) gx.frame.fn gx.frame.place;refine uV A c.jn T1 RS hi wY l (a':=a) (tag':=M) (f':=L) (by rw[aH (by omega)];exact ha) (B.rely (VA O c.Yg _ _ _ _ _ _)) (.inl rfl) (λop hop=>by simp only[nU,b8,fO,or_false]at hop;rcases hop with rfl|rfl<;>rfl) z ?_ (by rw[keep];exact o) (λe=>absurd e nr) (by rw[hS];exact⟨hT,w,hrel,.inr ⟨_,_,_,_,hcm,rfl,.inl ⟨k,p,hnh,c.free k (ao _) p,rfl,rfl⟩⟩⟩)
   exact Xj.of_block (by show(w.heap.setIfInBounds Z.Ch _)[Z.Wg]? =_;rw[aH O.hCW]);have YO:k=Z.nj:=by omega
   rw[show Z.nj-k=0 by omega]at hch;have z:=crowd_recv_closed (P:=Z.P) (sl:=sl) hg (by rw[CU];exact hcm) hch (noP ak);rw[Hw,jF,finishComm_recv]at z;have l:=c.SZ O hi (g:=gx) hS YO (KZ w hrel) gx.frame.fn gx.frame.place;exact uV A c.jn T1 RS hi wY l (a':=a) (tag':=M) (f':=L) (by rw[aH (by omega)];exact ha) B (.inl rfl) (λop hop=>by simp only[nU,b8,fO,or_false]at hop;rcases hop with rfl;rfl) z Xj (by rw[keep];exact o) (λe=>absurd e nr) (by rw[hS];exact⟨hT,w,hrel,.inr ⟨_,_,_,_,hcm,rfl,.inr ⟨rfl,rfl⟩⟩⟩)
end
section
variable [Payload] {Z:Ph} {Y:aw->ar->Prop} {X:(Nat->Prop)->aw->ar->Prop} {W:Nat} {V:Trace} {U T:Array aw} {w R:ar} {sl:Option (Nat×Nat)} {t:Trace} {j:Nat} {Q P:Nat->Gh} {S:Nat->wW} {N M:Nat->Prop} {q:Nat->Nat} {k O:Nat} {L tag':CTag} {K f' J:Nat} {a a':aw} {I H G F:Int} {es:Array Event}
def Ph.Com.main(O:Z.Ok)(h:Z.Com W V U w t j Q S N q k){l}(f)(X:∀o,o.status=.running\/o.status=.finished->f o=o)(d:∀op∈l,op.g=0)(hrel:∀i,i<j->Z.eT (Q i) w R)(G:ET (Z.rT Q j M) Z.lo (Z.lo+j) (t++l))(B:Z.Qo W Q j M R.heap.size)(K:∀op∈l,op.act≠.mark (.release (stA Z.Wg)))(v:∀op∈l,∀x,op.act.touch? =af x->x.loc.low R.heap.size)(T:w.heap.size<=R.heap.size)(F:R.heap[Z.Ch]? =w.heap[Z.Ch]?)(H:∀p a,Z.jl p a->R.heap[a.block]? =w.heap[a.block]?):Z.Com W V ((U.map f).setIfInBounds 0 a') R (t++l) j Q S M q k:=by have wY:=O.wY;refine⟨by simp[h.size],h.jn,λn x h0 hl m=> ?_,λn g=> ?_,h.un,λn g=> ?_,G,B,λp hp z=> ?_,λn g P=> ?_,?_,λp op x hp b A m I=> ?_,λp op hp b A J=> ?_,λop b x m=> ?_,?_,h.done,h.todo,h.over,λp hp L=>O.j0 _ _ p (λa D=>by unfold da;rw[H p a D]) (h.free p hp L)⟩;rw[get_map_set _ _ _ _ (by omega)]at m;obtain⟨y,hy,rfl⟩:=aG.1 m;have Y:=h.old n y h0 hl hy;rw[X y Y.status,Deaf_other t (g':=0) (by omega) _ d];exact Y;obtain⟨x,m,C⟩:=h.wk n g;exact⟨x,by rw[get_map_set _ _ _ _ (by omega),m,fD,X x C.status],C.rely O (hrel n g)⟩;rw[Deaf_other t (g':=0) (by omega) _ d];exact h.deaf n g;obtain⟨op,b,D⟩:=aG.1 z;rcases getElem?_append_cases b with⟨_,c⟩|⟨_,e⟩;exact h.norel p hp (by rw[act?_of c,D]);exact K op e D;obtain⟨r,hr⟩:=h.rel n g P;exact⟨r,hr.appNot λop b=>by rw[d op b];omega⟩;obtain⟨u,rfl⟩:=h.pre;exact⟨u++l,by rw[Array.append_assoc]⟩;rcases getElem?_append_cases b with⟨_,c⟩|⟨_,e⟩;exact h.X' p op x hp c A m I;exact absurd (d op e) A;rcases getElem?_append_cases b with⟨_,c⟩|⟨_,e⟩;exact h.mute p op hp c A J;exact absurd (d op e) A;rcases nl.1 b with y|y;exact Loc.low_mono T (h.seen op y x m);exact v op y x m;obtain⟨I,E,s,r,tm,hc⟩:=h.chan;exact⟨I,E,s,r,tm,F.trans hc⟩
def qj(e:∀i,i<Z.n->_root_.Acc Z.G0 (S i))(n:Deaf t 0=J)(s:zG Z.n j tag')(z:U[0]? =af a)(p:stepG Z.P ak a w=.go a' R es)(A:0<Z.lo)(l:Z.Com W V U w t j Q S N q k)(c:∀f:aw->aw,(∀o,o.status=.running\/o.status=.finished->f o=o)->Z.Com W V ((U.map f).setIfInBounds 0 a') R (t++b6 0 a.frame.fn a.frame.place es) j Q S M q k)(m:Z.jO Y X tag' f' (deafBehind J es) M a' R)(u:WgAt Z.ty Z.Wg R G F)(d:fe j (jd S) tag' G F)(g:tag'=.ret->Z.qW V j (t++b6 0 a.frame.fn a.frame.place es))(r:iI (Vc j (jd S)) tag'<iI (Vc j (jd S)) L\/(iI (Vc j (jd S)) tag'=iI (Vc j (jd S)) L/\f'<K)):∃v b M,runT Z.P (crowd U w sl) 0=(.next v,b)/\Z.O5 M (Z.mu S q j L K)/\Z.Inv Y X W V M v (t++b):=by refine⟨_,_,Z.mu S q j tag' f',runT_crowd_go (P:=Z.P) (sl:=sl) (i:=0) z (by simpa using p),?_,_,R,sl,j,Q,S,M,q,k,tag',f',deafBehind J es,a',G,F,rfl,get_map_set_same _ _ _ (by rw[l.size];omega),m,by rw[Deaf_own,n],c _ λo B=> ?_,u,d,s,g,e,rfl⟩;refine Prod.Lex.right _ (Prod.Lex.right _ ?_);rcases r with h|⟨x,y⟩;exact Prod.Lex.left _ _ h;rw[x];exact Prod.Lex.right _ y;unfold Go.Conc.woken;split;exact again_running _ B;rfl
def mK{e}(h:Z.EvM N e):(e.loc≠.mark .disable/\e.loc≠.mark .enable)/\cM e≠.mark (.release (stA Z.Wg))/\∀x,(cM e).touch? =af x->(ShN Z.Wg x.loc/\x.kind≠.plain)\/(∃b,s0 x.loc=af b/\N b)\/(x.write=aq/\∃b,s0 x.loc=af b/\Z.mX b):=by rcases h with rfl|⟨a,f,rfl|rfl⟩|⟨k,b,d,h⟩;exact⟨⟨by simp,by simp⟩,by simp[cM],λx c=>by cases c⟩;refine⟨⟨by simp,by simp⟩,by simp[cM],λx c=>.inl ?_⟩;simp only[cM,pP,dS]at c;subst c;exact⟨⟨a,rfl,f⟩,by simp⟩;refine⟨⟨by simp,by simp⟩,by simp[cM],λx c=>.inl ?_⟩;simp only[cM,pP,dS]at c;subst c;exact⟨⟨a,rfl,f⟩,by simp⟩;obtain⟨g,i⟩:=ta d k;refine⟨⟨λx=>(by rw[x]at d;cases d),λx=>by rw[x]at d;cases d⟩,by rw[g];simp,λx c=> ?_⟩;rw[i]at c;cases c;rcases h with h|⟨l,j⟩;exact .inr (.inl ⟨b,d,h⟩);exact .inr (.inr ⟨l,b,d,j⟩)
def VZ(O:Z.Ok)(e:Z.Qo W Q j N w.heap.size)(h:Ph.Al w R){i}(k:i<j):Z.eT (Q i) w R:=by obtain⟨m,hC,g,a⟩:=e.B;have n:=e.sz;refine⟨λb c=>h.rest b (e.zm i b k c).2,λb c=>h.rest b (by have:=g b c;omega),λp f _ d=> ?_,λb c=> ?_,λ⟨I,H,l⟩=>⟨I,H,(h.rest Z.Wg (by omega)).trans l⟩,h.size,h.tape,h.os,h.output⟩;unfold da;rw[h.rest _ (by have:=a _ (O.lK p f d);omega)];unfold ft;rw[h.rest _ (by have:=a b c;omega)]
omit [Payload]in
def MI(w:ar):Ph.Al w w:=⟨λ_ _=>rfl,ao _,rfl,rfl,rfl⟩
def Ph.Com.FD(O:Z.Ok)(h:Z.Com W V U w t j Q S N q k)(n:Ph.Al w R)(u:∀e∈es,Z.EvM (rV N w R) e)(D pos f)(K:∀o,o.status=.running\/o.status=.finished->f o=o):Z.Com W V ((U.map f).setIfInBounds 0 a') R (t++b6 0 D pos es) j Q S (rV N w R) q k:=by
 obtain⟨M,hC,I,A⟩:=h.iz.B;have P:=h.iz.sz;have L:=n.size;have g:Z.Qo W Q j (rV N w R) R.heap.size:=by refine⟨h.iz.Hs,λi b y c hm=> ?_,λi b y c=> ?_,λb c=> ?_,h.iz.Ag,h.iz.lW,by omega,h.iz.B,h.iz.st⟩;rcases hm with hm|⟨s,_⟩;exact h.iz.mine i b y c hm;have:=(h.iz.zm i b y c).2;omega;have:=h.iz.zm i b y c;omega;rcases c with c|⟨s,E⟩;have:=h.iz.va b c;omega;omega
 have r:∀op∈b6 0 D pos es,op.g=0:=λop d=>by obtain⟨e,_,rfl⟩:=bk d;rfl
 refine h.main O f K r (λi y=>VZ O h.iz n y) ?_ g (λop d=> ?_) (λop d x C=> ?_) L (n.rest Z.Ch (by omega)) (λp a J=>n.rest _ (by have:=A _ (O.lK p a J);omega));refine ET.aaw (g.apart O) O.wY (Nat.le_add_right _ _) (h.et.rT rfl (λT _ _ l v=>.inl v) (λl v=>v) (λl v=>v) λl v=> ?_) λop d=>⟨r op d,λx C=> ?_⟩
 obtain⟨b,c,hm|⟨s,_⟩⟩:=v;exact .inl ⟨b,c,hm⟩;exact .inr (uK h.seen c s);obtain⟨e,z,rfl⟩:=bk d;rcases(mK (u e z)).2.2 x C with s|⟨b,c,hm⟩|⟨F,b,c,B⟩;exact .inl s;exact .inr (.inl ⟨b,c,hm⟩);exact .inr (.inr ⟨⟨b,c,B⟩,F⟩);obtain⟨e,z,rfl⟩:=bk d;exact(mK (u e z)).2.1;obtain⟨e,z,rfl⟩:=bk d;rcases(mK (u e z)).2.2 x C with⟨⟨G,s,E⟩,_⟩|⟨b,c,hm⟩|⟨F,b,c,B⟩;rw[s];exact(by rw[E];omega:G.block<R.heap.size);refine Av λH m=> ?_
 rw[c]at m;cases m;exact(g.va b hm).2;refine Av λH m=> ?_
 rw[c]at m;cases m;have:=I b B;omega
omit [Payload]in
def rD(N:Nat->Prop)(w:ar):rV N w w=N:=by funext b;apply propext;exact⟨λh=>h.elim id λ⟨c,a⟩=>absurd a (by omega),.inl⟩
def pd(O:Z.Ok)(g:∀i,i<Z.n->_root_.Acc Z.G0 (S i))(n:Deaf t 0=J)(v:zG Z.n j L)(A:U[0]? =af a)(b:Z.Com W V U w t j Q S N q k)(x:WgAt Z.ty Z.Wg w I H)(d:fe j (jd S) L I H)(h:L=.ret->Z.qW V j t)(p:stepG Z.P ak a w=.go a' R es)(z:Z.DM N w R es)(l:Z.jO Y X L f' J N a' R)(s:f'<K):∃y c M,runT Z.P (crowd U w sl) 0=(.next y,c)/\Z.O5 M (Z.mu S q j L K)/\Z.Inv Y X W V M y (t++c):=by obtain⟨rfl,m⟩:=z;have o:deafBehind J es=J:=deafBehind_idle (λe B=>(mK (m e B)).1) J;refine qj g n v A p O.wY b (λf C=> ?_) (by rw[o];exact l) x d (λe=>qW.app (h e) λi r _ D=>D.appNot λop u=>by obtain⟨e,_,rfl⟩:=bk u;have:=O.wY;simp;omega) (.inr ⟨rfl,s⟩);have:=b.FD (a':=a') O (MI R) (es:=es) (by rw[rD];exact m) a.frame.fn a.frame.place f C;rwa[rD]at this
def qa(O:Z.Ok)(r:∀i,i<Z.n->_root_.Acc Z.G0 (S i))(A:Deaf t 0=J)(E:zG Z.n j tag')(z:U[0]? =af a)(b:Z.Com W V U w t j Q S N q k)(B:stepG Z.P ak a w=.go a' R es)(d:Go.Conc.Aside Z.Wg w R)(l:WgAt Z.ty Z.Wg R G F)(n:∀e∈es,Bk Z.Wg e)(s:Z.jO Y X tag' f' (deafBehind J es) N a' R)(g:fe j (jd S) tag' G F)(D:tag'≠.ret)(C:iI (Vc j (jd S)) tag'<iI (Vc j (jd S)) L\/(iI (Vc j (jd S)) tag'=iI (Vc j (jd S)) L/\f'<K)):∃I m M,runT Z.P (crowd U w sl) 0=(.next I,m)/\Z.O5 M (Z.mu S q j L K)/\Z.Inv Y X W V M I (t++m):=by
 have h:∀op∈b6 0 a.frame.fn a.frame.place es,op.g=0:=λop c=>by obtain⟨e,_,rfl⟩:=bk c;rfl
 have o:Z.Wg<R.heap.size:=by have:=b.iz.B.1;have:=b.iz.sz;rw[d.size];omega
 refine qj r A E z B O.wY b (λf T=>b.main O f T h (λi hi=>Nr O (b.NJ hi) d ⟨_,_,l⟩) ?_ (by rw[d.size];exact b.iz) (λop c=> ?_) (λop c x H=> ?_) (by rw[d.size];exact ao _) (d.block Z.Ch O.hCW) λp a z=>d.block _ λe=>O.Qs (e▸O.lK p a z)) s l g (λe=>absurd e D) C;refine ET.aaw (b.iz.apart O) O.wY (Nat.le_add_right _ _) b.et λop c=>⟨h op c,λx H=> ?_⟩
 obtain⟨e,u,rfl⟩:=bk c;obtain⟨v,y⟩:=(zN (n e u)).1 x H;exact .inl ⟨y,by rw[v];simp⟩;obtain⟨e,u,rfl⟩:=bk c;exact(zN (n e u)).2.1;obtain⟨e,u,rfl⟩:=bk c;obtain⟨P,v,y⟩:=((zN (n e u)).1 x H).2;rw[v];exact(by rw[y];exact o:P.block<R.heap.size)
end
section
variable [Payload] {Z:Ph} {Y:aw->ar->Prop} {X:(Nat->Prop)->aw->ar->Prop} {W:Nat} {V:Trace} {U T:Array aw} {w R:ar} {sl:Option (Nat×Nat)} {t:Trace} {j:Nat} {Q P:Nat->Gh} {S:Nat->wW} {N M:Nat->Prop} {q:Nat->Nat} {k O:Nat} {K tag':CTag} {J f' I:Nat} {a a':aw} {H G L F:Int} {es:Array Event}
def Ph.Com.spawn(O:Z.Ok)(h:Z.Com W V U w t j Q S N q k)(hj:j<Z.n)(hd:Deaf t 0=0){o G}(I:∀b,G b->N b)(TY:Z.WT ⟨G,λ_=>False,False⟩ o w){x y}(hx:x.g=0/\x.act=.go (Z.lo+j))(hy:y.g=Z.lo+j/\y.act=.start):Z.Com W V ((U.setIfInBounds 0 a').push o) w (t++#[x,y]) (j+1) (upd Q j ⟨G,λ_=>False,False⟩) (upd S j (.tree (⟨G,λ_=>False,False⟩,o,w))) (λb=>N b/\¬G b) q k:=by
 have wY:=O.wY;have hm:∀op∈(#[x,y]:Trace),(op=x\/op=y):=by intro op a;simpa using a
 have K:∀op∈(#[x,y]:Trace),∀m,op.act≠.mark m:=by intro op a m;rcases hm op a with rfl|rfl;rw[hx.2];simp;rw[hy.2];simp
 have L:∀op∈(#[x,y]:Trace),op.act.touch? =ah:=by intro op a;rcases hm op a with rfl|rfl;rw[hx.2];rfl;rw[hy.2];rfl
 have hgk:∀op∈(#[x,y]:Trace),op.g=0\/op.g=Z.lo+j:=by intro op a;rcases hm op a with rfl|rfl;exact .inl hx.1;exact .inr hy.1
 have OP:∀g,Deaf (t++#[x,y]) g=Deaf t g:=λg=>Deaf_still t g _ λop a=>⟨K op a _,K op a _⟩
 have own:∀{i b:Nat},i<j+1->(upd Q j ⟨G,λ_=>False,False⟩ i).own b->(i<j/\(Q i).own b)\/(i=j/\G b):=by intro i b d n;by_cases e:i=j;subst e;rw[upd_same]at n;exact .inr ⟨rfl,n⟩;rw[upd_ne _ _ e]at n;exact .inl ⟨by omega,n⟩
 have c:∀{i p:Nat},i<j+1->(upd Q j ⟨G,λ_=>False,False⟩ i).held p->i<j/\(Q i).held p:=by intro i p d n;by_cases e:i=j;subst e;rw[upd_same]at n;exact n.elim;rw[upd_ne _ _ e]at n;exact⟨by omega,n⟩
 refine⟨by simp[h.size];omega,hj,λi z h0 A C=> ?_,λi d=> ?_,λi d=> ?_,λi d=> ?_,?_,?_,λp hp R=> ?_,λi d hs=> ?_,?_,λp op z hp a T C hk=> ?_,λp op hp a T f=> ?_,λop a z C=> ?_,h.chan,λp hp=> ?_,λp i hp d Y=> ?_,λi d n=> ?_,h.free⟩;rw[OP];refine h.old i z h0 A ?_;rw[Array.getElem?_push_lt (by simp[h.size];omega),<-aS,aH (by omega)]at C;exact C;rcases du i j with f|X;obtain⟨g,T,hsg⟩:=h.wk i f;refine⟨g,?_,by rw[upd_ne _ _ (by omega),upd_ne _ _ (by omega)];exact hsg⟩;rw[Array.getElem?_push_lt (by simp[h.size];omega),<-aS,aH (by omega)];exact T;obtain rfl:i=j:=by omega
 refine⟨o,?_,by rw[upd_same,upd_same];exact⟨rfl,rfl,TY,.refl _ _⟩⟩;rw[show Z.lo+i=(U.setIfInBounds 0 a').size by simp[h.size],Array.getElem?_push_size];rw[upd_ne _ _ (by omega)];exact h.un i (by omega);rw[OP];rcases du i j with f|X;rw[upd_ne _ _ (by omega)];exact h.deaf i f;obtain rfl:i=j:=by omega
 rw[upd_same];exact Deaf_absent λz op C e=>by have:=h.et.gs z op C;omega
 have e:Z.lo+(j+1)=Z.lo+j+1:=by omega
 rw[e];refine ET.fork (F:=Z.rT Q j N) (F':=Z.rT (upd Q j ⟨G,λ_=>False,False⟩) (j+1) (λb=>N b/\¬G b)) (Nat.le_add_right _ _) h.et rfl (λkk B P l A=> ?_) (λl A=> ?_) (λl A=> ?_) (λl A=>A) (λl A=> ?_) (by omega) hx hy hd;obtain⟨i,d,rfl,A⟩:=A;rcases A with⟨b,E,n⟩|⟨p,ad,hp,H,rfl⟩;rcases own d n with⟨f,n⟩|⟨rfl,_⟩;exact⟨i,f,rfl,.inl ⟨b,E,n⟩⟩;omega;obtain⟨f,hp⟩:=c d hp;exact⟨i,f,rfl,.inr ⟨p,ad,hp,H,rfl⟩⟩;obtain⟨i,d,e,A⟩:=A;obtain rfl:i=j:=by omega
 rcases A with⟨b,E,n⟩|⟨p,ad,hp,H,rfl⟩;rw[upd_same]at n;exact⟨b,E,I b n⟩;exact absurd (c d hp).1 (by omega);obtain⟨p,ad,hn,H,rfl⟩:=A;exact⟨p,ad,λi d hp=>hn i (by omega) (by rw[upd_ne _ _ (by omega)];exact hp),H,rfl⟩;obtain⟨b,E,hm⟩:=A;exact⟨b,E,hm.1⟩;refine⟨λi i' b d J B P=> ?_,λi b d B hm=> ?_,λi b d B=> ?_,λb hm=>h.iz.va b hm.1,λi i' p d J B P=> ?_,λi p d B=>h.iz.lW i p (c d B).1 (c d B).2,h.iz.sz,h.iz.B,h.iz.st⟩;rcases own d B with⟨M,D⟩|⟨rfl,D⟩<;>rcases own J P with⟨l2,o2⟩|⟨e,o2⟩
 exact h.iz.Hs i i' b M l2 D o2;exact absurd (I b o2) (h.iz.mine i b M D);exact absurd (I b D) (h.iz.mine i' b l2 o2);exact e.symm;rcases own d B with⟨M,D⟩|⟨rfl,D⟩;exact h.iz.mine i b M D hm.1;exact hm.2 D;rcases own d B with⟨M,D⟩|⟨rfl,D⟩;exact h.iz.zm i b M D;exact h.iz.va b (I b D);exact h.iz.Ag i i' p (c d B).1 (c J P).1 (c d B).2 (c J P).2;obtain⟨op,a,ha⟩:=aG.1 R;rcases getElem?_append_cases a with⟨_,s⟩|⟨_,v⟩;exact h.norel p hp (by rw[act?_of s,ha]);exact K op v _ ha;rcases du i j with f|X;rw[upd_ne _ _ (by omega)]at hs;obtain⟨r,hr⟩:=h.rel i f hs;refine⟨r,hr.appNot λop a=> ?_⟩;rcases hgk op a with e|e<;>omega;obtain rfl:i=j:=by omega
 rw[upd_same]at hs;simp[wW.wd]at hs;obtain⟨u,rfl⟩:=h.pre;exact⟨u++#[x,y],by rw[Array.append_assoc]⟩;rcases getElem?_append_cases a with⟨_,s⟩|⟨_,v⟩;exact h.X' p op z hp s T C hk;rw[L op v]at C;cases C;rcases getElem?_append_cases a with⟨_,s⟩|⟨_,v⟩;exact h.mute p op hp s T f;exact L op v;rcases nl.1 a with z'|z';exact h.seen op z' z C;rw[L op z']at C;cases C;obtain⟨i,d,Y⟩:=h.done p hp;exact⟨i,by omega,by rw[upd_ne _ _ (by omega)];exact Y⟩;obtain⟨f,Y⟩:=c d Y;exact h.todo p i hp f Y;by_cases e:i=j;subst e;rw[upd_same]at n;exact n.elim;rw[upd_ne _ _ e]at n;exact h.over i (by omega) n
def MJ:∀e∈ #[gS .disable],Bk Z.Wg e:=by intro e a;simp at a;subst a;exact .inl rfl
def QS:∀e∈ #[gS .enable],Bk Z.Wg e:=by intro e a;simp at a;subst a;exact .inr (.inl rfl)
def Fa:∀e∈ #[rd (stA Z.Wg)],Bk Z.Wg e:=by intro e a;simp at a;subst a;exact bk_cell _ _ rfl
def QT:∀e∈ #[rd (stA Z.Wg),wr (stA Z.Wg)],Bk Z.Wg e:=by intro e a;simp at a;rcases a with rfl|rfl<;>exact bk_cell _ _ rfl
def UI:∀e∈semEvents (smA Z.Wg),Bk Z.Wg e:=by intro e a;simp[semEvents]at a;rcases a with rfl|rfl|rfl|rfl;exact .inl rfl;exact bk_cell _ _ rfl;exact bk_cell _ _ rfl;exact .inr (.inl rfl)
def Ph.Qy(Z:Ph)(Y:aw->ar->Prop)(W:Nat)(V:Trace)(b:Machine)(t:Trace):Prop:=
 ∃(U:Array aw)(w:ar)(sl:Option (Nat×Nat))(Q:Nat->Gh)(S:Nat->wW)(N:Nat->Prop)(q:Nat->Nat)(k:Nat)(a:aw),
  b=crowd U w sl/\U[0]? =af a/\a.status=.running/\Y a w/\Deaf t 0=0/\Z.Com W V U w t Z.n Q S N q k/\WgAt Z.ty Z.Wg w 0 0/\AllQuit Z.n (jd S)/\Z.qW V Z.n t
def P7(O:Z.Ok)(hT0:∀(i:Nat) op,V[i]? =af op->op.g<Z.lo)(hAn:∀N g w,X N g w->∃m,Z.GP N (Z.AtW1 N Y (X N)) m g w)(F:U[0]? =af a)(OL:Z.jO Y X K J I N a w)(z:Deaf t 0=I)(b:Z.Com W V U w t j Q S N q k)(s:WgAt Z.ty Z.Wg w H G)(c:fe j (jd S) K H G)(v:zG Z.n j K)(OJ:K=.ret->Z.qW V j t)(o:∀i,i<Z.n->_root_.Acc Z.G0 (S i))(uU:a.status=.running):(K=.ret/\∀fC,Z.MR N w fC->Ph.AtRet Y a fC)\/∃m' IY M,runT Z.P (crowd U w sl) 0=(.next m',IY)/\Z.O5 M (Z.mu S q j K J)/\Z.Inv Y X W V M m' (t++IY):=by
 have hVj:=Vc_le j (jd S);have hjn:=b.jn;have hn:=O.n31;have w1:∀{K:CTag}{J f1:Nat},zG Z.n j .w1->fe j (jd S) .w1 H G->Z.GP N (Z.AtW1 N Y (X N)) f1 a w->Deaf t 0=1->(iI (Vc j (jd S)) .w1<iI (Vc j (jd S)) K\/(K=.w1/\f1=J))->
  ∃m' IY M,runT Z.P (crowd U w sl) 0=(.next m',IY)/\Z.O5 M (Z.mu S q j K J)/\Z.Inv Y X W V M m' (t++IY):=by
  intro K J f1 v c h OM lW;rcases Goes.cases h with d|⟨m',rfl,l⟩;obtain⟨_,yP⟩:=d w (.refl N w);obtain⟨ho,rfl,rfl,_⟩:=c.open_inv trivial;obtain⟨a',n,h0,CU⟩:=yP (Vc j (jd S)) (by omega) (by simpa[pend]using s);have Xf:∀{tg:CTag},iI (Vc j (jd S)) tg<iI (Vc j (jd S)) .w1->iI (Vc j (jd S)) tg<iI (Vc j (jd S)) K:=λh=>by rcases lW with h'|⟨rfl,_⟩<;>omega
  by_cases hv:Vc j (jd S)=0;obtain⟨B,E⟩:=h0 hv;refine qa O o OM (tag':=.ke) v F b n (.refl Z.Wg w) s Fa (.ke E) ?_ (by simp) (.inl (Xf (by simp[iI])));have e:((Vc j (jd S)+pend .w1:Nat):Int)*KK=0:=by rw[hv];simp[pend]
  rw[e];exact .fin trivial (allQuit_of ho hv);obtain⟨B,E⟩:=CU hv;exact qa O o OM (tag':=.w2 (Vc j (jd S))) v F b n (.refl Z.Wg w) s Fa (.w2 E) (c.reopen trivial trivial rfl (λvs e=>by cases e;omega)) (by simp) (.inl (Xf (by simp[iI])));obtain⟨a',R,es,n,T,A⟩:=l w (.refl N w);obtain⟨rfl,Ip⟩:=T;have YH:deafBehind 1 es=1:=deafBehind_idle (λe he=>(mK (Ip e he)).1) 1;refine qj o OM (tag':=.w1) (f':=m') v F n O.wY b (λf hf=> ?_) (by rw[YH];exact .w1 A) s c (by simp) ?_;have:=b.FD (a':=a') O (MI R) (es:=es) (by rw[rD];exact Ip) a.frame.fn a.frame.place f hf;rwa[rD]at this;rcases lW with h'|⟨rfl,rfl⟩;exact .inl h';exact .inr ⟨rfl,by omega⟩
 cases OL with
 |X8 hr h=>refine .inr ?_;rcases Goes.cases h with d|⟨m',rfl,l⟩;obtain⟨_,a',R,es,n,hal,Ip,B,E⟩:=d w (.refl N w);have YH:deafBehind 0 es=0:=deafBehind_idle (λe he=>(mK (Ip e he)).1) 0;exact qj o z (tag':=.sp _ 6) v F n O.wY b (λf hf=>b.FD O hal Ip _ _ f hf) (by rw[YH];exact .al2 hr E) (s.of_block (hal.rest Z.Wg (by have:=b.iz.B.1;have:=b.iz.sz;omega))) (c.reopen trivial trivial rfl (by simp)) (by simp) (.inl (by simp[iI]));obtain⟨a',R,es,n,T,A⟩:=l w (.refl N w);exact pd O o z v F b s c (by simp) n T (.X8 hr A) (by omega)
 |al2 hr h=>refine .inr ?_;rcases Goes.cases h with d|⟨m',rfl,l⟩;obtain⟨_,a',R,es,n,hal,Ip,B,E⟩:=d w (.refl N w);have YH:deafBehind 0 es=0:=deafBehind_idle (λe he=>(mK (Ip e he)).1) 0;exact qj o z (tag':=.sp _ 5) v F n O.wY b (λf hf=>b.FD O hal Ip _ _ f hf) (by rw[YH];exact .skd hr E) (s.of_block (hal.rest Z.Wg (by have:=b.iz.B.1;have:=b.iz.sz;omega))) (c.reopen trivial trivial rfl (by simp)) (by simp) (.inl (by simp[iI]));obtain⟨a',R,es,n,T,A⟩:=l w (.refl N w);exact pd O o z v F b s c (by simp) n T (.al2 hr A) (by omega)
 |skd hr h=>refine .inr ?_;rcases Goes.cases h with d|⟨m',rfl,l⟩;obtain⟨_,a',n,B,E⟩:=d w (.refl N w);exact qa O o z (tag':=.sp _ 4) v F b n (.refl Z.Wg w) s MJ (.sa1 hr E) (c.reopen trivial trivial rfl (by simp)) (by simp) (.inl (by simp[iI]));obtain⟨a',R,es,n,T,A⟩:=l w (.refl N w);exact pd O o z v F b s c (by simp) n T (.skd hr A) (by omega)
 |sa1 hr h=>
  rename_i r;refine .inr ?_;rcases Goes.cases h with d|⟨m',rfl,l⟩;obtain⟨_,yP⟩:=d w (.refl N w);obtain⟨ho,rfl,rfl,_⟩:=c.open_inv trivial;have aci:j+(r+1)=Z.n:=v;obtain⟨a',n,B,E⟩:=yP (Vc j (jd S)) (by omega) (by simpa[pend]using s);refine qa O o z (tag':=.sp r 3) v F b n (aside_setCell w (stA Z.Wg) _) (s.setSt _) QT (.ske hr E) ?_ (by simp) (.inl (by simp[iI]));have e:(((Vc j (jd S):Nat):Int)+1)*KK=((Vc j (jd S)+pend (.sp r 3):Nat):Int)*KK:=by simp[pend]
  rw[e];exact .opn trivial ho (by simp);obtain⟨a',R,es,n,T,A⟩:=l w (.refl N w);exact pd O o z v F b s c (by simp) n T (.sa1 hr A) (by omega)
 |ske hr h=>refine .inr ?_;rcases Goes.cases h with d|⟨m',rfl,l⟩;obtain⟨_,a',n,B,E⟩:=d w (.refl N w);exact qa O o z (tag':=.sp _ 2) v F b n (.refl Z.Wg w) s QS (.sgo hr E) (c.reopen trivial trivial rfl (by simp)) (by simp) (.inl (by simp[iI]));obtain⟨a',R,es,n,T,A⟩:=l w (.refl N w);exact pd O o z v F b s c (by simp) n T (.ske hr A) (by omega)
 |sgo hr h=>
  rename_i r;refine .inr ?_;rcases Goes.cases h with d|⟨m',rfl,l⟩;obtain⟨_,a',D,hb,hsp,hhb,TY,M4⟩:=d w (.refl N w);obtain⟨ho,rfl,rfl,_⟩:=c.open_inv trivial;have aci:j+(r+1)=Z.n:=v;have Ea:=runT_crowd_spawn (P:=Z.P) (sl:=sl) (i:=0) F (by simpa using hsp);rw[b.size]at Ea;have W7:=b.spawn O (a':=a') (by omega) z hhb TY (x:={g:=0,fn:=a.frame.fn,pos:=a.frame.place,act:=.go (Z.lo+j)}) (y:={g:=Z.lo+j,fn:=D.frame.fn,pos:=a.frame.place,act:=.start}) ⟨rfl,rfl⟩ ⟨rfl,rfl⟩;have ha':((U.setIfInBounds 0 a').push D)[0]? =af a':=by have:=O.wY;rw[Array.getElem?_push_lt (by simp[b.size];omega),<-aS];exact aQ (by simp[b.size];omega)
  have eW:jd (upd S j (.tree (⟨hb,λ_=>False,False⟩,D,w)))=upd (jd S) j ⟨7,0,0⟩:=ug _ _ _;have eV:Vc (j+1) (upd (jd S) j ⟨7,0,0⟩)=Vc j (jd S)+1:=by simp only[Vc,sumTo,upd_same];rw[sumTo_upd_out _ _ cnt (ao _)];rfl
  have ho':OpenSt (j+1) (upd (jd S) j ⟨7,0,0⟩):=λi hi=>by by_cases e:i=j;subst e;rw[upd_same];simp;rw[upd_ne _ _ e];exact ho i (by omega)
  have est:∀tag',pend tag'=0->((Vc j (jd S)+pend (.sp r 2):Nat):Int)*KK=((Vc (j+1) (upd (jd S) j ⟨7,0,0⟩)+pend tag':Nat):Int)*KK:=λtag' hp=>by rw[eV,hp];simp[pend]
  have W6:∀i,i<Z.n->_root_.Acc Z.G0 (upd S j (.tree (⟨hb,λ_=>False,False⟩,D,w)) i):=λi hi=>by by_cases e:i=j;subst e;rw[upd_same];exact G9 TY.acc;rw[upd_ne _ _ e];exact o i hi
  have aaK:∀p,Z.O5 (upd S j (.tree (⟨hb,λ_=>False,False⟩,D,w)),p) (Z.mu S q j (.sp r 2) J):=λp=>Prod.Lex.left _ _ ⟨j,by omega,by rw[upd_same,b.un j (ao _)];exact TY.acc,λx hx=>upd_ne _ _ hx⟩
  have W8:Deaf (t++#[{g:=0,fn:=a.frame.fn,pos:=a.frame.place,act:=.go (Z.lo+j)},{g:=Z.lo+j,fn:=D.frame.fn,pos:=a.frame.place,act:=.start}]) 0=0:=by rw[Deaf_still t 0 _ λop C=> ?_,z];simp only[nU,b8,fO,or_false]at C;rcases C with rfl|rfl<;>simp
  have It:(((b6 0 a.frame.fn a.frame.place #[]).push {g:=0,fn:=a.frame.fn,pos:=a.frame.place,act:=.go (Z.lo+j)}).push {g:=Z.lo+j,fn:=D.frame.fn,pos:=a.frame.place,act:=.start}:Trace)=#[{g:=0,fn:=a.frame.fn,pos:=a.frame.place,act:=.go (Z.lo+j)},{g:=Z.lo+j,fn:=D.frame.fn,pos:=a.frame.place,act:=.start}]:=by rw[ofEvents_eq];simp
  rw[It]at Ea;cases r with|zero=>obtain⟨Ss,E⟩:=M4;refine⟨_,_,Z.mu _ q (j+1) .kd Ss,Ea,aaK _,_,w,sl,j+1,_,_,_,q,k,.kd,Ss,0,a',_,_,rfl,ha',.kd E,W8,W7,s,?_,by show j+1=Z.n;omega,by simp,W6,rfl⟩;rw[eW,est .kd rfl];exact .opn trivial ho' (by simp)|succ r'=>obtain⟨Ss,E⟩:=M4;refine⟨_,_,Z.mu _ q (j+1) (.sp r' 7) Ss,Ea,aaK _,_,w,sl,j+1,_,_,_,q,k,.sp r' 7,Ss,0,a',_,_,rfl,ha',.X8 (by omega) E,W8,W7,s,?_,by show j+1+(r'+1)=Z.n;omega,by simp,W6,rfl⟩;rw[eW,est (.sp r' 7) rfl];exact .opn trivial ho' (by simp)
  obtain⟨a',R,es,n,T,A⟩:=l w (.refl N w);exact pd O o z v F b s c (by simp) n T (.sgo hr A) (by omega)
 |kd h=>refine .inr ?_;rcases Goes.cases h with d|⟨m',rfl,l⟩;obtain⟨_,a',n,B,E⟩:=d w (.refl N w);exact qa O o z (tag':=.anch) v F b n (.refl Z.Wg w) s MJ (.anch E) (c.reopen trivial trivial rfl (by simp)) (by simp) (.inl (by simp[iI]));obtain⟨a',R,es,n,T,A⟩:=l w (.refl N w);exact pd O o z v F b s c (by simp) n T (.kd A) (by omega)
 |anch h=>refine .inr ?_;rcases Goes.cases h with d|⟨m',rfl,l⟩;obtain⟨B,E⟩:=hAn N a w (d w (.refl N w));exact w1 v (c.reopen trivial trivial rfl (by simp)) E z (.inl (by simp[iI]));obtain⟨a',R,es,n,T,A⟩:=l w (.refl N w);exact pd O o z v F b s c (by simp) n T (.anch A) (by omega)
 |w1 h=>exact .inr (w1 v c h z (.inr ⟨rfl,rfl⟩))|w2 h=>rename_i vs;refine .inr ?_;rcases Goes.cases h with d|⟨m',rfl,l⟩;obtain⟨_,yP⟩:=d w (.refl N w);obtain⟨ho,rfl,rfl,Vk⟩:=c.open_inv trivial;obtain⟨hle,h1⟩:=Vk vs rfl;obtain⟨ab5,aaS⟩:=yP (Vc j (jd S)) (by omega) (by simpa[pend]using s);by_cases e:Vc j (jd S)=vs;obtain⟨a',n,B,E⟩:=ab5 e;exact qa O o z (tag':=.w3) v F b n (aside_setCell w (stA Z.Wg) _) (s.setSt _) QT (.w3 E) (.reg trivial ho (by omega)) (by simp) (.inl (by simp[iI,e]));obtain⟨a',n,B,E⟩:=aaS e;exact qa O o z (tag':=.anch) v F b n (.refl Z.Wg w) s Fa (.anch E) (c.reopen trivial trivial rfl (by simp)) (by simp) (.inl (by simp[iI,e]));obtain⟨a',R,es,n,T,A⟩:=l w (.refl N w);exact pd O o z v F b s c (by simp) n T (.w2 A) (by omega)
 |w3 h=>
  refine .inr ?_;rcases Goes.cases h with d|⟨m',rfl,l⟩;obtain⟨_,ac5,hblk,aaW⟩:=d w (.refl N w);cases c with|opn h1 _ _=>exact h1.elim|reg h1 h2 h3=>exact qa O o z (tag':=.blk) v F b (hblk ⟨_,s⟩) (.refl Z.Wg w) s (by simp) (.blk d) (.reg trivial h2 h3) (by simp) (.inr ⟨rfl,by omega⟩)|last L h1 h2 h3 h4=>exact qa O o z (tag':=.blk) v F b (hblk ⟨_,s⟩) (.refl Z.Wg w) s (by simp) (.blk d) (.last L trivial h2 h3 h4) (by simp) (.inr ⟨rfl,by omega⟩)|sema h2=>obtain⟨a',n,B,E⟩:=aaW s;exact qa O o z (tag':=.w4) v F b n (aside_setCell w (smA Z.Wg) _) (s.setSm 0) UI (.w4 E) (.fin trivial h2) (by simp) (.inl (by simp[iI]))|fin h1 _=>exact h1.elim
  obtain⟨a',R,es,n,T,A⟩:=l w (.refl N w);exact pd O o z v F b s c (by simp) n T (.w3 A) (by omega)
 |blk h=>simp at uU|w4 h=>refine .inr ?_;rcases Goes.cases h with d|⟨m',rfl,l⟩;obtain⟨_,hx⟩:=d w (.refl N w);obtain⟨hq,rfl,rfl⟩:=c.fin_inv trivial;obtain⟨a',n,B,E⟩:=hx s;exact qa O o z (tag':=.ke) v F b n (.refl Z.Wg w) s Fa (.ke E) (.fin trivial hq) (by simp) (.inl (by simp[iI]));obtain⟨a',R,es,n,T,A⟩:=l w (.refl N w);exact pd O o z v F b s c (by simp) n T (.w4 A) (by omega)
 |ke h=>refine .inr ?_;rcases Goes.cases h with d|⟨m',rfl,l⟩;obtain⟨_,a',n,B,E⟩:=d w (.refl N w);obtain⟨hq,rfl,rfl⟩:=c.fin_inv trivial;exact qa O o z (tag':=.acq) v F b n (.refl Z.Wg w) s QS (.acq E) (.fin trivial hq) (by simp) (.inl (by simp[iI]));obtain⟨a',R,es,n,T,A⟩:=l w (.refl N w);exact pd O o z v F b s c (by simp) n T (.ke A) (by omega)
 |acq h=>
  refine .inr ?_;rcases Goes.cases h with d|⟨m',rfl,l⟩;obtain⟨_,a',n,B,E⟩:=d w (.refl N w);obtain⟨hq,rfl,rfl⟩:=c.fin_inv trivial;have It:∀op∈b6 0 a.frame.fn a.frame.place #[gS (.acquire (stA Z.Wg))],op.g=0/\op.act=.mark (.acquire (stA Z.Wg)):=λop C=>by obtain⟨e,he,rfl⟩:=bk C;simp at he;subst he;exact⟨rfl,Go.ConcR.ofEvent_mk _⟩
  refine qj o z (tag':=.ret) (f':=B) v F n O.wY b (λf hf=>b.main O f hf (λop C=>(It op C).1) (λi hi=>.refl _ _) ?_ b.iz (λop C=>by rw[(It op C).2];simp) (λop C x hx=>by rw[(It op C).2]at hx;cases hx) (ao _) rfl λ_ _ _=>rfl) (.ret E) s (.fin trivial hq) (λ_=> ?_) (.inl (by simp[iI]));exact b.et.mute (g:=0) (by have:=O.wY;omega) (λop C=>(It op C).1) λop C=>by rw[(It op C).2];rfl
  have e1:b6 0 a.frame.fn a.frame.place #[gS (.acquire (stA Z.Wg))]=#[{g:=0,fn:=a.frame.fn,pos:=a.frame.place,act:=.mark (.acquire (stA Z.Wg))}]:=by rw[ofEvents_eq];simp[Go.ConcR.ofEvent_mk]
  have hy:(t++#[({g:=0,fn:=a.frame.fn,pos:=a.frame.place,act:=.mark (.acquire (stA Z.Wg))}:MemOp)])[t.size]? =af {g:=0,fn:=a.frame.fn,pos:=a.frame.place,act:=.mark (.acquire (stA Z.Wg))}:=by simp
  have hts:V.size<=t.size:=by obtain⟨u,hu⟩:=b.pre;rw[hu];simp
  refine⟨t.size,hts,by rw[e1,act?_of hy],by rw[e1];simp[Trace.g?],by rw[e1];exact⟨0,by simp[Trace.g?],by rw[deaf_old (ao _)];exact z⟩,λi hi=> ?_⟩;obtain⟨r,hr⟩:=b.rel i hi (by have:(jd S i).stage=1:=hq i hi;show(jd S i).stage<=6;omega);refine⟨r,hr.appNot λop C=>by rw[(It op C).1];have:=O.wY;omega,lt_of_act? hr.act,Nat.le_of_not_lt λlW=> ?_⟩;obtain⟨u,hu⟩:=b.pre;obtain⟨op,C,hg⟩:=aG.1 hr.g;rw[hu,getElem?_append_old lW]at C;have:=hT0 r op C;omega;obtain⟨a',R,es,n,T,A⟩:=l w (.refl N w);exact pd O o z v F b s c (by simp) n T (.acq A) (by omega)
 |ret h=>rcases Goes.cases h with d|⟨m',rfl,l⟩;exact .inl ⟨rfl,d⟩;obtain⟨a',R,es,n,T,A⟩:=l w (.refl N w);exact .inr (pd O o z v F b s c OJ n T (.ret A) (by omega))
end
end Rel
namespace Rel
section
variable{P:br} {c:h9}
def IA{a}(h:ny a=ak):Z4 [sent] a:=⟨rfl,h,λ_=>rfl,λe=>by cases e⟩
def QE(Q:Exit->Act->ar->Prop)(b:dj)(g:aw)(w:ar):Prop:=g.callers=[fz]/\∃(a:Act)(t:Tape)(d:Nat),(g.frame=b.at a [sent]/\Q .normal a (dG w t d))\/(∃c,g.frame={b.at a c with mode:=.returning}/\Q .ret a (dG w t d))
def Pg(Q b):ZZ (QE Q b):=by refine⟨λg w t d h=> ?_,λg w h=> ?_⟩;obtain⟨e,a,i,f,c⟩:=h;exact⟨e,a,i,f,c⟩;obtain⟨e,a,i,f,⟨c,_⟩|⟨j,c,_⟩⟩:=h;exact⟨e,.inl (by rw[c];rfl)⟩;exact⟨e,.inr (by rw[c])⟩
def z8{e f d}{b:dj}(g:b.kind=.normal){a}(k:pW c d a.tmps a.tmps)(i:a.defers=[]){x y}(j:G5 c e f d x y)(l:Z4 e f):pQ c e f d (b.at a x) (b.at a y):=⟨rfl,k,j,by show dp (lE d) a.defers a.defers;rw[i];exact .nil,rfl,.inl rfl,g,g,.none,l,λh=>absurd rfl h⟩
def Du(n:c.Fits P){its b}(m:b.kind=.normal){a Q w i}(s:Sub i)(r:cg P c.sig i w w)(q:pW c i a.tmps a.tmps)(o:a.defers=[])(p:G5 c [sent] [sent] i (its++[sent]) (its++[sent]))(k:∀e a w,Q e a w->e=.normal\/e=.ret)(l:∀t,∃e h f,Q e h f/\Arrives P (lone (b.at a (its++[sent])) [fz] (dG w t 0)) b [sent] [fz] e h f):LT P [sent] (QE Q b) (iZ (b.at a (its++[sent])) [fz]) w:=by
 refine uH n (.inr rfl) s r ⟨rfl,rfl,.one (z8 m q o p (IA rfl)) rfl⟩ (Pg Q b) λt=> ?_
 obtain⟨e,h,f,j,d⟩:=l t;rcases k _ _ _ j with rfl|rfl;exact⟨iZ (b.at h [sent]) [fz],f,d,rfl,rfl,h,f.tape,f.drawn,.inl ⟨rfl,j⟩⟩;obtain⟨g,d⟩:=d;exact⟨iZ {b.at h g with mode:=.returning} [fz],f,d,rfl,rfl,h,f.tape,f.drawn,.inr ⟨g,rfl,j⟩⟩
def WI(P:br)(f:eu)(R:Ending->ar->Prop)(g:aw)(w:ar):Prop:=g.callers=[fz]/\g.frame.fn=f/\∃(v:aB)(t:Tape)(d:Nat),R (.returned v) (dG w t d)/\g.frame.leaving P (dG w t d) (.returned v)
def QV(P f R):ZZ (WI P f R):=⟨λ_ _ _ _ ⟨a,d,v,e,c,b⟩=>⟨a,d,v,e,c,b⟩,λ_ _ ⟨a,_,_,_,_,_,b⟩=>⟨a,.inr b.1⟩⟩
def uG(h:c.Fits P){f}(n:c.fn f=ak){args R w g}(s:Sub g)(q:cg P c.sig g w w)(m:sn c f g args args)(k:∀e w,R e w->∃v,e=.returned v)(l:∀t d,Calls P f args (dG w t d) R):LT P [] (WI P f R) (iZ (fi P f args .normal) [fz]) w:=by
 refine uH (h.at f) (.inl rfl) s q ⟨rfl,rfl,.one (pQ.enter h n m) rfl⟩ (QV P f R) λt=> ?_
 obtain⟨e,a,j,i,p,b,o⟩:=l t 0 [fz];obtain⟨v,rfl⟩:=k e a i;exact⟨iZ j [fz],a,p,rfl,rfl,b,v,a.tape,a.drawn,i,o⟩
def JH(J:c.Fits P){k E h g D L R}{u:Tape->Nat->aw}{C:Tape->Nat->ar}{F:Tape->Nat->Array Event}(N:¬sq k [fz] g)(z:∀t d,stepG P ak g (dG L t d)=.go (u t d) (C t d) (F t d)/\((u t d).frame.mode=.run\/(u t d).frame.mode=.returning)){q}(p:cg P c.sig q L R)(K:GR c k E [fz] h q g D)(m):∃s l r b,stepG P m D R=.go s l r/\Ext P q b/\GR c k E [fz] h b (u R.tape R.drawn) s/\cg P c.sig b (C R.tape R.drawn) l/\vu q b L R (C R.tape R.drawn) l/\∀e∈r,zy c.sig b e:=by
 have A:cg P c.sig q (dG L R.tape R.drawn) R:=⟨p.ok,p.obj,p.mG,p.rm,p.old⟩;obtain⟨j,o⟩:=z R.tape R.drawn;rcases BE J A K N ak m with⟨_,_,_,n⟩|⟨_,_,_,n,H⟩|⟨U,Q,G,i,_,_,I⟩;rw[j]at n;cases n;rw[j]at n;cases n;obtain⟨a,cl,S,O,l,T,y,hm,_⟩:=H;rw[y]at o;rcases o with x|x<;>rw[hm]at x<;>cases x;rw[j]at i;cases i;obtain⟨b,s,l,r,e,M,w,B,f,_,v⟩:=I λ_ _ _=>rfl
 exact⟨s,l,r,b,M,e,w,B,⟨f.tape,f.os,f.output,f.osL,f.tY,f.size,f.BB,f.sizes,f.rest,f.Jl,f.new,f.all,f.le⟩,v⟩
end
end Rel
namespace Rel
open Go.Conc Go.ConcN
open Go.ConcR (KK WgAt rd wr Payload DC0 stA smA Bk)
section
variable [Payload] {Z:Ph} {Y:aw->ar->Prop} {X:(Nat->Prop)->aw->ar->Prop} {W:Nat} {V:Trace} {U T:Array aw} {w R:ar} {sl:Option (Nat×Nat)} {t:Trace} {j:Nat} {Q P:Nat->Gh} {S:Nat->wW} {M N:Nat->Prop} {q:Nat->Nat} {k O:Nat} {K L:CTag} {J I H:Nat} {a G:aw} {F E D C:Int} {B:Array Event}
def FJ{e}(h:e.mute=ak)(a):cM e≠.mark (.release a):=by obtain⟨b,wr,c⟩:=e;cases b<;>simp_all[Event.mute];rename_i m;cases m<;>simp_all[cM]
def Ph.Com.Y9(O:Z.Ok)(h:Z.Com W V U w t j Q S M q k){i}(L:0<i)(Y:i<Z.lo){g' fn pos}(hm:∀e∈B,Event.mute e=ak){J}(D:QuitsD Z.P J (deafBehind (Deaf t i) B) g')(f)(H:∀o,o.status=.running\/o.status=.finished->f o=o):Z.Com W V ((U.map f).setIfInBounds i g') w (t++b6 i fn pos B) j Q S M (upd q i J) k:=by
 have X:=O.wY;have b:∀op∈b6 i fn pos B,op.g=i/\op.act.touch? =ah/\op.act≠.mark (.release (stA Z.Wg)):=by intro op a;obtain⟨e,G,rfl⟩:=bk a;exact⟨rfl,touch_mute (hm e G),FJ (hm e G) _⟩
 have A:∀op∈b6 i fn pos B,op.g=i:=λop a=>(b op a).1
 refine⟨by simp[h.size],h.jn,λn x K P l=> ?_,λn m=> ?_,h.un,λn m=> ?_,?_,h.iz,λp hp v=> ?_,λn m E=> ?_,?_,λp op x hp a s l N=> ?_,λp op hp a s C=> ?_,λop a x l=> ?_,h.chan,h.done,h.todo,h.over,h.free⟩;by_cases e:i=n;subst e;rw[aQ (by simp[h.size];omega)]at l;obtain rfl:=aX l;rw[upd_same,Deaf_own];exact D;rw[aH e,gd]at l;obtain⟨y,T,rfl⟩:=aG.1 l;have I:=h.old n y K P T;rw[H y I.status,Deaf_other t (g':=i) (by omega) _ A,upd_ne _ _ (by omega)];exact I;obtain⟨x,l,z⟩:=h.wk n m;exact⟨x,by rw[aH (by omega),gd,l,fD,H x z.status],z⟩;rw[Deaf_other t (g':=i) (by omega) _ A];exact h.deaf n m;exact h.et.mute (g:=i) (by omega) A λop a=>(b op a).2.1
 obtain⟨op,a,F⟩:=aG.1 v;rcases getElem?_append_cases a with⟨_,c⟩|⟨_,d⟩;exact h.norel p hp (by rw[act?_of c,F]);exact(b op d).2.2 F;obtain⟨r,R⟩:=h.rel n m E;exact⟨r,R.appNot λop a=>by rw[A op a];omega⟩;obtain⟨u,rfl⟩:=h.pre;exact⟨u++_,by rw[Array.append_assoc]⟩;rcases getElem?_append_cases a with⟨_,c⟩|⟨_,d⟩;exact h.X' p op x hp c s l N;rw[(b op d).2.1]at l;cases l;rcases getElem?_append_cases a with⟨_,c⟩|⟨_,d⟩;exact h.mute p op hp c s C;exact(b op d).2.1;rcases nl.1 a with y|y;exact h.seen op y x l;rw[(b op y).2.1]at l;cases l
def V0(Z:Ph)(Q w d):Z.eT Q w (w.at d):=⟨λ_ _=>rfl,λ_ _=>rfl,λ_ _ _ _=>rfl,λ_ _=>rfl,id,ao _,rfl,rfl,rfl⟩
def aa2(Z:Ph)(M w d):Z.MR M w (w.at d):=⟨λ_ _=>rfl,λ_ _=>rfl,λ_ _=>rfl,λ_ _=>rfl,id,ao _,rfl,rfl,rfl⟩
def Ph.Com.at(O:Z.Ok)(h:Z.Com W V U w t j Q S M q k)(d):Z.Com W V U (w.at d) t j Q S M q k:=⟨h.size,h.jn,h.old,λi c=>let⟨g,b,e⟩:=h.wk i c;⟨g,b,e.rely O (V0 Z _ w d)⟩,h.un,h.deaf,h.et,h.iz,h.norel,h.rel,h.pre,h.X',h.mute,h.seen,h.chan,h.done,h.todo,h.over,λp hp a=>O.j0 w (w.at d) p (λ_ _=>rfl) (h.free p hp a)⟩
def JL(O:Z.Ok)(C:∀M g w,X M g w->g.status=.running)(ha:U[0]? =af a)(D:Z.jO Y X K J H M a w)(G:Deaf t 0=H)(d:Z.Com W V U w t j Q S M q k)(Xj:WgAt Z.ty Z.Wg w F E)(l:fe j (jd S) K F E)(RS:zG Z.n j K)(u:K=.ret->Z.qW V j t)(s:∀i,i<Z.n->_root_.Acc Z.G0 (S i)){i}(y:0<i)(R:i<Z.lo){g}(hg:U[i]? =af g)(b:g.status=.running):∃m' f N,runT Z.P (crowd U w sl) i=(.next m',f)/\Z.O5 N (Z.mu S q j K J)/\Z.Inv Y X W V N m' (t++f):=by
 have A:=d.old i g y R hg;cases n:q i with
 |zero=>rw[n]at A;rw[A.1]at b;cases b|succ p=>
  rw[n]at A;rcases A with⟨hf,_⟩|⟨_,g',B,hm,OP,Vg⟩;rw[hf]at b;cases b;have T:(i==0)=aq:=by simp;omega
  have P:=OP w;obtain⟨L,I,v,c,hwk⟩:=D.wokenBy C (.refl M w) g g';have x:∀op∈b6 i g.frame.fn g.frame.place B,op.g=i:=λop m=>by obtain⟨e,_,rfl⟩:=bk m;rfl
  have h:=d.Y9 O y R (fn:=g.frame.fn) (pos:=g.frame.place) hm Vg (woken Z.P g g' w) λo ho=>by unfold Go.Conc.woken;split;exact again_running _ ho;rfl
  have z:sumTo Z.lo (upd q i p)<sumTo Z.lo q:=by have:=sumTo_upd q p id R;simp only[id,n]at this;change sumTo Z.lo (upd q i p)+(p+1)=sumTo Z.lo q+p at this;omega
  refine⟨_,_,Z.mu S (upd q i p) j L I,runT_crowd_go hg (by rw[T];exact P),Prod.Lex.right _ (Prod.Lex.left _ _ z),_,w,sl,j,Q,S,M,upd q i p,k,L,I,H,_,F,E,rfl,?_,v,?_,h,Xj,l.retag c,?_,?_,s,rfl⟩;rw[aH (by omega),gd,ha];rfl;rw[Deaf_other t (g':=i) (by omega) _ x,G];rcases c with rfl|⟨rfl,rfl⟩<;>exact RS;intro e;rcases c with rfl|⟨_,rfl⟩;exact qW.app (u e) λi' r hi' hr=>hr.appNot λop m=>by rw[x op m];omega
  cases e
def Fj(n:∀M g w,X M g w->g.status=.running)(y:U[0]? =af a)(p:Z.jO Y X K J H M a w)(f:Z.Com W V U w t j Q S M q k)(e:fe j (jd S) K F E):∃(i:Nat)(g:aw),U[i]? =af g/\g.status=.running:=by
 have run:∀i,i<j->(jd S i).stage≠1->∃g,U[Z.lo+i]? =af g/\g.status=.running:=by
  intro i r c;obtain⟨g,l,b⟩:=f.wk i r;refine⟨g,l,?_⟩;change (S i).wd.stage≠1 at c;cases o:S i with|kG=>rw[o]at b;exact b.elim|tree x=>rw[o]at b;obtain⟨s,m,u,_⟩:=b;exact u.status|tail d=>rw[o]at b c;obtain⟨C,v,_,_,_,_,_,_,h⟩:=b;exact h.running_of c
 rcases p.status n with⟨b,_⟩|⟨_,rfl⟩;exact⟨0,a,y,b⟩;cases e with|opn c _ _=>exact c.elim|reg _ _ m=>obtain⟨i,r,z⟩:=exists_counted m;obtain⟨g,l⟩:=run i r (by omega);exact⟨_,g,l⟩|last L _ s m _=>obtain⟨g,l⟩:=run L s (by omega);exact⟨_,g,l⟩|fin c _=>exact c.elim
def KO(n:∀M g w,X M g w->g.status=.running)(p:U[0]? =af a)(o:Z.jO Y X K J H M a w)(b:Z.Com W V U w t j Q S M q k):∀g∈U,awake g:=by
 intro g r v;obtain⟨i,e⟩:=Array.mem_iff_getElem?.1 r;rcases fP i with rfl|f;rw[p]at e;cases e;rcases o.status n with⟨l,_⟩|⟨l,_⟩<;>rw[l]<;>simp;rcases du i Z.lo with c|s;rcases(b.old i g f c e).status with h|h<;>rw[h]<;>simp;obtain⟨m,rfl⟩:∃m,i=Z.lo+m:=⟨i-Z.lo,by omega⟩;have c:m<j:=by have:=(aC.1 e).1;rw[b.size]at this;omega
 obtain⟨u,d,l⟩:=b.wk m c;rw[e]at d;cases d;rcases l.status with h|h<;>rw[h]<;>simp
def Ot(O:Z.Ok)(hT0:∀(i:Nat) op,V[i]? =af op->op.g<Z.lo)(u:∀M g w,X M g w->g.status=.running)(hAn:∀M g w,X M g w->∃m,Z.GP M (Z.AtW1 M Y (X M)) m g w):∀m T t,Z.Inv Y X W V m T t->Z.Qy Y W V T t\/∃m' A N,stepT Z.P T=(.next m',A)/\Z.O5 N m/\Z.Inv Y X W V N m' (t++A):=by
 rintro m T t ⟨U,w,sl,j,Q,S,M,q,k,K,J,H,a,F,E,rfl,B,v,x,e,R,c,y,n,p,rfl⟩;by_cases z:K=.ret/\∀o,Z.MR M w o->Ph.AtRet Y a o;obtain⟨rfl,G⟩:=z;obtain⟨f,C⟩:=G w (.refl M w);obtain⟨hq,rfl,rfl⟩:=c.fin_inv trivial;obtain rfl:j=Z.n:=y;have hd:H=0:=by cases v;rfl
 exact .inl ⟨U,w,sl,Q,S,M,q,k,a,rfl,B,f,C,x.trans hd,e,R,hq,n rfl⟩;refine .inr ?_;obtain⟨i,g,d,sl',I,f,D⟩:=crowd_pick (P:=Z.P) (w:=w) (sl:=sl) (KO u B v e) (Fj u B v e c);rw[D];have r:=v.rely (aa2 Z M w d);have l:=e.at O d;have s:WgAt Z.ty Z.Wg (w.at d) F E:=R;rcases fP i with rfl|L;obtain rfl:a=g:=by rw[B]at I;exact aX I
 rcases P7 (sl:=sl') O hT0 hAn B r x l s c y n p f with⟨h1,h2⟩|h;exact absurd ⟨h1,λo h=>h2 o (Ph.MR.trans (b:=w) ⟨λ_ _=>rfl,λ_ _=>rfl,λ_ _=>rfl,λ_ _=>rfl,id,ao _,rfl,rfl,rfl⟩ h)⟩ z;exact h;rcases du i Z.lo with lW|hge;exact JL O u B r x l s c y n p L lW I f;obtain⟨i',rfl⟩:∃i',i=Z.lo+i':=⟨i-Z.lo,by omega⟩;have hi':i'<j:=by have:=(aC.1 I).1;rw[e.size]at this;omega
 exact JM O u B r x l s c y n p hi' I f
def Oq(O:Z.Ok)(f:∀(i:Nat) op,V[i]? =af op->op.g<Z.lo)(e:∀M g w,X M g w->g.status=.running)(d:∀M g w,X M g w->∃m,Z.GP M (Z.AtW1 M Y (X M)) m g w){m l t}(h:Z.Inv Y X W V m l t):∃N c n,runNT Z.P N l t=(.next c,n)/\Z.Qy Y W V c n:=by refine V5 (r:=Z.O5) (Z.Inv Y X W V) (Z.Qy Y W V) (Ot O f e d) m ?_ l t h;obtain⟨U,w,sl,j,Q,S,M,q,k,K,J,H,a,F,E,_,_,_,_,_,_,_,_,_,b,rfl⟩:=h;exact UC S b _
end
def ShL(a:Nat->Prop)(l:Loc):Prop:=∃b,s0 l=af b/\a b
structure uo(Shun:Nat->Prop) (B lo:Nat) (t:Trace):Prop where
 clean:∀said,¬Race said t
 known:∀i a,touchAt t i=af a->a.loc.isMemory=ak->Knows t 0 i\/(ShL Shun a.loc/\a.kind=.atomic)
 over:t.HandedOver
 hears:Deaf t 0=0
 seen:∀op∈t,∀x,op.act.touch? =af x->x.loc.low B
 gs:∀(i:Nat)(op:MemOp),t[i]? =af op->op.g<lo
structure Co(P:br) (Shun:Nat->Prop) (B:Nat) (gs:Array aw) (q:Nat->Nat) (t:Trace):Prop where
 old:∀i g,0<i->gs[i]? =af g->QuitsD P (q i) (Deaf t i) g
 past:uo Shun B gs.size t
 pos:0<gs.size
 P4:∀b,Shun b->b<B
section
variable [Payload] {Z:Ph} {Goal:aw->ar->Prop} {AnchW:(Nat->Prop)->aw->ar->Prop} {Y:Nat} {X:Trace} {W:Nat->Prop} {V U:Array aw} {w T:ar} {sl:Option (Nat×Nat)} {t:Trace} {q R:Nat->Nat} {a:aw}
def Co.enter(O:Z.Ok){B}(hB:B<=Z.Wg)(h:Co Z.P W B V q t)(M:Z.lo=V.size)(A:∀b,Z.mX b->b<w.heap.size/\¬W b)(E:∀b,Z.Std b->b<w.heap.size)(v:∀b,Z.CB b->b<w.heap.size/\¬W b)(I:Z.Wg<w.heap.size)(H:Z.Ch<w.heap.size)(R:WgAt Z.ty Z.Wg w 0 0)(K:Z.MD 0 w)(L:∀p,p<Z.nj->Z.J0 p w)(ha:V[0]? =af a)(hn:0<Z.n)(C:Z.Spawns (Z.Fin AnchW) Z.n (λ_=>False) a w):∃m,Z.Inv Goal AnchW w.heap.size t m (crowd V w sl) t:=by
 obtain⟨r,z⟩:∃r,Z.n=r+1:=⟨Z.n-1,by omega⟩;rw[z]at C;obtain⟨m,hk⟩:=C;have U:∀{l:Loc}{b:Nat},s0 l=af b->¬W b->Perm t 0 l:=by
  intro l b d P i x F e;have hm:x.loc.isMemory=ak:=by rw[e];cases l<;>first|rfl|cases d
  rcases h.past.known i x F hm with Y|⟨⟨b',u,Q⟩,_⟩;exact Y;rw[e,d]at u;cases u;exact absurd Q P
 have y:Z.Com w.heap.size t V w t 0 (λ_=>⟨λ_=>False,λ_=>False,False⟩) (λ_=>.kG) (λ_=>False) q 0:=by refine⟨by rw[M];rfl,bH _,λi g X _ hg=>h.old i g X hg,λi c=>by omega,λ_ _=>rfl,λi c=>by omega,?_,?_,λi c s=> ?_,λi c=>by omega,⟨#[],by simp⟩,λi op x c f=> ?_,λi op c f=> ?_,λop f x F=>Loc.low_mono (by omega) (h.past.seen op f x F),K,λp hp=>by omega,λp i _ c=>by omega,λi c=>by omega,λp _ N=>L p N⟩;refine⟨h.past.clean,λi op x c F P=> ?_,λk S T=>by omega,λl o=> ?_,λk S T=>by omega,λl o=> ?_,λk S T=>by omega,λl o=> ?_,λi op c=>by have:=h.past.gs i op c;omega⟩;obtain⟨G,o,RI⟩:=P;have n:=h.past.seen op (qN c) x F;rw[o]at n;change G.block<B at n;omega;obtain⟨p,G,_,J,rfl⟩:=o;exact U (b:=G.block) rfl (v _ (O.lK p G J)).2;obtain⟨b,d,z⟩:=o;exact PermW.of (U d (A b z).2);obtain⟨b,d,z⟩:=o;exact z.elim;exact⟨λi i' b c=>by omega,λi b c=>by omega,λi b c=>by omega,λb d=>d.elim,λi i' q c=>by omega,λi q c=>by omega,ao _,⟨I,H,λb d=>(A b d).1,λb d=>(v b d).1⟩,E⟩;have:=lt_of_act? s;omega;have:=lt_size_of_getElem? f;omega;have:=lt_size_of_getElem? f;omega
 refine⟨Z.mu (λ_=>.kG) q 0 (.sp r 7) m,V,w,sl,0,_,_,_,q,0,.sp r 7,m,0,a,0,0,rfl,ha,.X8 (by omega) hk,h.past.hears,y,R,?_,by show 0+(r+1)=Z.n;omega,by simp,λi _=>Kt,rfl⟩;have:=Mode.opn (j:=0) (D:=jd (λ_=>.kG)) (tag:=.sp r 7) trivial (λi c=>by omega) (by simp);simpa[Vc,sumTo,pend]using this
def Ph.Qy.leave(O:Z.Ok)(hn:0<Z.n)(h0:Co Z.P W Y U R X)(hlo:Z.lo=U.size){mc}(h:Z.Qy Goal Y X mc t):∃(V:Array aw)(w:ar)(sl:Option (Nat×Nat))(q:Nat->Nat)(a:aw),mc=crowd V w sl/\V[0]? =af a/\a.status=.running/\Goal a w/\Co Z.P (λb=>W b\/b=Z.Wg) w.heap.size V q t/\Y<=w.heap.size/\∀p,p<Z.nj->∃o:Nat->Prop,(∀b,o b->Y<=b/\b<w.heap.size)/\Z.JP o p w:=by
 obtain⟨V,w,sl,γ,S,μ,q,k,a,rfl,ha,uU,H,T1,c,Xj,hq,p,hp0,hpa,hpg,hph,hrel⟩:=h;have wY:=O.wY;obtain⟨u,P⟩:=c.pre;have B:∀i,i<Z.n->∃g d,V[Z.lo+i]? =af g/\S i=.tail d/\QuitsD Z.P d.fuel d.deaf g/\(γ i).over/\∃C,(γ i).own C/\∀p,(γ i).held p->Z.JP (λb=>(γ i).own b/\b≠C) p w:=by
  intro i l;obtain⟨g,L,N⟩:=c.wk i l;have K:(S i).wd.stage=1:=hq i l;cases T:S i with|kG=>rw[T]at N;exact N.elim|tree x=>rw[T]at K;simp[wW.wd]at K|tail d=>rw[T]at N K;obtain⟨C,v,hO,hC,_,hJ,_,_,hW⟩:=N;exact⟨g,d,L,rfl,hW.quits K,hO,C,hC,hJ⟩
 have hk:k=Z.nj:=by obtain⟨g,d,_,_,_,hO,_⟩:=B 0 hn;exact c.over 0 hn hO
 have new:∀i op,t[i]? =af op->Z.lo<=op.g->(t.counts i->∃j,t.g? j=af 0/\HappensBefore t i j):=by
  intro i op l L G;have e:=c.et.gs i op l;obtain⟨r,hr,hrp,hr0⟩:=hrel (op.g-Z.lo) (by omega);rw[show Z.lo+(op.g-Z.lo)=op.g by omega]at hr;have y:t.g? i=af op.g:=by simp[Trace.g?,l]
  have F:HappensBefore t r p:=.single (.inr ⟨.marked hrp (.inr hr.act) hpa (λk hk _=>c.norel k (by omega)),hr.heard,hph⟩);have hle:i<=r:=Nat.le_of_not_lt λe=>hr.after i e y G
  rcases du i r with e|n;exact⟨p,hpg,.trans (.single (.inl ⟨e,op.g,y,hr.g⟩)) F⟩;obtain rfl:i=r:=by omega
  exact⟨p,hpg,F⟩
 refine⟨V,w,sl,λi=>if i<Z.lo then q i else(S (i-Z.lo)).wd.fuel,a,rfl,ha,uU,H,⟨λi g l L=> ?_,⟨c.et.nr,λi x Q hm=> ?_,λi g y D G=> ?_,T1,c.seen,λi op l=>by rw[c.size];exact c.et.gs i op l⟩,by rw[c.size];omega,λb m=> ?_⟩,c.iz.sz,λx Q=> ?_⟩;show QuitsD Z.P (if i<Z.lo then q i else(S (i-Z.lo)).wd.fuel) _ g;split;rename_i e;exact c.old i g l e L;obtain⟨J,rfl⟩:∃J,i=Z.lo+J:=⟨i-Z.lo,by omega⟩;have e:J<Z.n:=by have:=(aC.1 L).1;rw[c.size]at this;omega
 obtain⟨g',d,hg',T,hQ,_⟩:=B J e;rw[L]at hg';cases hg';rw[c.deaf J e,show Z.lo+J-Z.lo=J by omega,T];exact hQ;obtain⟨op,f,E⟩:=touch_of Q;by_cases I:op.g=0;left;have:=knows_own f;rwa[I]at this;rcases du i X.size with e|n;have A:X[i]? =af op:=by rw[P,getElem?_append_old e]at f;exact f
 rcases h0.past.known i x (by rw[touchAt_of A];exact E) hm with K|⟨⟨b,m,N⟩,hk⟩;left;rw[P];exact K.app u;exact .inr ⟨⟨b,m,.inl N⟩,hk⟩;rcases du op.g Z.lo with e|s;rw[c.mute i op n f I e]at E;cases E;by_cases G:t.counts i;obtain⟨j,M,m⟩:=new i op f s G;left;unfold Trace.g? at M;obtain⟨z,I,hzg⟩:=aG.1 M;exact⟨j,z,I,hzg,.inr m⟩;right;have U8:x.kind=.atomic:=Classical.byContradiction λD=>G ⟨x,by simpa[touchAt]using Q,hm,.inl D⟩
 obtain⟨ad,hl,RI⟩:=c.X' i op x n f I E (by rw[U8];decide);exact⟨⟨ad.block,by rw[hl];rfl,.inr RI⟩,U8⟩;unfold Trace.g? at y;obtain⟨op,f,rfl⟩:=aG.1 y;rcases du op.g Z.lo with e|s;rcases du i X.size with hl|n;have A:X[i]? =af op:=by rw[P,getElem?_append_old hl]at f;exact f
 obtain⟨j,M,m⟩:=h0.past.over i op.g (by simp[Trace.g?,A]) D ((counts_old (u:=u) hl).1 (by rw[<-P];exact G));have CS:j<X.size:=by unfold Trace.g? at M;obtain⟨z,I,_⟩:=aG.1 M;exact lt_size_of_getElem? I
 exact⟨j,by rw[P];simpa[Trace.g?,getElem?_append_old CS]using M,by rw[P];exact hb_app u m⟩;obtain⟨x,Q,_⟩:=G;have hx':op.act.touch? =af x:=by simpa[Trace.act?,f]using Q
 rw[c.mute i op n f D e]at hx';cases hx';exact new i op f s G;rcases m with m|rfl;have:=h0.P4 b m;have:=c.iz.sz;omega;have:=c.iz.B.1;have:=c.iz.sz;omega;subst hk;obtain⟨i,l,hh⟩:=c.done x Q;obtain⟨g,d,_,_,_,_,C,_,hJ⟩:=B i l;exact⟨_,λb m=>c.iz.zm i b l m.1,hJ x hh⟩
end
end Rel
section
open Go.RowKit
def cZ{k a b}(h:a=b):Ending.returned (.int k a)=.returned (.int k b):=by rw[h]
def cG{a b}(h:a=b):Ending.returned (.bool a)=.returned (.bool b):=by rw[h]
def di(w:ar)(g:Nat)(t:cD)(a:Array aB):Prop:=w.heap[g]? =af (.cells a t (0,0))
section
variable{w w':ar} {g:Nat} {t:cD} {Z:Array aB}
def di.lt(h:di w g t Z):g<w.heap.size:=(aC.1 h).1
def di.cell(h:di w g t Z)(i):w.cell? ⟨g,i,ah⟩=Z[i]?:=cell_of_row w g i Z t (0,0) h
def di.frozen(h:di w g t Z)(i):w.frozen? ⟨g,i,ah⟩=aq:=by unfold di at h;simp[World.frozen?,h]
def di.new(w:ar)(t Z):di (w.alloc (.cells Z t)) w.heap.size t Z:=heap_alloc_new w _
def di.drew(h:di w g t Z):di w.drew g t Z:=h
def di.alloc(h:di w g t Z)(o):di (w.alloc o) g t Z:=(Below.heap_alloc w o g h.lt).trans h
def di.below{B}(h:di w g t Z)(a:Below B w w')(b:g<B):di w' g t Z:=(a.block g b).trans h
def di.after(h:di w g t Z)(a:Below w.heap.size w w'):di w' g t Z:=h.below a h.lt
def abL(w:ar)(b e f a c d):di (((w.alloc (.cells a b)).alloc (.cells c e)).alloc (.cells d f)) w.heap.size b a/\di (((w.alloc (.cells a b)).alloc (.cells c e)).alloc (.cells d f)) (w.heap.size+1) e c/\di (((w.alloc (.cells a b)).alloc (.cells c e)).alloc (.cells d f)) (w.heap.size+1+1) f d:=⟨((di.new w b a).alloc _).alloc _,by have:=(di.new (w.alloc (.cells a b)) e c).alloc (.cells d f);simpa using this,by have:=di.new ((w.alloc (.cells a b)).alloc (.cells c e)) f d;simpa using this⟩
def abK(w:ar)(b d a c):di ((w.alloc (.cells a b)).alloc (.cells c d)) w.heap.size b a/\di ((w.alloc (.cells a b)).alloc (.cells c d)) (w.heap.size+1) d c:=⟨(di.new w b a).alloc _,by have:=di.new (w.alloc (.cells a b)) d c;simpa using this⟩
end
def BQ{P w r l o a Q}(C:o.guard=ah)(s x t)(L:o.op=.call {callee:=.builtin .append,args:=#[s,x],argTypes:=#[t,t]})(c e i z size d)(N:P.underlying t=af (.slice e))(I:P.info? e=af i)(S:i.zero=af z)(q:i.size=size)(B:i.bytes=d)(E:z.cells.size=size)(D:0<size)(v n F)(M:a.eval s=v)(g:w.ownsRow c e size v n F)(b)(R:a.eval x=.slice (af ⟨w.heap.size,0,ah⟩) 1 1)(K:b.length=size)(H:∀u∈b,u.oneCell'=ak)(A:n+1<=maxLen)(f:(n+1)*d<=140737488355328)(m:c<=w.heap.size)(h:∀y w',w'.ownsRow c e size y (n+1) (F++b)->(w.alloc (.cells b.toArray e)).grownBy w' v.ownBlock->Below c w w'->wpList P r Q l (a.put o.dst y) w'):wpList P r Q (o::l) a (w.alloc (.cells b.toArray e)):=by refine wpList_append_own _ C s x t L c e i z size d N I S q B E D v n F M (g.alloc _) ⟨w.heap.size,0,ah⟩ 1 1 b R (by rw[K,je]) ?_ H A f (by simp;omega) ?_;intro j u O;rw[show(⟨w.heap.size,0,ah⟩:Addr).add j=⟨w.heap.size,j,ah⟩from by unfold Addr.add;split<;>simp_all];rw[cell_of_row _ w.heap.size j b.toArray e (0,0) (heap_alloc_new w _)];simpa using O;intro y w' p G _;refine h y w' p G (((Below.refl c w).alloc m _).grown G (by simp;omega) ?_);intro k J;exact(g.lt k J).1
def Reads(w:ar)(B size:Nat)(A:Option Addr)(n:Nat)(a:List aB):Prop:=a.length=n*size/\(0<n->∃b o,A=af ⟨b,o,ah⟩/\b<B/\∀j u,a[j]? =af u->w.cell? ⟨b,o+j,ah⟩=af u)
section
variable{w w':ar} {B Z size n:Nat} {A:Option Addr} {Y:List aB}
def Reads.keep(h:Reads w B size A n Y)(d:∀b o,b<B->w'.cell? ⟨b,o,ah⟩=w.cell? ⟨b,o,ah⟩):Reads w' B size A n Y:=⟨h.1,λf=>by obtain⟨b,o,e,a,c⟩:=h.2 f;exact⟨b,o,e,a,λj u g=>(d _ _ a).trans (c j u g)⟩⟩
def Reads.below(h:Reads w B size A n Y)(a:Below B w w'):Reads w' B size A n Y:=h.keep λb o hp=>a.cell (p:=⟨b,o,ah⟩) hp
def Reads.oK{a e c}(h:w.ownsRow a e size (.slice A n c) n Y):Reads w w.heap.size size A n Y:=by
 refine⟨h.1,λq=> ?_⟩;rcases h.2 with⟨_,p⟩|⟨g,f,i,o,k,l,_⟩;omega;have b:=(aC.1 l).1;have d:A=af ⟨g,0,ah⟩:=by injection o
 refine⟨g,0,d,b,λj u m=> ?_⟩;have:=h.cells (g:=g) (by rw[d];rfl) j u m;rwa[Addr.add_lit]at this
def Reads.at1{k}(h:Reads w B 1 A n Y)(f:k<n):∃b o u,A=af ⟨b,o,ah⟩/\b<B/\Y[k]? =af u/\w.cell? ⟨b,o+k,ah⟩=af u:=by
 obtain⟨b,o,e,c,d⟩:=h.2 (by omega);have a:k<Y.length:=by have:=h.1;omega
 exact⟨b,o,Y[k],e,c,aj a,d k _ (aj a)⟩
end
def nJ(w:ar)(B:Nat)(A:Option Addr)(n:Nat)(a:List Int):Prop:=Reads w B 1 A n (a.map (aD .i64))
def nJ.len{w B A n a}(h:nJ w B A n a):a.length=n:=by have:=h.1;simpa using this
def nJ.at_{w B A n k c}(h:nJ w B A n c)(g:k<n):∃b o,A=af ⟨b,o,ah⟩/\b<B/\∃h:k<c.length,w.cell? ⟨b,o+k,ah⟩=af (.int .i64 c[k]):=by obtain⟨b,o,u,e,d,a,f⟩:=Reads.at1 h g;have i:=h.len;refine⟨b,o,e,d,by omega,?_⟩;rw[dX,aj (by omega)]at a;simp at a;rw[f,a]
def nX(w:ar)(B:Nat)(v:aB)(a:List Int):Prop:=w.ownsRow B 3 1 v a.length (a.map (aD .i64))
def nX.nil(w B):nX w B (.slice ah 0 0) []:=World.ownsRow_nil _ _ _ _
def nX.form{w B v a}(h:nX w B v a):∃A c,v=.slice A a.length c/\nJ w w.heap.size A a.length a:=by rcases h.2 with⟨rfl,e⟩|⟨g,b,d,rfl,r⟩;have:a=[]:=List.eq_nil_of_length_eq_zero e;subst this;exact⟨ah,0,rfl,by simp,by simp⟩;exact⟨_,_,rfl,Reads.oK (c:=b) h⟩
def nX.kept{w w' B v b}(h:nX w B v b)(a:Below w.heap.size w w'):nX w' B v b:=World.ownsRow.kept (row:=ah) h ⟨a.os,a.tape,a.output,a.size,λk c _=>a.block k c⟩ (by cases v.ownBlock<;>simp)
def QC(w:ar)(a:List Int)(e:Ending)(w':ar):Prop:=∃v,e=.returned v/\nX w' w.heap.size v a/\Below w.heap.size w w'
def Iu:(Tryz.prog.info? 3).map (λi=>(i.zero,i.size,i.bytes))=af (af (.int .i64 0),1,8):=by kernel_rfl
def r6{w f c o a Q}(j:o.guard=ah)(s x)(u:o.op=.call {callee:=.builtin .append,args:=#[s,x],argTypes:=#[32,32]})(b v i)(z:a.eval s=v)(e:nX w b v i)(y)(A:a.eval x=.slice (af ⟨w.heap.size,0,ah⟩) 1 1)(p:i.length+1<=17592186044416)(d:b<=w.heap.size)(h:∀g w',nX w' b g (i++[y])->(w.alloc (.cells #[.int .i64 y] 3)).grownBy w' v.ownBlock->Below b w w'->wpList ai f Q c (a.put o.dst g) w'):wpList ai f Q (o::c) a (w.alloc (.cells #[.int .i64 y] 3)):=by obtain⟨B,k,l,m,n⟩:=info_parts Iu;refine BQ j s x 32 u b 3 B (.int .i64 0) 1 8 underlying32 k l m n rfl (by decide) v i.length _ z e [.int .i64 y] A rfl (by simp[Value.oneCell']) (by unfold maxLen;omega) (by omega) d ?_;intro g w' q r t;exact h g w' (by unfold nX;rw[bm,List.map_append];exact q) r t
structure After(W:ar)where
 w:ar
 below:Below W.heap.size W w
instance (W:ar):Nonempty (After W):=⟨⟨W,Below.refl _ _⟩⟩
def After.cell{W b o v}(h:W.cell? ⟨b,o,ah⟩=af v)(n:After W):n.w.cell? ⟨b,o,ah⟩=af v:=(n.below.cell (p:=⟨b,o,ah⟩) (World.block_lt_of_cell? W _ h)).trans h
def eN{P f args W}{n:After W}{v}(h:Calls P f args n.w λe a=>e=.returned v/\Below n.w.heap.size n.w a):Calls P f args n.w λe b=>e=.returned v/\∃m:After W,b=m.w:=h.mono λ_ a ⟨d,c⟩=>⟨d,⟨a,n.below.trans (c.mono n.below.size)⟩,rfl⟩
def bK{P e Q a w l}(hm:P.follows .mixedOrders=ak)(d:Region.lexB .any l.toArray=ak)(h:wpQuiet P l.toArray (λb=>∃n:After w,b=n.w) (λc=>∀b,(∃n:After w,b=n.w)->Q .normal c b) l a):(Code.region e l.toArray ak).wp P Q a w:=wp_region_quiet (C:=λb=>∃n:After w,b=n.w) hm d ⟨⟨_,(Below.refl _ _).drew⟩,rfl⟩ (by simpa using h)
def tmod_neg(n m:Int)(e:0<m)(h:n.tmod m<0):n.tmod m+m=n % m:=by have c:=Int.tmod_eq_emod (a:=n) (b:=m);have f:=Int.emod_nonneg n (b:=m) (by omega);rw[c]at h|-;split at h;omega;rename_i d;rw[if_neg d];omega
def Tv(n m:Int)(c:0<m)(h:0<=n.tmod m):n.tmod m=n % m:=by have d:=Int.tmod_eq_emod (a:=n) (b:=m);have f:=Int.emod_lt_of_pos n c;rw[d]at h|-;split at h;rename_i e;rw[if_pos e];omega;omega
def Jm(n m w)(a:0<m)(hm:m<=1000000000000):Calls ai 14 #[.int .i64 n,.int .i64 m] w λe d=>e=.returned (.int .i64 (n % m))/\w=d:=by
 have f:n.tmod m<m:=by have:=Int.tmod_lt_of_pos n a;omega
 have g: -m<n.tmod m:=by have:=Int.lt_tmod_of_pos n a;omega
 have b:Hid (n.tmod m<0->n.tmod m+m=n % m):=tmod_neg n m a;have c:Hid (0<=n.tmod m->n.tmod m=n % m):=Tv n m a;go_enter func14,ntmps14
 go_wp2
 go_ret;exact⟨cZ (b.out (by assumption)),rfl⟩;go_ret;exact⟨cZ (c.out (by assumption)),rfl⟩
def IJ(m a b c w):Calls ai 89 #[.int .i64 m,.agg #[.int .i64 a,.int .i64 b,.int .i64 c]] w λe i=>e=.returned (.bool (jJ m a b c))/\Below w.heap.size w i:=by
 by_cases f:bits .and .i64 m a=a
 ·by_cases g:bits .and .i64 m b=0
  ·by_cases h:c=0
   ·have d:Hid (jJ m a b c=ak):=by simp[Hid,jJ,f,g,h]
    subst h;go_enter func89,ntmps89
    go_wp2
    all_goals go_ret
    all_goals exact⟨cG d.out.symm,(Below.refl _ _).alloc (ao _) _⟩
   have d:Hid (jJ m a b c=(c==0||bits .and .i64 m c !=0)):=by simp[Hid,jJ,f,g]
   go_enter func89,ntmps89
   go_wp2
   all_goals go_ret
   all_goals exact⟨cG d.out.symm,(Below.refl _ _).alloc (ao _) _⟩
  have d:Hid (jJ m a b c=aq):=by simp[Hid,jJ,f,g]
  go_enter func89,ntmps89
  go_wp2
  all_goals go_ret
  all_goals exact⟨cG d.out.symm,(Below.refl _ _).alloc (ao _) _⟩
 ·have d:Hid (jJ m a b c=aq):=by simp[Hid,jJ,f]
  go_enter func89,ntmps89
  go_wp2
  all_goals go_ret
  all_goals exact⟨cG d.out.symm,(Below.refl _ _).alloc (ao _) _⟩
def IT:Lib.ntz8tab.size=256:=by decide+kernel
def VD:∀b:Fin 256,(Lib.ntz8tab[b.val]'(by rw[IT];exact b.isLt)).toNat=Xz b.val:=by decide+kernel
def ZC:∀b:Fin 256,Xz b.val<=8:=by decide+kernel
def ZD(b:Nat)(w)(a:b<256):Calls ai 145 #[.int .u8 b] w λe c=>e=.returned (.int .i64 (Xz b))/\w=c:=by
 have d:b<Lib.ntz8tab.size:=by rw[IT];exact a
 have h:Hid (Lib.ntz8tab[b].toNat=Xz b/\Xz b<=8):=⟨VD ⟨b,a⟩,ZC ⟨b,a⟩⟩;clear a;go_enter func145,ntmps145
 go_wp2
 go_ret;refine⟨cZ ?_,rfl⟩;rw[h.out.1];have:=h.out.2;unfold wrap64;omega
def m8(m:Int):Nat:=(m % 256).toNat
def Xo(m):m8 m<256:=by unfold m8;omega
def M7(m):((m8 m:Nat):Int)=m % 256:=by unfold m8;omega
def Eu(k:Nat)(w)(h:k<=20):Calls ai 71 #[.int .i64 k] w λe d=>e=.returned (.int .i64 ((2^k:Nat):Int))/\w=d:=by
 go_enter func71,ntmps71;go_wp2_with fail
 go_loop [3,5] (λn i=>∃j:Nat,j<=k/\i=.int .i64 j/\n=.int .i64 ((2^j:Nat):Int)) (λ_ i=>k-(intOf i).toNat)
 case atStart=>exact⟨0,bH _,rfl,rfl⟩
 case round=>
  obtain⟨j,g,rfl,rfl⟩:=hrel;have f:2^j<=2^20:=Nat.pow_le_pow_right (by omega) (by omega);have hp:Hid (2^(j+1)=2^j*2):=Nat.pow_succ 2 j;generalize a:2^j=x at*;have b:=ae a;clear a;by_cases c:j<k
  ·go_wp2
   go_round
   case rel=>exact⟨j+1,by omega,by go_num,by rw[hp.out];go_num⟩
   simp[intOf];omega
  go_wp2
  go_ret;have:j=k:=by omega
  subst this;exact⟨cZ (by rw[<-b.out];simp),rfl⟩
def lR(m)(k:Nat)(w)(n:k<8):Calls ai 29 #[.int .i64 m,.int .i64 k] w λe b=>e=.returned (.bool ((m8 m).testBit k))/\w=b:=by
 have hm:Hid (((m8 m:Nat):Int)=m % 256):=M7 m;have g:=Xo m;have hp:0<2^k:=Nat.pos_of_ne_zero (by simp);go_enter func29,ntmps29;go_wp2_with fail;refine(Jm m 256 _ (by omega) (by omega)).mono ?_;rintro e b ⟨rfl,rfl⟩;rw[<-hm.out];go_wp2_with fail;refine(Eu k _ (by omega)).mono ?_;rintro e b ⟨rfl,rfl⟩;have i:2^k<=2^7:=Nat.pow_le_pow_right (by omega) (by omega);have h:Hid ((m8 m).testBit k=((m8 m / 2^k) % 2==1)):=by unfold Hid;rw[Nat.testBit_eq_decide_div_mod_eq];rfl
 generalize c:2^k=x at*;have j:=ae c;clear c;go_wp2_with fail;go_ret;refine⟨cG ?_,rfl⟩;rw[h.out];have l:m8 m / x<256:=by have:=Nat.div_le_self (m8 m) x;omega
 have d:((m8 m:Nat):Int) / (x:Int)=((m8 m / x:Nat):Int):=by simp
 rw[d];generalize m8 m / x=y at*;have f:wrap64 (y:Int)=(y:Int):=by unfold wrap64;omega
 rw[f,Int.tmod_eq_emod_of_nonneg (by omega)];rcases Nat.mod_two_eq_zero_or_one y with a|a;have:(y:Int) % 2=0:=by omega
 rw[a,this];rfl;have:(y:Int) % 2=1:=by omega
 rw[a,this];rfl
def ZE:∀n:Fin 256,n.val≠0->bits .and .u8 (n.val:Int) ((n.val:Int)-1)=((low n.val:Nat):Int):=by decide+kernel
def eK(m:Nat):List Int:=(kinds m).map Int.ofNat
def Le(m):(eK m).length<=8:=by unfold eK;rw[List.length_map];exact oh m
def sZ(m w):Calls ai 88 #[.int .i64 m] w (QC w (eK (m8 m))):=by
 have hm:Hid (((m8 m:Nat):Int)=m % 256):=M7 m;have j:=Xo m;go_enter func88,ntmps88;go_wp2_with fail;go_loopw [3,4] (λl b wr=>∃(n:Nat)(f:List Int),n<256/\b=.int .u8 n/\f++eK n=eK (m8 m)/\nX wr w.heap.size l f/\Below w.heap.size w wr) (λ_ b _=>(intOf b).toNat)
 case atStart=>exact⟨m8 m,[],j,by rw[hm.out],rfl,nX.nil _ _,Below.refl _ _⟩
 obtain⟨n,f,k,rfl,a,c,h⟩:=hrel;have t:f.length+(eK n).length<=8:=by have:=congrArg List.length a;have u:=Le (m8 m);simp at this;omega
 have o:=ae a;clear a;by_cases g:n=0
 ·subst g;go_wp2_with fail;go_ret;have a:=o.out;rw[show eK 0=[]from by rw[eK,Lg];rfl,cK]at a;subst a;exact⟨_,rfl,c,h⟩
 have s:((n:Int)==0)=aq:=by simp;omega
 have q:=ae (ZE ⟨n,k⟩ g);obtain⟨p,v⟩:=Lf n k g;have r:=ae p;clear p;go_wp2_with fail;refine(ZD n _ k).mono ?_;rintro e y ⟨rfl,rfl⟩;go_wp2_with (at_builtin;refine r6 rfl _ _ rfl w.heap.size _ f rfl c _ rfl ?_ ?_ ?_)
 case refine_1=>omega
 case refine_2=>exact h.size
 intro x z d _ i;go_wp2_with fail;go_roundw
 case rel=>refine⟨low n,f++[Int.ofNat (Xz n)],by omega,?_,?_,d,h.trans i⟩;rw[q.out];rw[<-o.out];show _=f++(kinds n).map Int.ofNat;rw[r.out];simp[eK]
 rw[q.out];simp[intOf];omega
def US(A y n r c G d a w B E)(h:nJ w B A n d)(s:nJ w E y r a)(J:n<=maxLen)(v:r<=maxLen):Calls ai 17 #[.slice A n c,.slice y r G] w λe L=>e=.returned (.bool (decide (d=a)))/\w=L:=by
 unfold maxLen at J v;have D:=ae h.len;have l:=ae s.len;have H:=ae h;have F:=ae s;clear h s;by_cases p:n=r
 ·subst p;go_enter func17,ntmps17;go_wp2_with fail
  go_loop [14] (λi=>∃k:Nat,k<=n/\i=.int .i64 k/\d.take k=a.take k) (λi=>n-(intOf i).toNat)
  case atStart=>exact⟨0,bH _,rfl,by simp⟩
  obtain⟨k,O,rfl,q⟩:=hrel;have z:=ae q;clear q;by_cases m:k<n
  ·obtain⟨b,o,rfl,_,u,N⟩:=H.out.at_ m;obtain⟨M,P,rfl,_,j,I⟩:=F.out.at_ m;by_cases g:d[k]=a[k]
   ·have x:(d[k] !=a[k])=aq:=by simpa using g
    have f:Hid (d.take (k+1)=a.take (k+1)):=by unfold Hid;rw[aV u,aV j,z.out,g]
    clear g
    go_wp2
    go_round
    case rel=>exact⟨k+1,by omega,by go_num,f.out⟩
    simp[intOf];omega
   have x:(d[k] !=a[k])=ak:=by simpa using g
   have f:Hid (decide (d=a)=aq):=by unfold Hid;rw[decide_eq_false_iff_not];rintro rfl;exact g rfl
   clear g
   go_wp2
   go_ret;exact⟨cG f.out.symm,rfl⟩
  have t:k=n:=by omega
  subst t;have f:Hid (decide (d=a)=ak):=by have C:=z.out;rw[cA (by rw[D.out];omega),cA (by rw[l.out];omega)]at C;unfold Hid;rw[C];simp
  go_wp2
  go_ret;exact⟨cG f.out.symm,rfl⟩
 ·have K:((n:Int) !=r)=ak:=by simp;omega
  have f:Hid (decide (d=a)=aq):=by unfold Hid;rw[decide_eq_false_iff_not];rintro rfl;exact p (D.out.symm.trans l.out)
  go_enter func17,ntmps17
  go_wp2
  go_ret;exact⟨cG f.out.symm,rfl⟩
def RX(x:Int)(a:List Int):Int:=if x∈a then(a.idxOf x:Int)else-1
def Y5{x a}{k:Nat}(g:k<a.length)(h:∀j,j<k->a.getD j 0≠x)(e:a.getD k 0=x):RX x a=k:=by
 have hm:x∈a:=by rw[<-e];simp[bu,g]
 unfold RX;rw[if_pos hm];congr 1;have f:a.idxOf x<a.length:=List.idxOf_lt_length_of_mem hm;have m:a[a.idxOf x]=x:=List.getElem_idxOf f;have l:a[k]=x:=by rw[<-e];simp[bu,g]
 rcases Nat.lt_trichotomy (a.idxOf x) k with d|b|c;exact absurd (by rw[show a.getD (a.idxOf x) 0=a[a.idxOf x]by simp[bu,f]];exact m) (h _ d);exact b;exfalso;have:=List.not_of_lt_findIdx (p:=(· ==x)) (xs:=a) (i:=k) c;simp[l]at this
def RY{x a}(h:∀j,j<a.length->a.getD j 0≠x):RX x a= -1:=by unfold RX;rw[if_neg];intro hm;obtain⟨i,b,e⟩:=bR.1 hm;exact h i b (by simp[bu,b,e])
def K4(A c a x w)(h:nJ w w.heap.size A a.length a)(E:a.length<=maxLen):Calls ai 91 #[.slice A a.length c,.int .i64 x] w λe t=>e=.returned (.int .i64 (RX x a))/\w=t:=by
 have H:=ae h;have F:(a.length:Int)<=9223372036854775807:=by unfold maxLen at E;omega
 clear h;go_enter func91,ntmps91;go_wp2_with fail;go_loopw [8] (λi t=>∃k:Nat,k<=a.length/\i=.int .i64 k/\(∀j,j<k->a.getD j 0≠x)/\w=t) (λi _=>a.length-(intOf i).toNat)
 case atStart=>exact⟨0,by omega,rfl,λj C=>by omega,rfl⟩
 case round=>
  obtain⟨k,G,rfl,d,rfl⟩:=hrel;have b:=ae d;clear d;by_cases m:k<a.length
  ·have D:(k:Int)<a.length:=by omega
   obtain⟨g,o,rfl,B,u,z⟩:=H.out.at_ m;have p:Hid (a.getD k 0=a[k]):=by simp[Hid,bu,aj m]
   have l:Hid (a[k]=x->RX x a=k):=λh=>Y5 m b.out (p.out.trans h)
   generalize a[k]=y at*;by_cases n:x=y
   ·have f:Hid (RX x a=k):=l.out n.symm;have s:(x==y)=ak:=by simpa using n
    clear n l;go_wp2_with fail;go_ret;exact⟨cZ f.out.symm,rfl⟩
   have s:(x==y)=aq:=by simpa using n
   have v:Hid (y≠x):=λe=>n e.symm
   clear n l;go_wp2_with fail;go_roundw
   case rel=>refine⟨k+1,by omega,by go_num,λj C=> ?_,trivial⟩;by_cases q:j=k;rw[q,p.out];exact v.out;exact b.out j (by omega)
   simp[intOf];omega
  have r:k=a.length:=by omega
  subst r;have f:Hid (RX x a= -1):=RY b.out;go_wp2_with fail;go_ret;exact⟨cZ f.out.symm,rfl⟩
def C9(A c a x w)(h:nJ w w.heap.size A a.length a)(g:a.length<=maxLen):Calls ai 40 #[.slice A a.length c,.int .i64 x] w λe b=>e=.returned (.bool (decide (x∈a)))/\w=b:=by
 have d:=ae (K4 A c a x w h g);have f:Hid (decide (0<=RX x a)=decide (x∈a)):=by unfold Hid RX;split<;>rename_i hm<;>simp[hm]
 clear h;generalize RX x a=y at*;go_enter func40,ntmps40;go_wp2_with fail;refine d.out.mono ?_;rintro e b ⟨rfl,rfl⟩;go_wp2_with fail;go_ret;exact⟨cG f.out,rfl⟩
def ints(a:List Int):Array aB:=(a.map (aD .i64)).toArray
def aR(a):(ints a).size=a.length:=by simp[ints]
def jT(a)(i:Nat):(ints a)[i]? =a[i]?.map (aD .i64):=by simp[ints]
def ints_at{a}{i:Nat}(h):(ints a)[i]? =af (.int .i64 a[i]):=by rw[jT,aj h];rfl
def ints_set(a i x):(ints a).setIfInBounds i (.int .i64 x)=ints (a.set i x):=by unfold ints;rw[List.setIfInBounds_toArray,List.map_set]
def Iv{c d}(h:ints c=ints d):c=d:=by have g:=List.map_inj_right (f:=aD .i64) (l:=c) (l':=d) (λa b e=>by injection e);exact g.1 (by simpa[ints]using h)
def ib(a):(ints a).toList=a.map (aD .i64):=by simp[ints]
def row?(w:ar)(g o n:Nat):Option (Array aB):=
 match w.heap[g]? with|some (.cells a _ _)=>if o+n<=a.size then af (a.extract o (o+n))else ah|_=>ah
def di.row{w g t a}(h:di w g t a)(o n)(b:o+n<=a.size):row? w g o n=af (a.extract o (o+n)):=by unfold di at h;simp[row?,h,b]
def di.aL{w g t xs}(h:di w g t (ints xs)){n}(a:xs.length=n):row? w g 0 n=af (ints xs):=by rw[di.row h 0 n (by rw[aR];omega),bN,<-a,<-aR,Array.extract_size]
def di.dy{w g t a}(h:di w g t (ints a))(o n)(b:o+n<=a.length):row? w g o n=af (ints ((a.drop o).take n)):=by rw[di.row h o n (by rw[aR];omega)];congr 1;apply oq;rw[Array.toList_extract,ib,ib,List.extract_eq_take_drop,gV,List.map_take,List.map_drop]
def di.set{w g t a}(h:di w g t a)(i v):di (w.setCell ⟨g,i,ah⟩ v) g t (a.setIfInBounds i v):=by unfold di at h|-;simp[World.setCell,bp,h]
def di.Da{w g g' t b}(h:di w g t b)(a:g≠g')(i v):di (w.setCell ⟨g',i,ah⟩ v) g t b:=(Below.heap_setCell w ⟨g',i,ah⟩ v g a).trans h
def iX(t:cD)(a:Addr):Sem aB:=loadVar t a
section
variable{P:br}
def xN(w g o a t c)(d:w.heap[g]? =af (.cells a t c))(n)(f:o+n<=a.size):(loadCells ⟨g,o,ah⟩ n).run P w=.ok (a.extract o (o+n)) w:=by
 have h:=run_loadCells_list (P:=P) w ⟨g,o,ah⟩ (a.extract o (o+n)).toList (λj v b=>by rw[Addr.add_lit,cell_of_row w g (o+j) a t c d];rw[Array.getElem?_toList]at b;rw[Array.getElem?_extract]at b;split at b;exact b;cases b)
 have e:(a.extract o (o+n)).toList.length=n:=by simp;omega
 rw[e,Array.toArray_toList]at h;exact h
def yW(w:ar)(b:cD)(g o n:Nat)(d:TypeDesc)(r:P.underlying b=af d)(s:(match d with|.struct _|.array _ _=>ak|_=>aq)=ak)(j:(P.info? b).map (·.size)=af n):(loadVar b ⟨g,o,ah⟩).run P w=match row? w g o n with|some h=>.ok (.agg h) w|none=>(iX b ⟨g,o,ah⟩).run P w:=by
 split;rename_i h a;unfold row? at a;split at a;rename_i e t k l;split at a;rename_i p;have m:=xN (P:=P) w g o e t k l n p;cases f:P.info? b with
 |none=>simp[f]at j|some i=>
  have q:i.size=n:=by simpa[f]using j
  have c:(isAgg b).run P w=.ok ak w:=by unfold isAgg;rw[eJ,run_underlying r w];cases d<;>simp_all
  simp only[dS]at a;simp[loadVar,eJ,c,sizeOf,typeInfo,f,q,m,a]
 cases a;cases a;rfl
end
def fG(t:cD)(v:aB):Sem aB:=eo t v
def fits(w:ar)(g o n:Nat):Bool:=
 match w.heap[g]? with|some (.cells a _ (0,0))=>decide (o+n<=a.size)|_=>aq
def putRow(w:ar)(g o:Nat)(b:List Int):ar:=
 {w with heap:=w.heap.modify g λ
    |.cells a e c=>.cells (a.toList.take o++b.map (aD .i64)++a.toList.drop (o+b.length)).toArray e c|o=>o}
def dq(t:cD)(p v:aB):Sem Unit:=fg t p v
def ey(t:cD)(g o:Nat)(v:aB):Sem Unit:=storeVar t ⟨g,o,ah⟩ v
def di.fits{w:ar}{g:Nat}{t:cD}{a:Array aB}(h:di w g t a)(o n:Nat)(b:o+n<=a.size):fits w g o n=ak:=by unfold di at h;unfold Go.Proofs.YtknejlcijdngoaaGreat.fits;rw[h];simpa using b
def di.put{w g t b}(h:di w g t (ints b))(o a):di (putRow w g o a) g t (ints (b.take o++a++b.drop (o+a.length))):=by unfold di at h|-;simp[putRow,bp,h,ib];simp[ints]
def di.dY{w g t ys}(h:di w g t (ints ys))(a)(b:a.length=ys.length):di (putRow w g 0 a) g t (ints a):=by have:=h.put 0 a;rwa[List.take_zero,de,bN,b,List.drop_length,cK]at this
@[go_sem] theorem Rt(w:ar)(a t o n):Go.Proofs.YtknejlcijdngoaaGreat.fits (w.alloc (.cells a t)) w.heap.size o n=decide (o+n<=a.size):=by have h:(w.alloc (.cells a t)).heap[w.heap.size]? =af (.cells a t (0,0)):=heap_alloc_new w _;unfold Go.Proofs.YtknejlcijdngoaaGreat.fits;rw[h];rfl
attribute [go_sem] aR
@[go_sem] theorem abf(w g o n):row? w.drew g o n=row? w g o n:=rfl
@[go_sem] theorem aah(w g o n):Go.Proofs.YtknejlcijdngoaaGreat.fits w.drew g o n=Go.Proofs.YtknejlcijdngoaaGreat.fits w g o n:=rfl
@[go_sem] theorem putRow_drew(w g o a):putRow w.drew g o a=(putRow w g o a).drew:=rfl
def fF(w g o a k)(h:k≠g):(putRow w g o a).heap[k]? =w.heap[k]?:=by simp[putRow,bp,Ne.symm h]
def di.wA{w g g' t b}(h:di w g t b)(o c)(a:g≠g'):di (putRow w g' o c) g t b:=(fF w g' o c g a).trans h
def jD(w g o a):(putRow w g o a).heap.size=w.heap.size:=by simp[putRow]
def lP{B a w}(h:Below B a w){g}(c:B<=g)(o b):Below B a (putRow w g o b):=h.trans ⟨rfl,rfl,rfl,by rw[jD];exact ao _,λk d=>fF w g o b k (by omega)⟩
section
variable{P:br}
def fV(w:ar)(a:cD)(g o n:Nat)(d:TypeDesc)(f:P.underlying a=af d)(c:(match d with|.struct _|.array _ _=>ak|_=>aq)=ak)(e:(P.info? a).map (·.size)=af n):(fG a (.pointer (af ⟨g,o,ah⟩))).run P w=match row? w g o n with|some b=>.ok (.agg b) w|none=>(iX a ⟨g,o,ah⟩).run P w:=yW w a g o n d f c e
def gZ(w d g o n a)(p:(P.info? d).map (·.size)=af n):(dq d (.pointer (af ⟨g,o,ah⟩)) (.agg (ints a))).run P w=if fits w g o n=ak/\a.length=n then .ok () (putRow w g o a)else(ey d g o (.agg (ints a))).run P w:=by
 split;rename_i h;obtain⟨c,s⟩:=h;unfold fits at c;split at c;rename_i l e m;have t:o+n<=l.size:=by simpa using c
 cases f:P.info? d with
 |none=>simp[f]at p|some i=>
  have u:i.size=n:=by simpa[f]using p
  have j:=run_storeCells_at P g o e (a.map (aD .i64)) 0 l w m (by simp;omega) (by intro v r;obtain⟨x,_,rfl⟩:=aA.1 r;rfl);have b:(ints a).size=i.size:=by rw[aR];omega
  simp only[dq,fg,Instr.sureAddr,storeVar,eJ,sizeOf,typeInfo,run_program,gG,f,Sem.run_pure,iJ,b,ne_eq,not_true_eq_false,if_false,ib,j];congr 1;unfold putRow World.setRow;congr 1;apply Array.ext_getElem?;intro k;rw[bp,bp];split;rename_i q;subst q;rw[m];simp;rfl
 cases c;rfl
end
def iT(w:ar)(t b a)(c:a.length=b.length):di (putRow (w.alloc (.cells (ints b) t)) w.heap.size 0 a) w.heap.size t (ints a):=(di.new w t (ints b)).dY a c
def fy(w t b a):Below w.heap.size w (putRow (w.alloc (.cells (ints b) t)) w.heap.size 0 a):=lP ((Below.refl _ _).alloc (ao _) _) (ao _) _ _
def rY{P:br}{e:Func}{p u:Tmp}{c:cD}(h:e.results=#[.cell p c,.tmp u])(a:Array aB)(w:ar)(g:Nat)(t:cD)(b:Array aB)(f:Nat×Nat)(d:TypeDesc)(hp:a.getD p undef=.pointer (af ⟨g,0,ah⟩))(j:w.heap[g]? =af (.cells b t f))(l:P.underlying c=af d)(i:(match d with|.struct _|.array _ _=>ak|_=>aq)=ak)(k:(P.info? c).map (·.size)=af b.size):(results e a).run P w=.ok (.tuple #[.agg b,a.getD u undef]) w:=by rw[results_cell_tmp h,hp];simp[asAddr,run_loadVar_row w g t c b f d j l i k]
def aZ{P:br}{f:Func}{R:Ending->ar->Prop}{a:Act}{w:ar}{p u:Tmp}{e:cD}(h:f.results=#[.cell p e,.tmp u])(g:Nat)(t:cD)(b:Array aB)(x:aB)(d:TypeDesc)(hp:a.tmps.getD p undef=.pointer (af ⟨g,0,ah⟩))(n:a.tmps.getD u undef=x)(k:di w g t b)(m:P.underlying e=af d)(j:(match d with|.struct _|.array _ _=>ak|_=>aq)=ak)(l:(P.info? e).map (·.size)=af b.size)(c:a.defers=[])(i:R (.returned (.tuple #[.agg b,x])) w):bodyPost P f R .ret a w:=bodyPost_ret (by rw[rY h a.tmps w g t b (0,0) d hp k m j l,n]) c i
def kP{P:br}{f:Func}{R:Ending->ar->Prop}{a:Act}{w:ar}{p:Tmp}{e:cD}(h:f.results=#[.cell p e])(g:Nat)(t:cD)(b:Array aB)(d:TypeDesc)(hp:a.tmps.getD p undef=.pointer (af ⟨g,0,ah⟩))(k:di w g t b)(m:P.underlying e=af d)(j:(match d with|.struct _|.array _ _=>ak|_=>aq)=ak)(l:(P.info? e).map (·.size)=af b.size)(c:a.defers=[])(i:R (.returned (.agg b)) w):bodyPost P f R .ret a w:=bodyPost_ret (results_cell_row h a.tmps w g t b (0,0) d hp k m j l) c i
def a6{P}{c:Code}{Q a w}(R:ar->Prop)(d:R w)(h:∀b,R b->c.wp P Q a b):c.wp P Q a w:=h w d
def vO(P:br)(a:cD->Bool):List Field->Nat->Option Nat|[],acc=>af acc|f::b,acc=>if(f.name != "_" &&decide (f.offset=acc)&&a f.type)=ak then vO P a b (acc+P.cellsOf f.type)else ah
def qg(P:br):Nat->cD->Bool
 |0,_=>aq|n+1,t=>match P.underlying t with|some (.int .i64)=>decide (P.cellsOf t=1)|some (.struct a)=> !P.stoodInHeld t&&(P.info? t).isSome&&decide (vO P (qg P n) a.toList 0=af (P.cellsOf t))|some (.array m e)=>(P.info? e).isSome&&(P.info? t).isSome&&qg P n e&&decide (P.cellsOf t=m*P.cellsOf e)|_=>aq
def valOf(P:br)(t:cD)(a:List Int):aB:=match P.underlying t with|some (.int _)=>.int .i64 (a.getD 0 0)|_=>.agg (ints a)
def o4(b:List Int)(a n:Nat):List Int:=(b.drop a).take n
def uf{b a n}(h:a+n<=b.length):(o4 b a n).length=n:=by simp[o4];omega
def Nw(b a n m):o4 b a (n+m)=o4 b a n++o4 b (a+n) m:=by unfold o4;rw[List.take_add,List.drop_drop]
def Bw{xs ys a n m}(d:a+n<=xs.length)(e:a+n<=ys.length):o4 xs a (n+m)=o4 ys a (n+m)↔o4 xs a n=o4 ys a n/\o4 xs (a+n) m=o4 ys (a+n) m:=by rw[Nw,Nw];constructor;intro h;exact List.append_inj h (by rw[uf d,uf e]);rintro⟨b,c⟩;rw[b,c]
def zq(a):o4 a 0 a.length=a:=by simp[o4]
section
variable{P:br}
def oj(w n t f o)(c:qg P n t=ak)(l:o+P.cellsOf t<=f.length):(part t (ints f) o).run P w=.ok (valOf P t (o4 f o (P.cellsOf t))) w:=by
 cases n with
 |zero=>simp[qg]at c|succ n=>
  have g:∀d,P.underlying t=af d->(match d with|.struct _|.array _ _=>ak|_=>aq)=ak->(P.info? t).isSome=ak->(part t (ints f) o).run P w=.ok (.agg (ints (o4 f o (P.cellsOf t)))) w:=by
   intro d b s k;have a:(isAgg t).run P w=.ok ak w:=by unfold isAgg;rw[eJ,run_underlying b w];cases d<;>simp_all
   obtain⟨i,j⟩:=Option.isSome_iff_exists.1 k;have h:P.cellsOf t=i.size:=by simp[Program.cellsOf,j]
   simp[part,eJ,a,sizeOf,typeInfo,j,h];apply oq;rw[Array.toList_extract,ib,ib,List.extract_eq_take_drop,gV,o4,List.map_take,List.map_drop]
  unfold qg at c;split at c;rename_i b;have h:P.cellsOf t=1:=by simpa using c
  rw[h]at l|-;have a:(isAgg t).run P w=.ok aq w:=by unfold isAgg;rw[eJ,run_underlying b w];rfl
  have p:(ints f)[o]? =af (.int .i64 (f[o]'(by omega))):=ints_at (by omega);have q:(o4 f o 1).getD 0 0=f[o]'(by omega):=by simp only[o4,bu,gF,Nat.zero_lt_one,if_true,List.getElem?_drop,Nat.add_zero];rw[aj (by omega)];rfl
  simp[part,eJ,a,p,valOf,b];simpa using q.symm;rename_i r b;simp only[ay]at c;rw[g _ b rfl c.1.2];simp[valOf,b];rename_i m e b;simp only[ay]at c;rw[g _ b rfl c.1.1.2];simp[valOf,b];cases c
def decide_and{p q}[Decidable p][Decidable q]:decide (p/\q)=(decide p&&decide q):=by by_cases hp:p<;>by_cases a:q<;>simp[hp,a]
def ur(n d a b)(k:∀t a b w,qg P n t=ak->a.length=P.cellsOf t->b.length=P.cellsOf t->(Op.equalIn (d+n) t (valOf P t a) (valOf P t b)).run P w=.ok (decide (a=b)) w):∀c acc e w,vO P (qg P n) c acc=af e->e<=a.length->e<=b.length->acc<=e/\(Op.eqFields (d+n) (ints a) (ints b) c).run P w=.ok (decide (o4 a acc (e-acc)=o4 b acc (e-acc))) w
 |[],acc,e,w,h,_,_=>by simp only[vO,dS]at h;subst h;exact⟨ao _,by simp[Op.eqFields,o4]⟩|f::c,acc,e,w,h,hx,hy=>by
  unfold vO at h;split at h;rename_i j;simp only[ay,bne_iff_ne,ne_eq,decide_eq_true_eq]at j;obtain⟨⟨r,s⟩,g⟩:=j;obtain⟨q,u⟩:=ur n d a b k c _ e w h hx hy;have i:e-acc=P.cellsOf f.type+(e-(acc+P.cellsOf f.type)):=by omega
  refine⟨by omega,?_⟩;have l:=oj (P:=P) w n f.type a acc g (by omega);have m:=oj (P:=P) w n f.type b acc g (by omega);have o:=k f.type (o4 a acc (P.cellsOf f.type)) (o4 b acc (P.cellsOf f.type)) w g (uf (by omega)) (uf (by omega));have p:decide (o4 a acc (e-acc)=o4 b acc (e-acc))=(decide (o4 a acc (P.cellsOf f.type)=o4 b acc (P.cellsOf f.type))&&decide (o4 a (acc+P.cellsOf f.type) (e-(acc+P.cellsOf f.type))=o4 b (acc+P.cellsOf f.type) (e-(acc+P.cellsOf f.type)))):=by rw[<-decide_and,i];exact decide_eq_decide.2 (Bw (by omega) (by omega))
  rw[p];simp only[Op.eqFields,s,ne_eq,r,not_false_eq_true,if_true,eJ,l,m,o,gG];cases decide (o4 a acc (P.cellsOf f.type)=o4 b acc (P.cellsOf f.type));simp;simpa using u;cases h
def tM:∀n d t xs ys w,qg P n t=ak->xs.length=P.cellsOf t->ys.length=P.cellsOf t->(Op.equalIn (d+n) t (valOf P t xs) (valOf P t ys)).run P w=.ok (decide (xs=ys)) w
 |0,_,_,_,_,_,h,_,_=>by simp[qg]at h|n+1,d,t,xs,ys,w,l,hx,hy=>by
  have S:=tM n d;unfold qg at l;split at l;rename_i q;have o:P.cellsOf t=1:=by simpa using l
  rw[o]at hx hy
  match xs,hx,ys,hy with
  |[x],_,[y],_=>
   have r:∀z,valOf P t [z]=.int .i64 z:=λz=>by simp[valOf,q]
   rw[r,r,<-kg,run_equalIn_int w _ t .i64 .i64 x y q];congr 1;rw[fj];simp
  rename_i M q;simp only[ay,Bool.not_eq_true',decide_eq_true_eq]at l;obtain⟨⟨C,_⟩,D⟩:=l;have Q:P.fieldsOf t=M:=by simp[Program.fieldsOf,q]
  have r:∀z,valOf P t z=.agg (ints z):=λz=>by simp[valOf,q]
  rw[r,r,<-kg,run_equalIn_struct w (d+n) t (ints xs) (ints ys) (by rw[Q];exact q) C,Q];obtain⟨_,s⟩:=ur n d xs ys (λV K L W=>S V K L W) M.toList 0 _ w D (by omega) (by omega);rw[s,Nat.sub_zero];congr 1;rw[<-hx,zq,hx,<-hy,zq];rename_i m e q;simp only[ay,decide_eq_true_eq]at l;obtain⟨⟨⟨U,_⟩,l⟩,o⟩:=l;obtain⟨i,R⟩:=Option.isSome_iff_exists.1 U;have f:P.cellsOf e=i.size:=by simp[Program.cellsOf,R]
  have r:∀z,valOf P t z=.agg (ints z):=λz=>by simp[valOf,q]
  rw[r,r,<-kg];simp only[Op.equalIn,eJ,run_underlying q,gG,sizeOf,typeInfo,run_program,R,Sem.run_pure];simp only[Std.Legacy.Range.forIn_eq_forIn_range',Std.Legacy.Range.size,Nat.sub_zero,Nat.add_one_sub_one,Nat.div_one];have J:∀(k a:Nat),a+k<=m->(Sem.run P (forIn (fL a k 1) ((ah,()):Option Bool×Unit) λB T=>do
   let b<-part e (ints xs) (B*i.size)
   let c<-part e (ints ys) (B*i.size)
   let b<-Op.equalIn (d+n) e b c
   if(!b)=ak then pure (ForInStep.done (af aq,()))else pure (ForInStep.yield (ah,()))) w)=
   .ok (if o4 xs (a*i.size) (k*i.size)=o4 ys (a*i.size) (k*i.size)then(ah,())else(af aq,())) w:=by
   intro k
   induction k with
   |zero=>intro a _;simp[o4]|succ k I=>
    intro a X;have j:a*i.size+i.size<=m*i.size:=by rw[<-Nat.succ_mul];exact fh _ (by omega)
    have C:=oj (P:=P) w n e xs (a*i.size) l (by rw[hx,o,f];exact j);have D:=oj (P:=P) w n e ys (a*i.size) l (by rw[hy,o,f];exact j);have N:=S e (o4 xs (a*i.size) (P.cellsOf e)) (o4 ys (a*i.size) (P.cellsOf e)) w l (uf (by rw[hx,o,f];exact j)) (uf (by rw[hy,o,f];exact j));have g:=Bw (xs:=xs) (ys:=ys) (a:=a*i.size) (n:=i.size) (m:=k*i.size) (by rw[hx,o,f];exact j) (by rw[hy,o,f];exact j);rw[f]at C D N;have A:(k+1)*i.size=i.size+k*i.size:=by rw[Nat.succ_mul,Nat.add_comm]
    have u:(a+1)*i.size=a*i.size+i.size:=Nat.succ_mul _ _;rw[List.range'_succ,List.forIn_cons,A];simp only[eJ,C,D,N,gG];by_cases p:o4 xs (a*i.size) i.size=o4 ys (a*i.size) i.size;have v:=I (a+1) (by omega);rw[u]at v;simp only[p,decide_true,Bool.not_true,dg,if_false,Sem.run_pure,gG,v];congr 1;by_cases s:o4 xs (a*i.size+i.size) (k*i.size)=o4 ys (a*i.size+i.size) (k*i.size);rw[if_pos s,if_pos (g.2 ⟨p,s⟩)];rw[if_neg s,if_neg (λh=>s (g.1 h).2)];rw[if_neg (λh=>p (g.1 h).1)];simp[p]
  rw[J m 0 (by omega),Nat.zero_mul];have G:m*i.size=xs.length:=by rw[hx,o,f]
  have H:m*i.size=ys.length:=by rw[hy,o,f]
  have E:o4 xs 0 (m*i.size)=xs:=by rw[G,zq]
  have F:o4 ys 0 (m*i.size)=ys:=by rw[H,zq]
  rw[E,F];by_cases O:xs=ys;simp[O];simp[O];cases l
def Gq(n t a b w)(i:n<=10000)(e:qg P n t=ak)(c:valOf P t []=.agg (ints []))(f:a.length=P.cellsOf t)(g:b.length=P.cellsOf t):(binOp .eql t (.agg (ints a)) (.agg (ints b))).run P w=.ok (.bool (decide (a=b))) w:=by
 have d:∀z,valOf P t z=.agg (ints z):=by intro z;unfold valOf at c|-;split at c;cases c;rfl
 have h:=tM (P:=P) n (10000-n) t a b w e f g;rw[d,d,show 10000-n+n=10000 from by omega]at h;rw[run_eql_struct,h];rfl
def wL(n t a b w)(i:n<=10000)(e:qg P n t=ak)(c:valOf P t []=.agg (ints []))(f:a.length=P.cellsOf t)(g:b.length=P.cellsOf t):(binOp .neq t (.agg (ints a)) (.agg (ints b))).run P w=.ok (.bool (!decide (a=b))) w:=by
 have d:∀z,valOf P t z=.agg (ints z):=by intro z;unfold valOf at c|-;split at c;cases c;rfl
 have h:=tM (P:=P) n (10000-n) t a b w e f g;rw[d,d,show 10000-n+n=10000 from by omega]at h;rw[run_neq_struct,h];rfl
end
def EZ:(Tryz.prog.info? 46).map (·.size)=af 8:=by kernel_rfl
@[go_sem ↓] theorem Xn(v):eo 46 v=fG 46 v:=rfl
@[go_sem ↓] theorem Wo(p v):fg 46 p v=dq 46 p v:=rfl
@[go_sem] theorem Ud(w:ar)(g o:Nat):(fG 46 (.pointer (af ⟨g,o,ah⟩))).run ai w=match row? w g o 8 with|some a=>.ok (.agg a) w|none=>(iX 46 ⟨g,o,ah⟩).run ai w:=fV w _ g o 8 _ underlying46 rfl EZ
@[go_sem] theorem Bt(w g o a):(dq 46 (.pointer (af ⟨g,o,ah⟩)) (.agg (ints a))).run ai w=if fits w g o 8=ak/\a.length=8 then .ok () (putRow w g o a)else(ey 46 g o (.agg (ints a))).run ai w:=gZ w _ g o 8 a EZ
@[go_sem] theorem L4(w g o a b c d e f i j):(dq 46 (.pointer (af ⟨g,o,ah⟩)) (.agg #[.int .i64 a,.int .i64 b,.int .i64 c,.int .i64 d,.int .i64 e,.int .i64 f,.int .i64 i,.int .i64 j])).run ai w=if fits w g o 8=ak then .ok () (putRow w g o [a,b,c,d,e,f,i,j])else(ey 46 g o (.agg (ints [a,b,c,d,e,f,i,j]))).run ai w:=by have h:=Bt w g o [a,b,c,d,e,f,i,j];simp only[ax,aM,Nat.reduceAdd,and_true]at h;exact h
def lI:(Tryz.prog.info? 48).map (·.size)=af 9:=by kernel_rfl
@[go_sem ↓] theorem Vs(v):eo 48 v=fG 48 v:=rfl
@[go_sem ↓] theorem Uh(p v):fg 48 p v=dq 48 p v:=rfl
@[go_sem] theorem S9(w:ar)(g o:Nat):(fG 48 (.pointer (af ⟨g,o,ah⟩))).run ai w=match row? w g o 9 with|some a=>.ok (.agg a) w|none=>(iX 48 ⟨g,o,ah⟩).run ai w:=fV w _ g o 9 _ underlying48 rfl lI
@[go_sem] theorem yX(w g o a):(dq 48 (.pointer (af ⟨g,o,ah⟩)) (.agg (ints a))).run ai w=if fits w g o 9=ak/\a.length=9 then .ok () (putRow w g o a)else(ey 48 g o (.agg (ints a))).run ai w:=gZ w _ g o 9 a lI
@[go_sem] theorem Kk(w g o a b c d e f i j k):(dq 48 (.pointer (af ⟨g,o,ah⟩)) (.agg #[.int .i64 a,.int .i64 b,.int .i64 c,.int .i64 d,.int .i64 e,.int .i64 f,.int .i64 i,.int .i64 j,.int .i64 k])).run ai w=if fits w g o 9=ak then .ok () (putRow w g o [a,b,c,d,e,f,i,j,k])else(ey 48 g o (.agg (ints [a,b,c,d,e,f,i,j,k]))).run ai w:=by have h:=yX w g o [a,b,c,d,e,f,i,j,k];simp only[ax,aM,Nat.reduceAdd,and_true]at h;exact h
def AU:(Tryz.prog.info? 52).map (·.size)=af 3:=by kernel_rfl
@[go_sem ↓] theorem Vu(v):eo 52 v=fG 52 v:=rfl
@[go_sem ↓] theorem Uj(p v):fg 52 p v=dq 52 p v:=rfl
@[go_sem] theorem Tb(w:ar)(g o:Nat):(fG 52 (.pointer (af ⟨g,o,ah⟩))).run ai w=match row? w g o 3 with|some a=>.ok (.agg a) w|none=>(iX 52 ⟨g,o,ah⟩).run ai w:=fV w _ g o 3 _ underlying52 rfl AU
@[go_sem] theorem yZ(w g o a):(dq 52 (.pointer (af ⟨g,o,ah⟩)) (.agg (ints a))).run ai w=if fits w g o 3=ak/\a.length=3 then .ok () (putRow w g o a)else(ey 52 g o (.agg (ints a))).run ai w:=gZ w _ g o 3 a AU
@[go_sem] theorem Km(w g o a b c):(dq 52 (.pointer (af ⟨g,o,ah⟩)) (.agg #[.int .i64 a,.int .i64 b,.int .i64 c])).run ai w=if fits w g o 3=ak then .ok () (putRow w g o [a,b,c])else(ey 52 g o (.agg (ints [a,b,c]))).run ai w:=by have h:=yZ w g o [a,b,c];simp only[ax,aM,Nat.reduceAdd,and_true]at h;exact h
def JQ:(Tryz.prog.info? 54).map (·.size)=af 7:=by kernel_rfl
def EU:Tryz.prog.cellsOf 54=7:=by kernel_rfl
@[go_sem ↓] theorem Za(v):eo 54 v=fG 54 v:=rfl
@[go_sem ↓] theorem Xx(p v):fg 54 p v=dq 54 p v:=rfl
@[go_sem] theorem V7(w:ar)(g o:Nat):(fG 54 (.pointer (af ⟨g,o,ah⟩))).run ai w=match row? w g o 7 with|some a=>.ok (.agg a) w|none=>(iX 54 ⟨g,o,ah⟩).run ai w:=fV w _ g o 7 _ underlying54 rfl JQ
@[go_sem] theorem Dr(w g o a):(dq 54 (.pointer (af ⟨g,o,ah⟩)) (.agg (ints a))).run ai w=if fits w g o 7=ak/\a.length=7 then .ok () (putRow w g o a)else(ey 54 g o (.agg (ints a))).run ai w:=gZ w _ g o 7 a JQ
@[go_sem] theorem Nv(w g o a b c d e f i):(dq 54 (.pointer (af ⟨g,o,ah⟩)) (.agg #[.int .i64 a,.int .i64 b,.int .i64 c,.int .i64 d,.int .i64 e,.int .i64 f,.int .i64 i])).run ai w=if fits w g o 7=ak then .ok () (putRow w g o [a,b,c,d,e,f,i])else(ey 54 g o (.agg (ints [a,b,c,d,e,f,i]))).run ai w:=by have h:=Dr w g o [a,b,c,d,e,f,i];simp only[ax,aM,Nat.reduceAdd,and_true]at h;exact h
def bW:(Tryz.prog.info? 43).map (·.size)=af 2:=by kernel_rfl
def vW:Tryz.prog.cellsOf 43=2:=by kernel_rfl
@[go_sem ↓] theorem T8(v):eo 43 v=fG 43 v:=rfl
@[go_sem ↓] theorem Tm(p v):fg 43 p v=dq 43 p v:=rfl
@[go_sem] theorem Qv(w:ar)(g o:Nat):(fG 43 (.pointer (af ⟨g,o,ah⟩))).run ai w=match row? w g o 2 with|some a=>.ok (.agg a) w|none=>(iX 43 ⟨g,o,ah⟩).run ai w:=fV w _ g o 2 _ underlying43 rfl bW
@[go_sem] theorem xP(w g o a):(dq 43 (.pointer (af ⟨g,o,ah⟩)) (.agg (ints a))).run ai w=if fits w g o 2=ak/\a.length=2 then .ok () (putRow w g o a)else(ey 43 g o (.agg (ints a))).run ai w:=gZ w _ g o 2 a bW
@[go_sem] theorem Jv(w g o a b):(dq 43 (.pointer (af ⟨g,o,ah⟩)) (.agg #[.int .i64 a,.int .i64 b])).run ai w=if fits w g o 2=ak then .ok () (putRow w g o [a,b])else(ey 43 g o (.agg (ints [a,b]))).run ai w:=by have h:=xP w g o [a,b];simp only[ax,aM,Nat.reduceAdd,and_true]at h;exact h
def mJ(a b)(c:a.length=2)(d:b.length=2)(w):(binOp .eql 43 (.agg (ints a)) (.agg (ints b))).run ai w=.ok (.bool (decide (a=b))) w:=Gq 5 _ a b w (by decide) (by kernel_rfl) (by kernel_rfl) (by rw[vW];exact c) (by rw[vW];exact d)
def qF:(Tryz.prog.info? 50).map (·.size)=af 11:=by kernel_rfl
def EI:Tryz.prog.cellsOf 50=11:=by kernel_rfl
@[go_sem ↓] theorem Y'(v):eo 50 v=fG 50 v:=rfl
@[go_sem ↓] theorem Xw(p v):fg 50 p v=dq 50 p v:=rfl
@[go_sem] theorem V6(w:ar)(g o:Nat):(fG 50 (.pointer (af ⟨g,o,ah⟩))).run ai w=match row? w g o 11 with|some a=>.ok (.agg a) w|none=>(iX 50 ⟨g,o,ah⟩).run ai w:=fV w _ g o 11 _ underlying50 rfl qF
@[go_sem] theorem Dq(w g o a):(dq 50 (.pointer (af ⟨g,o,ah⟩)) (.agg (ints a))).run ai w=if fits w g o 11=ak/\a.length=11 then .ok () (putRow w g o a)else(ey 50 g o (.agg (ints a))).run ai w:=gZ w _ g o 11 a qF
@[go_sem] theorem Nu(w g o b c d e f i j k l m a):(dq 50 (.pointer (af ⟨g,o,ah⟩)) (.agg #[.int .i64 b,.int .i64 c,.int .i64 d,.int .i64 e,.int .i64 f,.int .i64 i,.int .i64 j,.int .i64 k,.int .i64 l,.int .i64 m,.int .i64 a])).run ai w=if fits w g o 11=ak then .ok () (putRow w g o [b,c,d,e,f,i,j,k,l,m,a])else(ey 50 g o (.agg (ints [b,c,d,e,f,i,j,k,l,m,a]))).run ai w:=by have h:=Dq w g o [b,c,d,e,f,i,j,k,l,m,a];simp only[ax,aM,Nat.reduceAdd,and_true]at h;exact h
def VB(a b)(c:a.length=11)(d:b.length=11)(w):(binOp .neq 50 (.agg (ints a)) (.agg (ints b))).run ai w=.ok (.bool (!decide (a=b))) w:=wL 5 _ a b w (by decide) (by kernel_rfl) (by kernel_rfl) (by rw[EI];exact c) (by rw[EI];exact d)
def DD:(Tryz.prog.info? 45).map (·.size)=af 4:=by kernel_rfl
def zO:Tryz.prog.cellsOf 45=4:=by kernel_rfl
@[go_sem ↓] theorem Xl(v):eo 45 v=fG 45 v:=rfl
@[go_sem ↓] theorem Wm(p v):fg 45 p v=dq 45 p v:=rfl
@[go_sem] theorem Ub(w:ar)(g o:Nat):(fG 45 (.pointer (af ⟨g,o,ah⟩))).run ai w=match row? w g o 4 with|some a=>.ok (.agg a) w|none=>(iX 45 ⟨g,o,ah⟩).run ai w:=fV w _ g o 4 _ underlying45 rfl DD
@[go_sem] theorem Bs(w g o a):(dq 45 (.pointer (af ⟨g,o,ah⟩)) (.agg (ints a))).run ai w=if fits w g o 4=ak/\a.length=4 then .ok () (putRow w g o a)else(ey 45 g o (.agg (ints a))).run ai w:=gZ w _ g o 4 a DD
@[go_sem] theorem L3(w g o a b c d):(dq 45 (.pointer (af ⟨g,o,ah⟩)) (.agg #[.int .i64 a,.int .i64 b,.int .i64 c,.int .i64 d])).run ai w=if fits w g o 4=ak then .ok () (putRow w g o [a,b,c,d])else(ey 45 g o (.agg (ints [a,b,c,d]))).run ai w:=by have h:=Bs w g o [a,b,c,d];simp only[ax,aM,Nat.reduceAdd,and_true]at h;exact h
def Sv(a b)(c:a.length=4)(d:b.length=4)(w):(binOp .neq 45 (.agg (ints a)) (.agg (ints b))).run ai w=.ok (.bool (!decide (a=b))) w:=wL 5 _ a b w (by decide) (by kernel_rfl) (by kernel_rfl) (by rw[zO];exact c) (by rw[zO];exact d)
def Ng:(Tryz.prog.info? 74).map (·.size)=af 16:=by kernel_rfl
def IW:Tryz.prog.cellsOf 74=16:=by kernel_rfl
@[go_sem ↓] theorem aai(v):eo 74 v=fG 74 v:=rfl
@[go_sem ↓] theorem Zy(p v):fg 74 p v=dq 74 p v:=rfl
@[go_sem] theorem Xv(w:ar)(g o:Nat):(fG 74 (.pointer (af ⟨g,o,ah⟩))).run ai w=match row? w g o 16 with|some a=>.ok (.agg a) w|none=>(iX 74 ⟨g,o,ah⟩).run ai w:=fV w _ g o 16 _ underlying74 rfl Ng
@[go_sem] theorem Gr(w g o a):(dq 74 (.pointer (af ⟨g,o,ah⟩)) (.agg (ints a))).run ai w=if fits w g o 16=ak/\a.length=16 then .ok () (putRow w g o a)else(ey 74 g o (.agg (ints a))).run ai w:=gZ w _ g o 16 a Ng
@[go_sem] theorem PX(w g o i j k l m n p q r s a b c d e f):(dq 74 (.pointer (af ⟨g,o,ah⟩)) (.agg #[.int .i64 i,.int .i64 j,.int .i64 k,.int .i64 l,.int .i64 m,.int .i64 n,.int .i64 p,.int .i64 q,.int .i64 r,.int .i64 s,.int .i64 a,.int .i64 b,.int .i64 c,.int .i64 d,.int .i64 e,.int .i64 f])).run ai w=if fits w g o 16=ak then .ok () (putRow w g o [i,j,k,l,m,n,p,q,r,s,a,b,c,d,e,f])else(ey 74 g o (.agg (ints [i,j,k,l,m,n,p,q,r,s,a,b,c,d,e,f]))).run ai w:=by have h:=Gr w g o [i,j,k,l,m,n,p,q,r,s,a,b,c,d,e,f];simp only[ax,aM,Nat.reduceAdd,and_true]at h;exact h
def AP:(Tryz.prog.info? 132).map (·.size)=af 2:=by kernel_rfl
@[go_sem ↓] theorem Vt(v):eo 132 v=fG 132 v:=rfl
@[go_sem ↓] theorem Ui(p v):fg 132 p v=dq 132 p v:=rfl
@[go_sem] theorem Ta(w:ar)(g o:Nat):(fG 132 (.pointer (af ⟨g,o,ah⟩))).run ai w=match row? w g o 2 with|some a=>.ok (.agg a) w|none=>(iX 132 ⟨g,o,ah⟩).run ai w:=fV w _ g o 2 _ underlying132 rfl AP
@[go_sem] theorem yY(w g o a):(dq 132 (.pointer (af ⟨g,o,ah⟩)) (.agg (ints a))).run ai w=if fits w g o 2=ak/\a.length=2 then .ok () (putRow w g o a)else(ey 132 g o (.agg (ints a))).run ai w:=gZ w _ g o 2 a AP
@[go_sem] theorem Kl(w g o a b):(dq 132 (.pointer (af ⟨g,o,ah⟩)) (.agg #[.int .i64 a,.int .i64 b])).run ai w=if fits w g o 2=ak then .ok () (putRow w g o [a,b])else(ey 132 g o (.agg (ints [a,b]))).run ai w:=by have h:=yY w g o [a,b];simp only[ax,aM,Nat.reduceAdd,and_true]at h;exact h
def Ai(a)(k:Nat)(d:k<8)(e:a.length=8)(w):(Instr.index 46 (.agg (ints a)) (.int .i64 k)).run ai w=.ok (.int .i64 (a.getD k 0)) w:=by
 have h:(ints a)[k]? =af (.int .i64 (a.getD k 0)):=by rw[ints_at (by omega)];simp[bu,aj (show k<a.length by omega)]
 have c:(sizeOf 3).run ai w=.ok 1 w:=by kernel_rfl
 have hp:(part 3 (ints a) k).run ai w=.ok (.int .i64 (a.getD k 0)) w:=by
  have b:(isAgg 3).run ai w=.ok aq w:=by kernel_rfl
  simp[part,eJ,b,h]
 unfold Instr.index;simp only[asIntOf,eJ,Sem.run_pure,gG,run_underlying underlying46];rw[if_pos (by omega)];simp only[eJ,c,gG,bP,Nat.mul_one,hp]
def MT:∀d b j(a:Array aB),b+j+d.length<=a.size->((d.zipIdx j).foldl (λacc x=>acc.setIfInBounds (b+x.2) x.1) a).toList=a.toList.take (b+j)++d++a.toList.drop (b+j+d.length)
 |[],b,j,a,_=>by simp|c::d,b,j,a,h=>by
  rw[List.zipIdx_cons,List.foldl_cons];rw[ax]at h;rw[MT d b (j+1) _ (by simp;omega)];simp only[Array.toList_setIfInBounds];have e:(a.toList.take (b+j)).length=b+j:=by rw[cR];simp;omega
  have k:a.toList=a.toList.take (b+j)++a.toList[b+j]'(by simp;omega)::a.toList.drop (b+j+1):=by rw[<-List.drop_eq_getElem_cons,List.take_append_drop]
  have f:(a.toList.set (b+j) c)=a.toList.take (b+j)++c::a.toList.drop (b+j+1):=by
   conv=>lhs;rw[k]
   rw[List.set_append_right _ _ (by omega),e,Nat.sub_self,List.set_cons_zero]
  rw[f];have g:(a.toList.take (b+j)++c::a.toList.drop (b+j+1)).take (b+(j+1))=a.toList.take (b+j)++[c]:=by rw[List.take_append,e,cA (by omega),show b+(j+1)-(b+j)=1 from by omega];rfl
  have i:(a.toList.take (b+j)++c::a.toList.drop (b+j+1)).drop (b+(j+1)+d.length)=a.toList.drop (b+j+(d.length+1)):=by rw[List.drop_append,e,List.drop_of_length_le (by omega),de,show b+(j+1)+d.length-(b+j)=d.length+1 from by omega,List.drop_succ_cons,List.drop_drop];congr 1;omega
  rw[g,i,ax,b9,b9,b9];rfl
def zc(d a:Array aB)(b:Nat)(h:b+d.size<=a.size):(d.zipIdx.foldl (λacc(c,j)=>acc.setIfInBounds (b+j) c) a)=(a.toList.take b++d.toList++a.toList.drop (b+d.size)).toArray:=by apply oq;rw[<-Array.foldl_toList,Array.toList_zipIdx];have:=MT d.toList b 0 a (by simpa using h);simpa using this
def xj(b:Nat->Option (Nat×Nat))(z a:Array aB)(i d m:Nat)(e:List (Nat×aB))(hp:b i=af (d,m))(g:a.size=m)(h:d+m<=z.size):fN b z ((i,.agg a)::e)=fN b (a.zipIdx.foldl (λacc(c,j)=>acc.setIfInBounds (d+j) c) z) e:=by
 rw[fN,hp];have f:(decide ((Value.agg a).cells.size≠m)||decide (d+(Value.agg a).cells.size>z.size))=aq:=by show(decide (a.size≠m)||decide (d+a.size>z.size))=aq;simp;omega
 simp only[f];rfl
def kC(t:cD)(parts:Array (Nat×aB)):Sem aB:=gB t 1 parts
def qH(t:cD)(a:Array aB):Sem aB:=gB t 1 #[(0,.agg a)]
def mg{P}(w t e n z a)(k:P.underlying t=af (.slice e))(j:(sizeOf e).run P w=.ok n w)(l:(zeroValue e).run P w=.ok (.agg z) w)(m:z.size=n)(o:0<n)(T5:n<=1000):(kC t #[(0,.agg a)]).run P w=if a.size=n then .ok (.slice (af ⟨w.heap.size,0,ah⟩) 1 1) (w.alloc (.cells a e))else(qH t a).run P w:=by
 split;rename_i d;have c:((oY (1*n)).map (z[· % z.size]!)).size=n:=by simp
 have h:fN (λi=>af (i*n,n)) ((oY (1*n)).map (z[· % z.size]!)) [(0,Value.agg a)]=af a:=by rw[xj (λi=>af (i*n,n)) _ a 0 (0*n) n [] rfl d (by rw[c];omega),fN,Nat.zero_mul,zc a _ 0 (by rw[c];omega)];congr 1;apply oq;simp[d]
 unfold kC gB;have f:¬(1*n>2^24):=by omega
 have g:¬(1*n=0):=by omega
 simp only[eJ,run_underlying k,gG,j,if_neg f,if_neg g,l,Sem.run_pure,iJ,List.getElem_toArray];have b:fN (λi=>af (i*n,n)) ((oY (1*n)).map (z[· % z.size]!)) #[(0,Value.agg a)].toList=af a:=h;simp only[b,eJ,newRow];rfl;rfl
@[go_sem ↓] theorem aak(parts):gB 33 1 parts=kC 33 parts:=rfl
@[go_sem] theorem Ue(w a):(kC 33 #[(0,.agg a)]).run ai w=if a.size=11 then .ok (.slice (af ⟨w.heap.size,0,ah⟩) 1 1) (w.alloc (.cells a 50))else(qH 33 a).run ai w:=mg w _ _ 11 (cj 11 (aD .i64 0)).toArray a underlying33 (by kernel_rfl) (by kernel_rfl) rfl (by decide) (by decide)
@[go_sem ↓] theorem Zw(parts):gB 34 1 parts=kC 34 parts:=rfl
@[go_sem] theorem Td(w a):(kC 34 #[(0,.agg a)]).run ai w=if a.size=4 then .ok (.slice (af ⟨w.heap.size,0,ah⟩) 1 1) (w.alloc (.cells a 45))else(qH 34 a).run ai w:=mg w _ _ 4 (cj 4 (aD .i64 0)).toArray a underlying34 (by kernel_rfl) (by kernel_rfl) rfl (by decide) (by decide)
@[go_sem ↓] theorem Wj(parts):gB 122 1 parts=kC 122 parts:=rfl
@[go_sem] theorem PW(w a):(kC 122 #[(0,.agg a)]).run ai w=if a.size=2 then .ok (.slice (af ⟨w.heap.size,0,ah⟩) 1 1) (w.alloc (.cells a 43))else(qH 122 a).run ai w:=mg w _ _ 2 (cj 2 (aD .i64 0)).toArray a underlying122 (by kernel_rfl) (by kernel_rfl) rfl (by decide) (by decide)
@[go_sem] theorem Xk(a b):ints a++ints b=ints (a++b):=by unfold ints;simp
def aaX(z a c m n)(l:z.size=m+n)(f:a.size=m)(k:c.size=n)(b)(h:b 0=af (0,m))(i:b 1=af (m,n)):fN b z [(0,.agg a),(1,.agg c)]=af (a++c):=by
 rw[xj b z a 0 0 m _ h f (by omega)];have g:(a.zipIdx.foldl (λacc(c,j)=>acc.setIfInBounds (0+j) c) z).size=m+n:=by rw[zc a z 0 (by omega)];simp;omega
 rw[xj b _ c 1 m n _ i k (by rw[g];omega),fN,zc c _ m (by rw[g];omega),zc a z 0 (by omega)];congr 1;apply oq;simp only[List.take_zero,de,bN,Array.toList_append];have d:a.toList.length=m:=by simpa using f
 have e:(z.toList.drop a.size).length=n:=by rw[List.length_drop];simp;omega
 rw[List.take_left' d,List.drop_of_length_le (by rw[bm,d,e];omega),cK]
def nA(t:cD)(parts:Array (Nat×aB)):Sem aB:=Instr.build t parts
def xS(t:cD)(parts:Array (Nat×aB)):Sem aB:=Instr.build t parts
def uD{P}(w t m n z a c b d)(j:P.underlying t=af (.struct #[b,d]))(f:(sizeOf b.type).run P w=.ok m w)(g:(sizeOf d.type).run P w=.ok n w)(l:b.offset=0)(o:d.offset=m)(k:(zeroValue t).run P w=.ok (.agg z) w)(e:z.size=m+n):(nA t #[(0,.agg a),(1,.agg c)]).run P w=if a.size=m/\c.size=n then .ok (.agg (a++c)) w else(xS t #[(0,.agg a),(1,.agg c)]).run P w:=by split;rename_i h;unfold nA Instr.build;simp[eJ,k,run_underlying j,f,g,iJ,l,o];have:=aaX z a c m n e h.1 h.2 (λi=>[(0,m),(m,n)][i]?) rfl rfl;rw[this];rfl;rfl
@[go_sem ↓] theorem aag(parts):Instr.build 50 parts=nA 50 parts:=rfl
@[go_sem] theorem S7(w):(nA 50 #[]).run ai w=.ok (.agg (ints [0,0,0,0,0,0,0,0,0,0,0])) w:=by kernel_rfl
@[go_sem] theorem Ua(w a c):(nA 50 #[(0,.agg a),(1,.agg c)]).run ai w=if a.size=2/\c.size=9 then .ok (.agg (a++c)) w else(xS 50 #[(0,.agg a),(1,.agg c)]).run ai w:=uD w _ 2 9 (cj 11 (aD .i64 0)).toArray a c _ _ underlying50 (by kernel_rfl) (by kernel_rfl) rfl rfl (by kernel_rfl) rfl
@[go_sem ↓] theorem Ye(parts):Instr.build 45 parts=nA 45 parts:=rfl
@[go_sem] theorem Qu(w):(nA 45 #[]).run ai w=.ok (.agg (ints [0,0,0,0])) w:=by kernel_rfl
@[go_sem] theorem S8(w a c):(nA 45 #[(0,.agg a),(1,.agg c)]).run ai w=if a.size=2/\c.size=2 then .ok (.agg (a++c)) w else(xS 45 #[(0,.agg a),(1,.agg c)]).run ai w:=uD w _ 2 2 (cj 4 (aD .i64 0)).toArray a c _ _ underlying45 (by kernel_rfl) (by kernel_rfl) rfl rfl (by kernel_rfl) rfl
@[go_sem] theorem aaj(w k g o n):row? (w.drewN k) g o n=row? w g o n:=rfl
@[go_sem] theorem Yo(w k g o n):Go.Proofs.YtknejlcijdngoaaGreat.fits (w.drewN k) g o n=Go.Proofs.YtknejlcijdngoaaGreat.fits w g o n:=rfl
@[go_sem] theorem Xt(a b c):(#[aD .i64 a,.int .i64 b]:Array aB)++ints c=ints (a::b::c):=by unfold ints;apply oq;simp
def fR(w:ar)(B size:Nat)(A:Option Addr)(a:List (List Int)):Prop:=(∀r∈a,r.length=size)/\(0<a.length->∃b o,A=af ⟨b,o,ah⟩/\b<B/\∀k r,a[k]? =af r->row? w b (o+k*size) size=af (ints r))
def iP{w a B g}(b:Below B w a)(c:g<B)(o n):row? a g o n=row? w g o n:=by unfold row?;rw[b.block g c]
def fR.below{w w' B size A c}(h:fR w B size A c)(f:Below B w w'):fR w' B size A c:=⟨h.1,λd=>by obtain⟨b,o,e,a,g⟩:=h.2 d;exact⟨b,o,e,a,λk r i=>(iP f a _ _).trans (g k r i)⟩⟩
def fR.more{w B a size A c}(h:fR w B size A c)(i:B<=a):fR w a size A c:=⟨h.1,λd=>by obtain⟨b,o,e,g,f⟩:=h.2 d;exact⟨b,o,e,by omega,f⟩⟩
def fR.at_{w B size A c}(h:fR w B size A c){k}(f):∃b o,A=af ⟨b,o,ah⟩/\b<B/\row? w b (o+k*size) size=af (ints c[k]):=by obtain⟨b,o,e,a,d⟩:=h.2 (by omega);exact⟨b,o,e,a,d k _ (aj f)⟩
def ki(size:Nat)(a:List Int)(n:Nat):List (List Int):=(bB n).map λk=>(a.drop (k*size)).take size
def kp(size a n):(ki size a n).length=n:=by simp[ki]
def nZ{size b n}(h:b.length=n*size):∀r∈ki size b n,r.length=size:=by intro r d;obtain⟨k,c,rfl⟩:=aA.1 d;have a:k+1<=n:=eS.1 c;have:=fh size a;rw[Nat.add_mul,je]at this;rw[cR,List.length_drop];omega
def yk{size a n}:∀r∈ki size a n,∀x∈r,x∈a:=by intro r b x c;obtain⟨k,_,rfl⟩:=aA.1 b;exact List.mem_of_mem_drop (List.mem_of_mem_take c)
def Gl{w b o n r}(q:r.length=n)(p:0<n)(h:∀j x,r[j]? =af x->w.cell? ⟨b,o+j,ah⟩=af (.int .i64 x)):row? w b o n=af (ints r):=by have a:=h (n-1) _ (aj (by omega));unfold da at a;unfold row?;split at a;rename_i e t f c;simp only at c;rw[c];simp only at a|-;have k:=(aC.1 a).1;rw[if_pos (by omega)];congr 1;apply Array.ext;simp[aR];omega;intro i l d;rw[aR]at d;have:=h i _ (aj d);rw[cell_of_row w b (o+i) e t f c]at this;obtain⟨m,g⟩:=aC.1 this;simp[ints,g];cases a
def Reads.chunks{w B size A n d}(h:Reads w B size A n (d.map (aD .i64)))(s:0<size):fR w B size A (ki size d n):=by
 have l:d.length=n*size:=by have:=h.1;simpa using this
 refine⟨nZ l,λi=> ?_⟩;rw[kp]at i;obtain⟨b,o,e,m,p⟩:=h.2 i;refine⟨b,o,e,m,λk r f=> ?_⟩;have q:k<n:=by have:=(bg.1 f).1;rwa[kp]at this
 have a:=nZ l r (kO f);refine Gl a s λj x c=> ?_
 have g:(d.drop (k*size)).take size=r:=by simpa[ki,q]using f
 rw[<-g,gF]at c;split at c;rw[List.getElem?_drop]at c;have:=p (k*size+j) (.int .i64 x) (by rw[dX,c];rfl);rwa[kg];cases c
def gW(a b:List (List Int)):Bool:=decide (a=b)
def Dp(n:Nat)(e:n<=1000000)(w):(Instr.makeSlice 32 (.int .i64 n) (.int .i64 n)).run ai w=.ok (.slice (af ⟨w.heap.size,0,ah⟩) n n) (w.alloc (.cells (ints (cj n 0)) 3)):=by
 obtain⟨i,b,d,c,a⟩:∃i,Tryz.prog.info? 3=af i/\i.zero=af (.int .i64 0)/\i.size=1/\i.bytes=8:=by
  have:=Iu;cases h:Tryz.prog.info? 3 with|none=>rw[h]at this;cases this|some i=>rw[h]at this;simp at this;exact⟨i,rfl,this⟩
 rw[run_make w _ _ i _ underlying32 b d .i64 .i64 n n (by omega) (by omega) (by rw[a];omega) (by omega)];congr 2;have:=toList_madeCells_one (.int .i64 0) ((n:Int).toNat*i.size);congr 1;apply oq;rw[ib,show(aD .i64 0).cells=#[.int .i64 0]from rfl,this,c];simp
def nX.AF{w B g a}(h:di w g 3 (ints a))(b:B<=g)(c:a.length<=maxLen):nX w B (.slice (af ⟨g,0,ah⟩) a.length a.length) a:=⟨by simp,cc ⟨g,a.length,ints a,rfl,b,h,ao _,c,by simp[aR],by rw[ib];exact cA (by simp)⟩⟩
def cW:Sys:=⟨⟨0,0,0⟩,0,0,0,0⟩
def pT(w:ar)(B:Nat)(A:Option Addr)(a:List Sys):Prop:=fR w B 7 A (a.map Sys.list)
def pT.at_{w B A c}(h:pT w B A c){k}(d:k<c.length):∃b o,A=af ⟨b,o,ah⟩/\b<B/\row? w b (o+k*7) 7=af (ints (c.getD k cW).list):=by obtain⟨b,o,e,a,f⟩:=fR.at_ h (k:=k) (by simpa using d);refine⟨b,o,e,a,?_⟩;rw[f,List.getElem_map];simp[bu,aj d]
def pT.below{w w' B A a}(h:pT w B A a)(b:Below B w w'):pT w' B A a:=fR.below h b
def Tx(r:List Int):Sys:=⟨⟨r.getD 0 0,r.getD 1 0,r.getD 2 0⟩,r.getD 3 0,r.getD 4 0,r.getD 5 0,r.getD 6 0⟩
def BI{r}(h:r.length=7):(Tx r).list=r:=by
 match r,h with|[_,_,_,_,_,_,_],_=>rfl
def gq(a:List Sys)(p:List Int)(s:Sys):Nat->Int|0=>0|k+1=>if gi s (a.getD k cW)then max (gq a p s k) (p.getD k 0+1)else gq a p s k
def cm(a:List Sys):Nat->List Int|0=>[]|i+1=>cm a i++[gq a (cm a i) (a.getD i cW) i]
def dL(a:List Sys):List Int×Int:=if 20<a.length then([],2)else if fS (a.map dH)=0 then(cm a a.length,0)else([],fS (a.map dH))
def eZ(a):∀i,(cm a i).length=i|0=>rfl|i+1=>by simp[cm,eZ a i]
def wx{a p q s}:∀i,(∀k,k<i->p.getD k 0=q.getD k 0)->gq a p s i=gq a q s i|0,_=>rfl|i+1,h=>by unfold gq;rw[wx i λk b=>h k (by omega),h i (by omega)]
def xH(a):∀n i,i<=n->∀k,k<i->(cm a n).getD k 0=(cm a i).getD k 0|0,i,h,k,hk=>by omega|n+1,i,h,k,hk=>by by_cases b:i=n+1;rw[b];rw[<-xH a n i (by omega) k hk];simp only[cm,bu,List.getElem?_append];rw[if_pos (by rw[eZ];omega)]
def wy(ss n i)(h:i<n):(cm ss n).getD i 0=gq ss (cm ss n) (ss.getD i cW) i:=by
 rw[xH ss n (i+1) (by omega) i (by omega)];have:(cm ss (i+1)).getD i 0=gq ss (cm ss i) (ss.getD i cW) i:=by simp[cm,bu,List.getElem?_append,eZ]
 rw[this];exact wx i λk a=>(xH ss n i (by omega) k a).symm
def xG{ss p s}:∀i,0<=gq ss p s i/\∀k,k<i->gi s (ss.getD k cW)=ak->p.getD k 0+1<=gq ss p s i|0=>⟨by simp[gq],λk d=>by omega⟩|i+1=>by obtain⟨e,c⟩:=xG (ss:=ss) (p:=p) (s:=s) i;unfold gq;split;refine⟨by omega,λk d a=> ?_⟩;by_cases b:k=i;subst b;omega;have:=c k (by omega) a;omega;rename_i f;refine⟨e,λk d a=> ?_⟩;by_cases b:k=i;subst b;exact absurd a f;exact c k (by omega) a
def ua{ss p s}:∀i,gq ss p s i=0\/∃k,k<i/\gi s (ss.getD k cW)=ak/\gq ss p s i=p.getD k 0+1
 |0=>bq rfl|i+1=>by have c:=ua (ss:=ss) (p:=p) (s:=s) i;unfold gq;split;rename_i d;by_cases hm:gq ss p s i<=p.getD i 0+1;exact cc ⟨i,by omega,d,by omega⟩;rcases c with h|⟨k,e,a,b⟩;rw[h]at hm|-;exact bq (by omega);exact cc ⟨k,by omega,a,by omega⟩;rcases c with h|⟨k,e,a,b⟩;exact bq h;exact cc ⟨k,by omega,a,b⟩
def zi(ss n):∀i,i<n->0<=(cm ss n).getD i 0/\(cm ss n).getD i 0<=i:=by
 intro i
 induction i using lj with
 |ind i c=>intro a;rw[wy ss n i a];refine⟨(xG i).1,?_⟩;rcases ua (ss:=ss) (p:=cm ss n) (s:=ss.getD i cW) i with h|⟨k,b,_,h⟩;omega;have:=(c k b (by omega)).2;omega
def AA(a:List Sys)(p:List Int)(i:Nat):Nat->Bool|0=>p.getD i 0==0|k+1=>AA a p i k||(gi (a.getD k cW) (a.getD i cW)&&p.getD k 0==p.getD i 0-1)
def xA{b p i}:∀k,(p.getD i 0=0\/∃j,j<k/\gi (b.getD j cW) (b.getD i cW)=ak/\p.getD j 0=p.getD i 0-1)->AA b p i k=ak
 |0,h=>by rcases h with h|⟨j,e,_⟩;simp only[AA,h];rfl;omega
 |k+1,h=>by unfold AA;rcases h with h|⟨j,e,c,d⟩;rw[xA k (bq h),Bool.true_or];by_cases a:j=k;subst a;rw[c,d];simp;rw[xA k (cc ⟨j,by omega,c,d⟩),Bool.true_or]
def I3(ss)(n:∀s∈ss,dH s=0)(f:∀s:Sys,dH s=0->ck s.read=ak/\ck s.write=ak)(i)(c:i<ss.length):(∀k,k<i->gi (ss.getD k cW) (ss.getD i cW)=ak->(cm ss ss.length).getD k 0<(cm ss ss.length).getD i 0)/\AA ss (cm ss ss.length) i i=ak/\(∀k,k<ss.length->k≠i->(cm ss ss.length).getD k 0=(cm ss ss.length).getD i 0->gi (ss.getD k cW) (ss.getD i cW)=aq):=by
 have d:∀k,k<ss.length->ss.getD k cW∈ss:=λk b=>by simp[bu,aj b]
 have a:∀j k,j<ss.length->k<ss.length->gi (ss.getD j cW) (ss.getD k cW)=gi (ss.getD k cW) (ss.getD j cW):=by intro j k w b;obtain⟨o,q⟩:=f _ (n _ (d j w));obtain⟨r,t⟩:=f _ (n _ (d k b));exact KE r t o q
 have g:∀i,i<ss.length->∀k,k<i->gi (ss.getD k cW) (ss.getD i cW)=ak->(cm ss ss.length).getD k 0<(cm ss ss.length).getD i 0:=by intro i c k b l;rw[wy ss ss.length i c];have:=(xG (ss:=ss) (p:=cm ss ss.length) (s:=ss.getD i cW) i).2 k b (by rw[a i k c (by omega)];exact l);omega
 refine⟨g i c,xA i ?_,?_⟩;have e:=wy ss ss.length i c;rcases ua (ss:=ss) (p:=cm ss ss.length) (s:=ss.getD i cW) i with h|⟨k,b,u,v⟩;exact bq (e.trans h);refine cc ⟨k,b,by rw[a k i (by omega) c];exact u,?_⟩;rw[e,v];omega;intro k b m x;cases l:gi (ss.getD k cW) (ss.getD i cW)with
 |false=>rfl|true=>exfalso;rcases Nat.lt_or_gt_of_ne m with h|h;have:=g i c k h l;omega;have:=g k b i h (by rw[a i k c b];exact l);omega
def yn{b:List Sys}{i}(e:i<b.length)(h:∀k,k<i->dH (b.getD k cW)=0)(c:dH (b.getD i cW)≠0):fS (b.map dH)=dH (b.getD i cW):=by
 induction b generalizing i with
 |nil=>simp at e|cons a l f=>
  cases i with|zero=>simp only[List.getD_cons_zero]at c|-;rw[gg,fS,if_neg c]|succ i=>have d:=h 0 (by omega);simp only[List.getD_cons_zero]at d;simp only[List.getD_cons_succ]at c|-;rw[gg,fS,if_pos d];exact f (by simpa using e) (λk g=>by simpa using h (k+1) (by omega)) c
def uu{b:List Sys}(h:∀k,k<b.length->dH (b.getD k cW)=0):fS (b.map dH)=0:=by
 induction b with|nil=>rfl|cons a l e=>have c:=h 0 (by simp);simp only[List.getD_cons_zero]at c;rw[gg,fS,if_pos c];exact e λk d=>by simpa using h (k+1) (by simpa using d)
def qk(m w):Calls ai 103 #[.int .i64 m] w λe b=>e=.returned (.bool (ck m))/\w=b:=by
 by_cases h:0<=m
 ·have a:Hid (ck m=decide (m<=255)):=by simp[Hid,ck,h]
  go_enter func103,ntmps103
  go_wp2
  go_ret;exact⟨cG a.out.symm,rfl⟩
 have a:Hid (ck m=aq):=by simp[Hid,ck,h]
 have c:m<0:=by omega
 clear h;go_enter func103,ntmps103
 go_wp2
 go_ret;exact⟨cG a.out.symm,rfl⟩
def sH(b)(r:b.v.length=8)(w):Calls ai 46 #[.agg (ints b.list)] w λe z=>e=.returned (.int .i64 (bx b))/\Below w.heap.size w z:=by
 have M:(ints b.list)[0]? =af (.int .i64 b.k):=rfl;have C:row? (w.alloc (.cells (ints b.list) 48)) w.heap.size 1 8=af (ints b.v):=by rw[(di.new w 48 (ints b.list)).dy 1 8 (by simp[bw.list,r])];simp[bw.list,<-r]
 have D:=ae r;clear r;by_cases h:ck b.k=ak
 ·have L:0<=b.k/\b.k<=255:=by simpa[ck]using h
  have G:Hid (((b.k.toNat:Nat):Int)=b.k):=by unfold Hid;omega
  have u:b.k.toNat<256:=by omega
  have t:=ae (mY b h);have s:=ae (λj v=>sD b j v h);go_enter func46,ntmps46;go_wp2_with fail;refine(qk b.k _).mono ?_;rintro e z ⟨rfl,rfl⟩;rw[h];clear h;go_wp2_with fail
  go_loop [11] (λi=>∃k:Nat,k<=8/\i=.int .i64 k/\∀j,j<k->gK b j=0) (λi=>8-(intOf i).toNat)
  case atStart=>exact⟨0,by omega,rfl,by omega⟩
  obtain⟨k,I,rfl,A⟩:=hrel;have q:=ae A;clear A;by_cases n:k<8
  ·have B:=Ai b.v k n D.out;have d:gK b k=if b.k.toNat.testBit k=aq/\b.v.getD k 0≠0 then 4 else if b.v.getD k 0< -1000000000\/1000000000<b.v.getD k 0 then 1 else 0:=rfl
   have a:=E9 b.k.toNat k u n;rw[G.out]at a;generalize b.v.getD k 0=x at*;have g:=λH=>s.out k n q.out H
   cases l:b.k.toNat.testBit k with
   |false=>
    rw[l]at d a;have E:(bits BinOp.and IntKind.i64 (b.k / 2^k) 1==0)=ak:=by rw[a];rfl
    by_cases f:x=0
    ·have F:(x !=0)=aq:=by simp[f]
     have J:¬x< -1000000000:=by omega
     have K:¬1000000000<x:=by omega
     have c:Hid (∀j,j<k+1->gK b j=0):=by intro j v;by_cases m:j=k;subst m;rw[d];simp[f];exact q.out j (by omega)
     clear f d a l g
     go_wp2
     go_round
     case rel=>exact⟨k+1,by omega,by go_num,c.out⟩
     simp[intOf];omega
    have F:(x !=0)=ak:=by simpa using f
    have c:Hid (bx b=4):=by
     unfold Hid;have:gK b k=4:=by rw[d];simp[f]
     rw[g (by omega),this]
    clear f d a l g
    go_wp2
    go_ret;exact⟨cZ c.out.symm,(Below.refl _ _).alloc (ao _) _⟩
   |true=>
    rw[l]at d a;have E:(bits BinOp.and IntKind.i64 (b.k / 2^k) 1==0)=aq:=by rw[a];rfl
    by_cases f:x< -1000000000
    ·have c:Hid (bx b=1):=by
      unfold Hid;have:gK b k=1:=by rw[d];simp[f]
      rw[g (by omega),this]
     clear d a l g
     go_wp2
     go_ret;exact⟨cZ c.out.symm,(Below.refl _ _).alloc (ao _) _⟩
    by_cases p:1000000000<x
    ·have c:Hid (bx b=1):=by
      unfold Hid;have:gK b k=1:=by rw[d];simp[p]
      rw[g (by omega),this]
     clear d a l g
     go_wp2
     go_ret;exact⟨cZ c.out.symm,(Below.refl _ _).alloc (ao _) _⟩
    have c:Hid (∀j,j<k+1->gK b j=0):=by intro j v;by_cases m:j=k;subst m;rw[d];simp[f,p];exact q.out j (by omega)
    clear d a l g
    go_wp2
    go_round
    case rel=>exact⟨k+1,by omega,by go_num,c.out⟩
    simp[intOf];omega
  have y:k=8:=by omega
  subst y;have c:=ae (t.out q.out)
  go_wp2
  go_ret;exact⟨cZ c.out.symm,(Below.refl _ _).alloc (ao _) _⟩
 ·have o:ck b.k=aq:=by simpa using h
  have c:Hid (bx b=1):=by unfold Hid bx;rw[if_neg h]
  go_enter func46,ntmps46;go_wp2_with fail;refine(qk b.k _).mono ?_;rintro e z ⟨rfl,rfl⟩;rw[o];clear h o;go_wp2_with fail;go_ret;exact⟨cZ c.out.symm,(Below.refl _ _).alloc (ao _) _⟩
def Ax(m q w):Calls ai 89 #[.int .i64 m,.agg (ints q.list)] w λe a=>e=.returned (.bool (eM m q))/\Below w.heap.size w a:=IJ m q.vd q.nt q.any w
def oA(q w):Calls ai 93 #[.agg (ints q.list)] w λe b=>e=.returned (.int .i64 (fX q))/\Below w.heap.size w b:=by
 have h:(ints q.list)[0]? =af (.int .i64 q.vd):=rfl;have i:(ints q.list)[1]? =af (.int .i64 q.nt):=rfl;have j:(ints q.list)[2]? =af (.int .i64 q.any):=rfl;have a:Hid (fX q=if ck q.vd&&ck q.nt&&ck q.any then 0 else 1):=rfl;cases d:ck q.vd<;>cases f:ck q.nt<;>cases g:ck q.any;all_goals
  have c:=ae a.out;rw[d,f,g]at c;go_enter func93,ntmps93;go_wp2_with fail;refine(qk _ _).mono ?_;rintro e b ⟨rfl,rfl⟩;rw[d];go_wp2_with fail;try(refine(qk _ _).mono ?_;rintro e b ⟨rfl,rfl⟩;rw[f];go_wp2_with fail)
  try(refine(qk _ _).mono ?_;rintro e b ⟨rfl,rfl⟩;rw[g];go_wp2_with fail)
  go_ret;exact⟨cZ c.out.symm,(Below.refl _ _).alloc (ao _) _⟩
def Ak(m w):Calls ai 102 #[.int .i64 m] w λe b=>e=.returned (.bool (ck m))/\w=b:=by
 by_cases h:0<=m
 ·have a:Hid (ck m=decide (m<=255)):=by simp[Hid,ck,h]
  go_enter func102,ntmps102
  go_wp2
  go_ret;exact⟨cG a.out.symm,rfl⟩
 have a:Hid (ck m=aq):=by simp[Hid,ck,h]
 have c:m<0:=by omega
 clear h;go_enter func102,ntmps102
 go_wp2
 go_ret;exact⟨cG a.out.symm,rfl⟩
def Ob(s w):Calls ai 45 #[.agg (ints s.list)] w λe j=>e=.returned (.int .i64 (dH s))/\Below w.heap.size w j:=by
 have f:Hid (di (w.alloc (.cells (ints s.list) 54)) w.heap.size 54 (ints s.list)):=di.new _ _ _;have g:row? (w.alloc (.cells (ints s.list) 54)) w.heap.size 0 3=af (ints s.q.list):=f.out.dy 0 3 (by simp[Sys.list]);have m:(ints s.list)[3]? =af (.int .i64 s.read):=rfl;have n:(ints s.list)[4]? =af (.int .i64 s.write):=rfl;have o:(ints s.list)[5]? =af (.int .i64 s.act):=rfl;have p:(ints s.list)[6]? =af (.int .i64 s.n):=rfl;by_cases c:fX s.q=0
 ·have h:Hid (dH s=if !(ck s.read)|| !(ck s.write)||decide (s.act<1)||decide (3<s.act)||decide (s.n< -1000000)||decide (1000000<s.n)then 1
   else if(decide (s.act=3)&&decide (s.n≠0))||(decide (s.act≠2)&&decide (s.read≠0))then 4 else 0):=by
   unfold Hid dH;rw[if_neg (by simp[c])]
  cases k:ck s.read<;>cases l:ck s.write;all_goals
   go_enter func45,ntmps45;go_wp2_with fail;refine(oA _ _).mono ?_;rintro e d ⟨rfl,a⟩;rw[c];have b:di d w.heap.size 54 (ints s.list):=f.out.after a;have r:d.cell? ⟨w.heap.size,3,ah⟩=af (.int .i64 s.read):=b.cell 3;have t:d.cell? ⟨w.heap.size,4,ah⟩=af (.int .i64 s.write):=b.cell 4;have u:d.cell? ⟨w.heap.size,5,ah⟩=af (.int .i64 s.act):=b.cell 5;have v:d.cell? ⟨w.heap.size,6,ah⟩=af (.int .i64 s.n):=b.cell 6;have a:=ae (((Below.refl w.heap.size w).alloc (ao _) (.cells (ints s.list) 54)).trans (a.mono (by simp)));rename_i i;clear i b m n o p g;rw[k,l]at h;clear c;go_wp2_with fail;refine(Ak _ _).mono ?_;rintro e j ⟨rfl,rfl⟩;rw[k];go_wp2_with fail;try(refine(Ak _ _).mono ?_;rintro e j ⟨rfl,rfl⟩;rw[l];go_wp2_with fail)
   all_goals go_ret
   all_goals
    refine⟨cZ ?_,a.out⟩;rw[h.out];first
     |rfl
     |(simp only[Bool.not_true,Bool.not_false,Bool.false_or,Bool.true_or,ej,ay,decide_eq_true_eq,bne_iff_ne,ne_eq,bne_eq_false_iff_eq]at*
       repeat' split
       all_goals first|rfl|omega)
 ·have h:Hid (dH s=fX s.q):=by unfold Hid dH;rw[if_pos c]
  have q:(fX s.q !=0)=ak:=by simpa using c
  clear c;go_enter func45,ntmps45;go_wp2_with fail;refine(oA _ _).mono ?_;rintro e d ⟨rfl,a⟩;have a:=ae (((Below.refl w.heap.size w).alloc (ao _) (.cells (ints s.list) 54)).trans (a.mono (by simp)));go_wp2_with fail;go_ret;exact⟨cZ h.out.symm,a.out⟩
def iA(n b a:Int):Bool:=decide (n<b)||decide (a<n)
def dT(n b a w):Calls ai 111 #[.int .i64 n,.int .i64 b,.int .i64 a] w λe d=>e=.returned (.bool (iA n b a))/\w=d:=by
 have c:Hid (iA n b a=(decide (n<b)||decide (a<n))):=rfl;go_enter func111,ntmps111
 go_wp2
 all_goals go_ret;refine⟨cG ?_,rfl⟩;rw[c.out];try simp[*]
def mP(m):iA m 0 255= !ck m:=by unfold iA ck;by_cases a:0<=m<;>by_cases b:m<=255<;>simp[a,b]<;>omega
def Jh(n w):Calls ai 126 #[.int .i64 n] w λe f=>e=.returned (.int .i64 (k8 n))/\w=f:=by
 have b:Hid (k8 n=if n< -1000000000 then-1000000000 else if 1000000000<n then 1000000000 else n):=rfl;by_cases c:1000000000<n
 ·have a:Hid (k8 n=1000000000):=by unfold Hid;rw[b.out,if_neg (by omega),if_pos c]
  go_enter func126,ntmps126
  go_wp2
  go_ret;exact⟨cZ a.out.symm,rfl⟩
 by_cases d:n< -1000000000
 ·have a:Hid (k8 n= -1000000000):=by unfold Hid;rw[b.out,if_pos d]
  go_enter func126,ntmps126
  go_wp2
  go_ret;exact⟨cZ a.out.symm,rfl⟩
 have a:Hid (k8 n=n):=by unfold Hid;rw[b.out,if_neg d,if_neg c]
 go_enter func126,ntmps126
 go_wp2
 go_ret;exact⟨cZ a.out.symm,rfl⟩
def oT(q w):Calls ai 170 #[.agg (ints q.list)] w λe b=>e=.returned (.int .i64 (fX q))/\Below w.heap.size w b:=by
 have n:(ints q.list)[0]? =af (.int .i64 q.vd):=rfl;have o:(ints q.list)[1]? =af (.int .i64 q.nt):=rfl;have p:(ints q.list)[2]? =af (.int .i64 q.any):=rfl;have a:Hid (fX q=if ck q.vd&&ck q.nt&&ck q.any then 0 else 1):=rfl;have c:=mP q.vd;have d:=mP q.nt;have f:=mP q.any;cases h:ck q.vd<;>cases i:ck q.nt<;>cases j:ck q.any;all_goals
  have g:=ae a.out;rw[h,i,j]at g;rw[h]at c;rw[i]at d;rw[j]at f;have k:=ae c;have l:=ae d;have m:=ae f;clear c d f;go_enter func170,ntmps170;go_wp2_with fail;refine(dT _ _ _ _).mono ?_;rintro e b ⟨rfl,rfl⟩;rw[k.out];go_wp2_with fail;try(refine(dT _ _ _ _).mono ?_;rintro e b ⟨rfl,rfl⟩;rw[l.out];go_wp2_with fail)
  try(refine(dT _ _ _ _).mono ?_;rintro e b ⟨rfl,rfl⟩;rw[m.out];go_wp2_with fail)
  go_ret;exact⟨cZ g.out.symm,(Below.refl _ _).alloc (ao _) _⟩
def LR(b)(q:b.v.length=8)(w):Calls ai 109 #[.agg (ints b.list)] w λe d=>e=.returned (.int .i64 (bx b))/\Below w.heap.size w d:=by
 have L:(ints b.list)[0]? =af (.int .i64 b.k):=rfl;have E:row? (w.alloc (.cells (ints b.list) 48)) w.heap.size 1 8=af (ints b.v):=by rw[(di.new w 48 (ints b.list)).dy 1 8 (by simp[bw.list,q])];simp[bw.list,<-q]
 have F:=ae q;clear q;by_cases g:ck b.k=ak
 ·have J:0<=b.k/\b.k<=255:=by simpa[ck]using g
  have H:Hid (m8 b.k=b.k.toNat):=by unfold Hid m8;rw[Int.emod_eq_of_lt (by omega) (by omega)]
  have v:=ae (mY b g);have u:=ae (λj D=>sD b j D g);have f:Hid (iA b.k 0 255=aq):=by unfold Hid;rw[mP,g];rfl
  clear g J;go_enter func109,ntmps109;go_wp2_with fail;refine(dT _ _ _ _).mono ?_;rintro e d ⟨rfl,rfl⟩;rw[f.out];go_wp2_with fail
  go_loop [10] (λi=>∃k:Nat,k<=8/\i=.int .i64 k/\∀j,j<k->gK b j=0) (λi=>8-(intOf i).toNat)
  case atStart=>exact⟨0,by omega,rfl,by omega⟩
  obtain⟨k,K,rfl,A⟩:=hrel;have s:=ae A;clear A;by_cases n:k<8
  ·have C:=Ai b.v k n F.out;have a:Hid (gK b k=if b.k.toNat.testBit k=aq/\b.v.getD k 0≠0 then 4 else if b.v.getD k 0< -1000000000\/1000000000<b.v.getD k 0 then 1 else 0):=rfl;have B:=ae (λI=>u.out k n s.out I);generalize b.v.getD k 0=x at*;have l:=ae (λw=>lR b.k k w n);rw[H.out]at l;have o:Hid (gK b k=0->∀j,j<k+1->gK b j=0):=λh j D=>by by_cases y:j=k;subst y;exact h;exact s.out j (by omega)
   cases p:b.k.toNat.testBit k with
   |false=>
    rw[p]at l;have a:=a.out;rw[p]at a;by_cases r:x=0
    ·have G:(x !=0)=aq:=by simp[r]
     have f:Hid (iA 0 (-1000000000) 1000000000=aq):=rfl;have t:Hid (gK b k=0):=by unfold Hid;rw[a];simp[r]
     clear a;go_wp2_with fail;refine(l.out _).mono ?_;rintro e d ⟨rfl,rfl⟩;go_wp2_with fail;refine(dT _ _ _ _).mono ?_;rintro e d ⟨rfl,rfl⟩;rw[f.out];go_wp2_with fail
     go_round
     case rel=>exact⟨k+1,by omega,by go_num,o.out t.out⟩
     simp[intOf];omega
    have G:(x !=0)=ak:=by simpa using r
    have m:Hid (bx b=4):=by
     unfold Hid;have:gK b k=4:=by rw[a];simp[r]
     rw[B.out (by omega),this]
    clear a;go_wp2_with fail;refine(l.out _).mono ?_;rintro e d ⟨rfl,rfl⟩;go_wp2_with fail;go_ret;exact⟨cZ m.out.symm,(Below.refl _ _).alloc (ao _) _⟩
   |true=>
    rw[p]at l;have a:=a.out;rw[p]at a;cases c:iA x (-1000000000) 1000000000
    ·have t:Hid (gK b k=0):=by unfold Hid;unfold iA at c;simp only[Bool.or_eq_false_iff,decide_eq_false_iff_not]at c;rw[a];simp[c]
     have f:=ae c;clear a c;go_wp2_with fail;refine(l.out _).mono ?_;rintro e d ⟨rfl,rfl⟩;go_wp2_with fail;refine(dT _ _ _ _).mono ?_;rintro e d ⟨rfl,rfl⟩;rw[f.out];go_wp2_with fail
     go_round
     case rel=>exact⟨k+1,by omega,by go_num,o.out t.out⟩
     simp[intOf];omega
    have m:Hid (bx b=1):=by
     unfold Hid;unfold iA at c;simp only[ej,decide_eq_true_eq]at c;have:gK b k=1:=by rw[a];simp[c]
     rw[B.out (by omega),this]
    have f:=ae c;clear a c;go_wp2_with fail;refine(l.out _).mono ?_;rintro e d ⟨rfl,rfl⟩;go_wp2_with fail;refine(dT _ _ _ _).mono ?_;rintro e d ⟨rfl,rfl⟩;rw[f.out];go_wp2_with fail;go_ret;exact⟨cZ m.out.symm,(Below.refl _ _).alloc (ao _) _⟩
  have z:k=8:=by omega
  subst z;have m:=ae (v.out s.out);go_wp2_with fail;go_ret;exact⟨cZ m.out.symm,(Below.refl _ _).alloc (ao _) _⟩
 ·have f:Hid (iA b.k 0 255=ak):=by unfold Hid;rw[mP];simpa using g
  have m:Hid (bx b=1):=by unfold Hid bx;rw[if_neg g]
  clear g;go_enter func109,ntmps109;go_wp2_with fail;refine(dT _ _ _ _).mono ?_;rintro e d ⟨rfl,rfl⟩;rw[f.out];go_wp2_with fail;go_ret;exact⟨cZ m.out.symm,(Below.refl _ _).alloc (ao _) _⟩
def S5(s w):Calls ai 123 #[.agg (ints s.list)] w λe j=>e=.returned (.int .i64 (dH s))/\Below w.heap.size w j:=by
 have i:Hid (di (w.alloc (.cells (ints s.list) 54)) w.heap.size 54 (ints s.list)):=di.new _ _ _;have f:row? (w.alloc (.cells (ints s.list) 54)) w.heap.size 0 3=af (ints s.q.list):=i.out.dy 0 3 (by simp[Sys.list]);by_cases g:fX s.q=0
 ·have k:Hid (dH s=if iA s.read 0 255||iA s.write 0 255||iA s.act 1 3||iA s.n (-1000000) 1000000 then 1
   else if(decide (s.act=3)&&decide (s.n≠0))||(decide (s.act≠2)&&decide (s.read≠0))then 4 else 0):=by
   unfold Hid dH;rw[if_neg (by simp[g]),mP,mP];unfold iA;simp only[Bool.or_assoc]
  cases h:iA s.read 0 255
  ·cases l:iA s.write 0 255
   ·cases n:iA s.act 1 3
    ·cases u:iA s.n (-1000000) 1000000;all_goals
      rw[h,l,n,u]at k;have m:=ae h;have o:=ae l;have p:=ae n;have v:=ae u;clear h l n u;go_enter func123,ntmps123;go_wp2_with fail;refine(oT _ _).mono ?_;rintro e c ⟨rfl,a⟩;rw[g];have b:di c w.heap.size 54 (ints s.list):=i.out.after a;have q:c.cell? ⟨w.heap.size,3,ah⟩=af (.int .i64 s.read):=b.cell 3;have r:c.cell? ⟨w.heap.size,4,ah⟩=af (.int .i64 s.write):=b.cell 4;have t:c.cell? ⟨w.heap.size,5,ah⟩=af (.int .i64 s.act):=b.cell 5;have y:c.cell? ⟨w.heap.size,6,ah⟩=af (.int .i64 s.n):=b.cell 6;have a:=ae (((Below.refl w.heap.size w).alloc (ao _) (.cells (ints s.list) 54)).trans (a.mono (by simp)));rename_i d;clear d b f g;go_wp2_with fail;refine(dT _ _ _ _).mono ?_;rintro e j ⟨rfl,rfl⟩;rw[m.out];go_wp2_with fail;refine(dT _ _ _ _).mono ?_;rintro e j ⟨rfl,rfl⟩;rw[o.out];go_wp2_with fail;refine(dT _ _ _ _).mono ?_;rintro e j ⟨rfl,rfl⟩;rw[p.out];go_wp2_with fail;refine(dT _ _ _ _).mono ?_;rintro e j ⟨rfl,rfl⟩;rw[v.out];go_wp2_with fail;all_goals go_ret
      all_goals
       refine⟨cZ ?_,a.out⟩;rw[k.out];first
        |rfl
        |(simp only[Bool.or_false,dg,if_false,Bool.not_true,Bool.not_false,Bool.false_or,Bool.true_or,ej,ay,decide_eq_true_eq,bne_iff_ne,ne_eq,bne_eq_false_iff_eq]at*
          repeat' split
          all_goals first|rfl|omega|(exfalso;simp_all;done)|trace_state)
    skip
    rw[h,l,n]at k;have m:=ae h;have o:=ae l;have p:=ae n;clear h l n;go_enter func123,ntmps123;go_wp2_with fail;refine(oT _ _).mono ?_;rintro e c ⟨rfl,a⟩;rw[g];have b:di c w.heap.size 54 (ints s.list):=i.out.after a;have q:c.cell? ⟨w.heap.size,3,ah⟩=af (.int .i64 s.read):=b.cell 3;have r:c.cell? ⟨w.heap.size,4,ah⟩=af (.int .i64 s.write):=b.cell 4;have t:c.cell? ⟨w.heap.size,5,ah⟩=af (.int .i64 s.act):=b.cell 5;have a:=ae (((Below.refl w.heap.size w).alloc (ao _) (.cells (ints s.list) 54)).trans (a.mono (by simp)));rename_i d;clear d b f g;go_wp2_with fail;refine(dT _ _ _ _).mono ?_;rintro e j ⟨rfl,rfl⟩;rw[m.out];go_wp2_with fail;refine(dT _ _ _ _).mono ?_;rintro e j ⟨rfl,rfl⟩;rw[o.out];go_wp2_with fail;refine(dT _ _ _ _).mono ?_;rintro e j ⟨rfl,rfl⟩;rw[p.out];go_wp2_with fail;go_ret;exact⟨cZ (by rw[k.out];rfl),a.out⟩
   skip
   rw[h,l]at k;have m:=ae h;have o:=ae l;clear h l;go_enter func123,ntmps123;go_wp2_with fail;refine(oT _ _).mono ?_;rintro e c ⟨rfl,a⟩;rw[g];have b:di c w.heap.size 54 (ints s.list):=i.out.after a;have q:c.cell? ⟨w.heap.size,3,ah⟩=af (.int .i64 s.read):=b.cell 3;have r:c.cell? ⟨w.heap.size,4,ah⟩=af (.int .i64 s.write):=b.cell 4;have t:c.cell? ⟨w.heap.size,5,ah⟩=af (.int .i64 s.act):=b.cell 5;have a:=ae (((Below.refl w.heap.size w).alloc (ao _) (.cells (ints s.list) 54)).trans (a.mono (by simp)));rename_i d;clear d b f g;go_wp2_with fail;refine(dT _ _ _ _).mono ?_;rintro e j ⟨rfl,rfl⟩;rw[m.out];go_wp2_with fail;refine(dT _ _ _ _).mono ?_;rintro e j ⟨rfl,rfl⟩;rw[o.out];go_wp2_with fail;go_ret;exact⟨cZ (by rw[k.out];rfl),a.out⟩
  skip
  rw[h]at k;have m:=ae h;clear h;go_enter func123,ntmps123;go_wp2_with fail;refine(oT _ _).mono ?_;rintro e c ⟨rfl,a⟩;rw[g];have b:di c w.heap.size 54 (ints s.list):=i.out.after a;have q:c.cell? ⟨w.heap.size,3,ah⟩=af (.int .i64 s.read):=b.cell 3;have r:c.cell? ⟨w.heap.size,4,ah⟩=af (.int .i64 s.write):=b.cell 4;have t:c.cell? ⟨w.heap.size,5,ah⟩=af (.int .i64 s.act):=b.cell 5;have a:=ae (((Below.refl w.heap.size w).alloc (ao _) (.cells (ints s.list) 54)).trans (a.mono (by simp)));rename_i d;clear d b f g;go_wp2_with fail;refine(dT _ _ _ _).mono ?_;rintro e j ⟨rfl,rfl⟩;rw[m.out];go_wp2_with fail;go_ret;exact⟨cZ (by rw[k.out];rfl),a.out⟩
 ·have k:Hid (dH s=fX s.q):=by unfold Hid dH;rw[if_pos g]
  have x:(fX s.q !=0)=ak:=by simpa using g
  clear g;go_enter func123,ntmps123;go_wp2_with fail;refine(oT _ _).mono ?_;rintro e c ⟨rfl,a⟩;have a:=ae (((Below.refl w.heap.size w).alloc (ao _) (.cells (ints s.list) 54)).trans (a.mono (by simp)));go_wp2_with fail;go_ret;exact⟨cZ k.out.symm,a.out⟩
def o8(m)(k:Nat)(hm:0<=m/\m<=255)(t:k<64)(w):Calls ai 171 #[.int .i64 m,.int .i64 k] w λe r=>e=.returned (.bool (m.toNat.testBit k))/\w=r:=by
 have i:(k:Int)<64:=by omega
 have h:(0:Int)<=k:=by omega
 obtain⟨j,l⟩:=hm;have b:2^k<=2^63:=Nat.pow_le_pow_right (by decide) (by omega);have a:0<2^k:=Nat.pow_pos (by decide);have c:(((2^k:Nat):Int))=2^k:=by simp
 have u:IntKind.u64.wrap (2^k)=((2^k:Nat):Int):=by rw[<-c];exact IntWalk.u64_in _ (by omega)
 have v:((((2^k:Nat):Int))==0)=aq:=by simpa using(by omega:((2^k:Nat):Int)≠0)
 have p:¬(((2^k:Nat):Int))=0:=by omega
 obtain⟨n,rfl⟩:∃n:Nat,m=n:=⟨m.toNat,by omega⟩;have g:IntKind.u64.wrap ((n:Int) / ((2^k:Nat):Int))=((n / 2^k:Nat):Int):=by have:=Nat.div_le_self n (2^k);rw[<-Int.natCast_ediv];generalize n / 2^k=q at*;exact IntWalk.u64_in _ (by omega)
 have o:((n / 2^k:Nat):Int).tmod 2=((n / 2^k % 2:Nat):Int):=by rw[show(2:Int)=((2:Nat):Int)from rfl,Int.ofNat_tmod]
 have f:Hid ((((n / 2^k % 2:Nat):Int)==1)=(n:Int).toNat.testBit k):=by unfold Hid;rw[bP,Nat.testBit_eq_decide_div_mod_eq,fj,beq_iff_eq,decide_eq_true_eq];omega
 clear c a b;generalize s:((2^k:Nat):Int)=P at*;generalize n / 2^k=d at*;go_enter func171,ntmps171
 go_wp2
 go_ret;exact⟨cG f.out,rfl⟩
def uN(m:Nat)(a b j:Nat):Bool:=a.testBit j&& !m.testBit j||b.testBit j&&m.testBit j
def oy(m c:Nat):Nat->Bool|0=>decide (c=0)|j+1=>oy m c j||c.testBit j&&m.testBit j
def zJ(m c):∀n,oy m c n=ak↔c=0\/∃j,j<n/\c.testBit j=ak/\m.testBit j=ak
 |0=>by simp[oy]|n+1=>by rw[oy,ej,zJ m c n,ay];constructor;rintro((h|⟨j,a,h⟩)|h);exact .inl h;exact .inr ⟨j,by omega,h⟩;exact .inr ⟨n,by omega,h⟩;rintro(h|⟨j,a,h⟩);exact .inl (.inl h);by_cases e:j=n;subst e;exact .inr h;exact .inl (.inr ⟨j,by omega,h⟩)
def zM{x j}(b:x<256)(a:64<=j):x.testBit j=aq:=Nat.testBit_lt_two_pow (bQ b (bD (by decide:256<=2^64) (Nat.pow_le_pow_right (by decide) a)))
def IG{m a b c}(hm:0<=m/\m<=255)(v:0<=a/\a<=255)(w:0<=b/\b<=255)(y:0<=c/\c<=255):jJ m a b c=((bB 64).all (λj=> !uN m.toNat a.toNat b.toNat j)&&oy m.toNat c.toNat 64):=by
 obtain⟨m,rfl⟩:∃n:Nat,m=n:=⟨m.toNat,by omega⟩;obtain⟨a,rfl⟩:∃n:Nat,a=n:=⟨a.toNat,by omega⟩;obtain⟨b,rfl⟩:∃n:Nat,b=n:=⟨b.toNat,by omega⟩;obtain⟨c,rfl⟩:∃n:Nat,c=n:=⟨c.toNat,by omega⟩;simp only[bP];have e:∀x:Int,0<=x/\x<=255->bits .and .i64 (m:Int) x=((m &&& x.toNat:Nat):Int):=λx z=>(Aw m x hm z).1
 unfold jJ;rw[e a v,e b w,e c y];simp only[bP];rw[fj,ay,ay,ay,lD,zJ,ej,beq_iff_eq,beq_iff_eq,beq_iff_eq,bne_iff_ne];have p:((m &&& a:Nat):Int)=a↔∀j,a.testBit j=ak->m.testBit j=ak:=by
  rw[Int.ofNat_inj];constructor;intro h j d;have:=congrArg (·.testBit j) h;simp only[lk,d,Bool.and_true]at this;exact this;intro h;refine Nat.eq_of_testBit_eq λj=> ?_
  rw[lk];cases d:a.testBit j;simp;simp[h j d]
 have q:((m &&& b:Nat):Int)=0↔∀j,b.testBit j=ak->m.testBit j=aq:=by
  rw[show(0:Int)=((0:Nat):Int)from rfl,Int.ofNat_inj];constructor;intro h j d;have:=congrArg (·.testBit j) h;simp only[lk,d,Bool.and_true,Nat.zero_testBit]at this;exact this;intro h;refine Nat.eq_of_testBit_eq λj=> ?_
  rw[lk,Nat.zero_testBit];cases d:b.testBit j;simp;simp[h j d]
 have r:((m &&& c:Nat):Int)≠0↔∃j,j<64/\c.testBit j=ak/\m.testBit j=ak:=by
  constructor;intro h;have k:m &&& c≠0:=by omega
  obtain⟨j,d⟩:=Nat.exists_testBit_of_ne_zero k;rw[lk,ay]at d;refine⟨j,?_,d.2,d.1⟩;rcases du j 64 with h|h;exact h;rw[zM (by omega) h]at d;exact absurd d.1 (by simp);rintro⟨j,_,s,t⟩ h;have u:m &&& c=0:=by omega
  have:=congrArg (·.testBit j) u;simp[lk,s,t]at this
 rw[p,q,r];have o:(c:Int)=0↔c=0:=by omega
 rw[o];constructor
 ·rintro⟨⟨g,l⟩,i⟩;refine⟨λj _=> ?_,i⟩;unfold uN;cases A:a.testBit j<;>cases B:b.testBit j<;>cases f:m.testBit j<;>simp;all_goals first
   |(have:=g j A;rw[f]at this;cases this;done)
   |(have:=l j B;rw[f]at this;cases this;done)
 rintro⟨g,i⟩;refine⟨⟨λj d=> ?_,λj d=> ?_⟩,i⟩;rcases du j 64 with h|h;have:=g j (eS.2 h);unfold uN at this;rw[d]at this;cases f:m.testBit j;rw[f]at this;simp at this;rfl;rw[zM (by omega) h]at d;cases d;rcases du j 64 with h|h;have:=g j (eS.2 h);unfold uN at this;rw[d]at this;cases f:m.testBit j;rfl;rw[f]at this;simp at this;rw[zM (by omega) h]at d;cases d
def zF(m:Int):Prop:=0<=m/\m<=255
def Gj(m q)(hm:zF m)(D:zF q.vd)(E:zF q.nt)(v:zF q.any)(w):Calls ai 125 #[.int .i64 m,.agg (ints q.list)] w λe f=>e=.returned (.bool (eM m q))/\Below w.heap.size w f:=by
 have B:Hid (eM m q=((bB 64).all (λj=> !uN m.toNat q.vd.toNat q.nt.toNat j)&&oy m.toNat q.any.toNat 64)):=IG hm D E v;obtain⟨a,b,c⟩:=q;have HM:Hid (∀k,k<64->∀w,Calls ai 171 #[.int .i64 m,.int .i64 (k:Nat)] w λe f=>e=.returned (.bool (m.toNat.testBit k))/\w=f):=λk s w=>o8 m k hm s w
 have Q:Hid (∀k,k<64->∀w,Calls ai 171 #[.int .i64 a,.int .i64 (k:Nat)] w λe f=>e=.returned (.bool (a.toNat.testBit k))/\w=f):=λk s w=>o8 a k D s w
 have R:Hid (∀k,k<64->∀w,Calls ai 171 #[.int .i64 b,.int .i64 (k:Nat)] w λe f=>e=.returned (.bool (b.toNat.testBit k))/\w=f):=λk s w=>o8 b k E s w
 have S:Hid (∀k,k<64->∀w,Calls ai 171 #[.int .i64 c,.int .i64 (k:Nat)] w λe f=>e=.returned (.bool (c.toNat.testBit k))/\w=f):=λk s w=>o8 c k v s w
 have i0:(ints (Query.list ⟨a,b,c⟩))[0]? =af (.int .i64 a):=rfl;have i1:(ints (Query.list ⟨a,b,c⟩))[1]? =af (.int .i64 b):=rfl;have i2:(ints (Query.list ⟨a,b,c⟩))[2]? =af (.int .i64 c):=rfl;have U:Hid (c=0↔c.toNat=0):=by have:0<=c:=v.1;unfold Hid;omega
 have P:Hid (oy m.toNat c.toNat 0=(c==0)):=by unfold Hid oy;rw[fj,decide_eq_true_eq,beq_iff_eq];exact U.out.symm
 have A:Hid (∀k,uN m.toNat a.toNat b.toNat k=(a.toNat.testBit k&& !m.toNat.testBit k||b.toNat.testBit k&&m.toNat.testBit k)):=λ_=>rfl
 have z:Hid (∀k,oy m.toNat c.toNat (k+1)=(oy m.toNat c.toNat k||c.toNat.testBit k&&m.toNat.testBit k)):=λ_=>rfl
 clear hm D E v;simp only at B;generalize H:uN m.toNat a.toNat b.toNat=r at*;generalize G:oy m.toNat c.toNat=L at*;clear H G;go_enter func125,ntmps125;go_wp2_with fail
 go_loop [5,10] (λx i=>∃k:Nat,k<=64/\i=.int .i64 k/\x=.bool (L k)/\∀j,j<k->r j=aq) (λ_ i=>64-(intOf i).toNat)
 case atStart=>exact⟨0,by omega,rfl,by rw[P.out],by omega⟩
 case round=>
  obtain⟨k,V,rfl,rfl,M⟩:=hrel;have K:=ae M;clear M;by_cases n:k<64
  ·have W:(k:Int)<64:=by omega
   have p:=HM.out k n;have F:=Q.out k n;have y:=R.out k n;have hC:=S.out k n;have u:=A.out k;have t:=z.out k;have d:Hid (r k=aq->∀j,j<k+1->r j=aq):=λh j N=>by by_cases e:j=k;rw[e];exact h;exact K.out j (by omega)
   have l:Hid (r k=ak->eM m ⟨a,b,c⟩=aq):=λh=>by
    rw[B.out];have:((bB 64).all λj=> !r j)=aq:=by rw[List.all_eq_false];exact⟨k,eS.2 n,by simp[h]⟩
    rw[this];rfl
   generalize m.toNat.testBit k=J at*;generalize a.toNat.testBit k=X at*;generalize b.toNat.testBit k=O at*;generalize c.toNat.testBit k=I at*;generalize Z:L k=C at*;generalize r k=Y at*;have p:=ae p;have F:=ae F;have y:=ae y;have hC:=ae hC;have g:=ae u;have o:=ae t;clear u t;go_wp2_with fail;refine(F.out _).mono ?_;rintro e f ⟨rfl,rfl⟩;cases X
   ·go_wp2_with fail;refine(y.out _).mono ?_;rintro e f ⟨rfl,rfl⟩;cases O
    ·cases C
     ·go_wp2_with fail;refine(hC.out _).mono ?_;rintro e f ⟨rfl,rfl⟩;cases I
      ·go_wp2_with fail
       go_round
       case rel=>exact⟨k+1,by omega,by go_num,by rw[o.out];rfl,d.out (by rw[g.out];rfl)⟩
       simp[intOf];omega
      go_wp2_with fail;refine(p.out _).mono ?_;rintro e f ⟨rfl,rfl⟩;cases J
      ·go_wp2_with fail
       go_round
       case rel=>exact⟨k+1,by omega,by go_num,by rw[o.out];rfl,d.out (by rw[g.out];rfl)⟩
       simp[intOf];omega
      go_wp2_with fail
      go_round
      case rel=>exact⟨k+1,by omega,by go_num,by rw[o.out];rfl,d.out (by rw[g.out];rfl)⟩
      simp[intOf];omega
     go_wp2_with fail
     go_round
     case rel=>exact⟨k+1,by omega,by go_num,by rw[o.out];rfl,d.out (by rw[g.out];rfl)⟩
     simp[intOf];omega
    go_wp2_with fail;refine(p.out _).mono ?_;rintro e f ⟨rfl,rfl⟩;cases J
    ·cases C
     ·go_wp2_with fail;refine(hC.out _).mono ?_;rintro e f ⟨rfl,rfl⟩;cases I
      ·go_wp2_with fail
       go_round
       case rel=>exact⟨k+1,by omega,by go_num,by rw[o.out];rfl,d.out (by rw[g.out];rfl)⟩
       simp[intOf];omega
      go_wp2_with fail;refine(p.out _).mono ?_;rintro e f ⟨rfl,rfl⟩;go_wp2_with fail
      go_round
      case rel=>exact⟨k+1,by omega,by go_num,by rw[o.out];rfl,d.out (by rw[g.out];rfl)⟩
      simp[intOf];omega
     go_wp2_with fail
     go_round
     case rel=>exact⟨k+1,by omega,by go_num,by rw[o.out];rfl,d.out (by rw[g.out];rfl)⟩
     simp[intOf];omega
    go_wp2_with fail;go_ret;exact⟨cG (l.out (by rw[g.out];rfl)).symm,(Below.refl _ _).alloc (ao _) _⟩
   go_wp2_with fail;refine(p.out _).mono ?_;rintro e f ⟨rfl,rfl⟩;cases J
   ·go_wp2_with fail;go_ret;exact⟨cG (l.out (by rw[g.out];rfl)).symm,(Below.refl _ _).alloc (ao _) _⟩
   go_wp2_with fail;refine(y.out _).mono ?_;rintro e f ⟨rfl,rfl⟩;cases O
   ·cases C
    ·go_wp2_with fail;refine(hC.out _).mono ?_;rintro e f ⟨rfl,rfl⟩;cases I
     ·go_wp2_with fail
      go_round
      case rel=>exact⟨k+1,by omega,by go_num,by rw[o.out];rfl,d.out (by rw[g.out];rfl)⟩
      simp[intOf];omega
     go_wp2_with fail;refine(p.out _).mono ?_;rintro e f ⟨rfl,rfl⟩;go_wp2_with fail
     go_round
     case rel=>exact⟨k+1,by omega,by go_num,by rw[o.out];rfl,d.out (by rw[g.out];rfl)⟩
     simp[intOf];omega
    go_wp2_with fail
    go_round
    case rel=>exact⟨k+1,by omega,by go_num,by rw[o.out];rfl,d.out (by rw[g.out];rfl)⟩
    simp[intOf];omega
   go_wp2_with fail;refine(p.out _).mono ?_;rintro e f ⟨rfl,rfl⟩;go_wp2_with fail;go_ret;exact⟨cG (l.out (by rw[g.out];rfl)).symm,(Below.refl _ _).alloc (ao _) _⟩
  have:k=64:=by omega
  subst this;have T:Hid ((bB 64).all (λj=> !r j)=ak):=by unfold Hid;rw[lD];intro j N;rw[K.out j (eS.1 N)];rfl
  go_wp2_with fail;go_ret;exact⟨cG (by rw[B.out,T.out];rfl),(Below.refl _ _).alloc (ao _) _⟩
end
section
variable{P:br} {Z:Region.Mode} {Y:Array Oper} {Q:Exit->Act->ar->Prop} {S:ar->Prop} {n:Nat}
def pO(P:br)(Z:Region.Mode)(Y:Array Oper)(Q:Exit->Act->ar->Prop)(S:ar->Prop)(n:Nat):Nat->Array Bool->Act->ar->Prop
 |0,listed,a,w=>dZ Z Y listed=[]/\Q .normal a w|fuel+1,listed,a,w=>
  (dZ Z Y listed=[]->Q .normal a w)/\
  ∀i∈dZ Z Y listed,wpOp P Y Q i (λc b=>(i<n->S b)/\pO P Z Y Q S n fuel (listed.setIfInBounds i ak) c b) a w
def BP:∀b c a w,pO P Z Y Q S n b c a w->wpAny P Z Y Q b c a w|0,_,_,_,h=>h|b+1,_,_,_,h=>⟨h.1,λi f=>wpOp_mono (λd g e=>BP b _ d g e.2) (h.2 i f)⟩
def GL{i u v}(M:Y[i]? =af u)(r:∀(j:Nat) o z b,Y[j]? =af o->o.op≠.select z b)(V:∀c a w,Q (.panic c) (a.put u.dst v) w->Q (.panic c) a w)(hs:Region.sinkB Z Y n=ak)(X:Region.chainB Z Y n=ak)(hn:n<Y.size)(N:i<n):∀f d a w,HeadInv Z Y n d->(∀j x,Y[j]? =af x->j≠i->d.getD j ak=aq->(∀e∈x.after,Region.binds Z e=ak->e.on≠i)->u.apart Y x=ak)->i∈dZ Z Y d->YieldsIf P Y S u v a->S w->pO P Z Y Q S n f (d.setIfInBounds i ak) (a.put u.dst v) w->pO P Z Y Q S n (f+1) d a w:=by
 intro f
 induction f with
 |zero=>intro d a w _ _ t K A H;refine⟨λh=>(by rw[h]at t;cases t),λj y=> ?_⟩;by_cases g:j=i;subst g;exact K.wpOp M A ⟨λ_=>A,H⟩;have:=ready_mono y g;rw[H.1]at this;cases this|succ f ih=>
  intro d a w F l t K A H;have m:=(mem_ready.1 t).1;refine⟨λh=>(by rw[h]at t;cases t),λj y=> ?_⟩;have D:j<n:=by rcases du j n with h|h;exact h;exact absurd y (tail_waits hs X hn F _ i rfl N m j h)
  by_cases g:j=i;subst g;exact K.wpOp M A ⟨λ_=>A,H⟩;have I:=H.2 j (ready_mono y g);obtain⟨q,x,s,B⟩:=mem_ready.1 y;have E:∀e∈x.after,Region.binds Z e=ak->e.on≠i:=λe he W L=>by have I:=B e he W;rw[L,getD_both m]at I;cases I
  have U:=wpOp_putIf s (l j x s g q E) (λz b=>r i u z b M) (λz b=>r j x z b s) V K I;have p:∀k G,Y[k]? =af G->k≠i->(d.setIfInBounds j ak).getD k ak=aq->
   (∀e∈G.after,Region.binds Z e=ak->e.on≠i)->u.apart Y G=ak:=λk G hk O m R=>by
   refine l k G hk O ?_ R;by_cases C:j=k;subst C;exact q;rw[getD_set_ne ak C]at m;exact m
  refine wpOp_mono (λT w' J=>⟨J.2.1,ih (d.setIfInBounds j ak) T w' (F.set y D) p (ready_mono t (Ne.symm g)) J.1 (J.2.1 D) ?_⟩) U;rw[Array.setIfInBounds_comm _ _ g];exact J.2.2
def dk{rs c b a w}(e:dZ Z Y b=rs)(d:rs≠ [])(h:∀i∈rs,wpOp P Y Q i (λg f=>(i<n->S f)/\pO P Z Y Q S n c (b.setIfInBounds i ak) g f) a w):pO P Z Y Q S n (c+1) b a w:=⟨λj=>absurd (e▸j) d,e▸h⟩
def nD{b a w}(d:dZ Z Y b=[])(h:Q .normal a w):∀c,pO P Z Y Q S n c b a w|0=>⟨d,h⟩|_+1=>⟨λ_=>h,by rw[d];simp⟩
def Bj(P:br)(Y:Array Oper)(S:ar->Prop)(K:Act->Prop):List Nat->Act->Prop
 |[],a=>K a|i::l,a=>∃o v,Y[i]? =af o/\(aW o (yielded Y a.tmps)=ak/\∀w,S w->(execOp a.eval o).run P w=.ok (.value v) w)/\Bj P Y S K l (a.put o.dst v)
def tj{c:List Oper}(b:c.toArray=Y){K i o l a v}(e:c[i]? =af o)(d:o.guard=ah)(f:∀w,S w->(execOp a.eval o).run P w=.ok (.value v) w)(h:Bj P Y S K l (a.put o.dst v)):Bj P Y S K (i::l) a:=⟨o,v,by subst b;simpa using e,⟨by simp[aW,d],f⟩,h⟩
def FT(Y:Array Oper)(n:Nat):List Nat->Array Bool->Bool|[],_=>ak|i::l,listed=>decide (i<n)&&Region.free .any Y listed i&&(dZ .any Y listed).contains i&&FT Y n l (listed.setIfInBounds i ak)
def Se:List Nat->Array Bool->Array Bool|[],listed=>listed|i::l,listed=>Se l (listed.setIfInBounds i ak)
def yp{w}(f:Region.noSelect Y=ak)(j:∀c a d v w,Q (.panic c) (Act.put a d v) w->Q (.panic c) a w)(r:Region.sinkB .any Y n=ak)(m:Region.chainB .any Y n=ak)(p:n<Y.size)(k:S w)(e):∀l b a,HeadInv .any Y n b->FT Y n l b=ak->Bj P Y S (λs=>pO P .any Y Q S n e (Se l b) s w) l a->pO P .any Y Q S n (l.length+e) b a w
 |[],b,a,_,_,h=>by rw[aM,bN];exact h|i::l,b,a,inv,hb,h=>by
  obtain⟨o,v,g,t,h⟩:=h;rw[FT]at hb;rw[ay,ay,ay,decide_eq_true_eq]at hb;rw[ax,Nat.add_right_comm];have q:i∈dZ .any Y b:=by simpa using hb.1.2
  refine GL g (Region.noSelect_spec f) (λc a w=>j c a _ _ w) r m p hb.1.1.1 _ b a w inv (Region.free_spec g hb.1.1.2) q (bq t) k ?_;exact yp f j r m p k e l _ _ (inv.set q hb.1.1.1) hb.2 h
def tD{B a w}{l:List Oper}(S n g f M)(hm:P.follows .mixedOrders=ak)(b:Region.noSelect l.toArray=ak)(q:∀c a d v w,Q (.panic c) (Act.put a d v) w->Q (.panic c) a w)(z:Region.sinkB .any l.toArray n=ak)(u:Region.chainB .any l.toArray n=ak)(y:n<l.toArray.size)(x:g.length+f=l.toArray.size)(s:FT l.toArray n g (dE l.toArray.size aq)=ak)(p:Se g (dE l.toArray.size aq)=M)(r:S w.drew)(h:∀Y,l.toArray=Y->Bj P Y S (λm=>pO P .any Y Q S n f M m w.drew) g a):(Code.region B l.toArray ak).wp P Q a w:=by
 refine wp_region_any hm (BP (S:=S) (n:=n) _ _ _ _ ?_);have e:HeadInv .any l.toArray n (dE l.toArray.size aq):=⟨by simp,λj C _ k=>(by rw[getD_replicate_false]at k;cases k),λt _ A=>getD_in (by simpa using A) (getD_replicate_false _ _)⟩
 have o:=h _ rfl;subst p;have i:=yp (P:=P) (Q:=Q) (S:=S) (w:=w.drew) b q z u y r f g (dE l.toArray.size aq) a e s o;rw[x]at i;exact i
def tC{i o K a w}{l:List Oper}(b:l.toArray=Y)(d:l[i]? =af o)(h:if aW o (yielded Y a.tmps)=ak then o.wp P a w K Q else K (a.put o.dst undef) w):wpOp P Y Q i K a w:=by unfold wpOp;rw[show Y[i]? =af o from by subst b;simpa using d];simp only;split;rename_i c;rw[if_pos c]at h;exact bq h;rename_i c;rw[if_neg c]at h;exact h
def kl{i o K a w w'}{l:List Oper}{v}(b:l.toArray=Y)(e:l[i]? =af o)(d:o.guard=ah)(h:(execOp a.eval o).run P w=.ok (.value v) w')(c:K (a.put o.dst v) w'):wpOp P Y Q i K a w:=by refine tC b e ?_;rw[if_pos (by simp[aW,d])];unfold Oper.wp;rw[h];exact c
def tz{i o K a w}{l:List Oper}{f args R}(b:l.toArray=Y)(k:l[i]? =af o)(j:o.guard=ah)(h:(execOp a.eval o).run P w=.ok (.enter f args) w)(hC:Calls P f args w R)(d:∀e c,R e c->∃v,e=.returned v/\K (a.put o.dst v) c):wpOp P Y Q i K a w:=by
 refine tC b k ?_;rw[if_pos (by simp[aW,j])];unfold Oper.wp;rw[h];refine Calls.mono hC λe c g=> ?_
 obtain⟨v,rfl,m⟩:=d _ _ g;exact m
def tA{i o K a w w'}{l:List Oper}(b:l.toArray=Y)(e:l[i]? =af o)(d:o.guard=ah)(h:(execOp a.eval o).run P w=.ok .skip w')(c:K (a.put o.dst undef) w'):wpOp P Y Q i K a w:=by refine tC b e ?_;rw[if_pos (by simp[aW,d])];unfold Oper.wp;rw[h];exact c
end
section
open Go.RowKit
structure mo where
 d:Int
 b:bw
 a:Hd
 t:Hd
 k:Int
 n:Int
def mo.list(o:mo):List Int:=[o.d]++o.b.list++[o.a.1,o.a.2,o.t.1,o.t.2,o.k,o.n]
def Wt(r:List Int):mo:=⟨r.getD 0 0,⟨r.getD 1 0,(r.drop 2).take 8⟩,(r.getD 10 0,r.getD 11 0),(r.getD 12 0,r.getD 13 0),r.getD 14 0,r.getD 15 0⟩
def xV{r}(h:r.length=16):(Wt r).list=r/\(Wt r).b.v.length=8:=by
 match r,h with|[_,_,_,_,_,_,_,_,_,_,_,_,_,_,_,_],_=>exact⟨rfl,rfl⟩
def sx(w:ar)(B:Nat)(A:Option Addr)(a:List mo):Prop:=fR w B 16 A (a.map mo.list)
def sx.below{w w' B A a}(h:sx w B A a)(b:Below B w w'):sx w' B A a:=fR.below h b
def sx.at_{w B A a}(h:sx w B A a){k}(d):∃b o,A=af ⟨b,o,ah⟩/\b<B/\row? w b (o+k*16) 16=af (ints (mo.list a[k])):=by obtain⟨b,o,e,c,f⟩:=fR.at_ h (k:=k) (by simpa using d);exact⟨b,o,e,c,by simpa using f⟩
def mo.len{o:mo}(h:o.b.v.length=8):o.list.length=16:=by simp[mo.list,bw.list,h]
def aaC(b:List Int):List Int:=(bB 9).map λi=>b.getD i 0
def cL(c:Chg):List Int:=c.at_.1::c.at_.2::(aaC c.old++aaC c.now)
def De(A c a x w)(h:fR w w.heap.size 2 A a)(V:a.length<=maxLen)(Q:x.length=2):Calls ai 112 #[.slice A a.length c,.agg (ints x)] w λe d=>e=.returned (.bool (decide (x∈a)))/\Below w.heap.size w d:=by
 have H:=ae h;have X:(a.length:Int)<=9223372036854775807:=by unfold maxLen at V;omega
 have O:Hid (∀r∈a,r.length=2):=h.1;clear h;go_enter func112,ntmps112;go_upto_region 1 with(fail)
 refine a6 (λd=>di d w.heap.size 43 (ints x)/\Below w.heap.size w d) ⟨di.new _ _ _,(Below.refl _ _).alloc (ao _) _⟩ ?_;rintro w1 ⟨B,C⟩;have u:=ae B;have z:=ae C;clear B C;obtain⟨I,s⟩:∃I,w.heap.size=I:=⟨_,rfl⟩;have S:=ae s;rw[s]at u|-;clear s;go_wp2_with fail;go_loopw [9] (λi d=>∃k:Nat,k<=a.length/\i=.int .i64 k/\(∀j,j<k->a[j]?≠af x)/\di d I 43 (ints x)/\Below w.heap.size w d) (λi _=>a.length-(intOf i).toNat)
 case atStart=>exact⟨0,by omega,rfl,λj J=>by omega,u.out,z.out⟩
 case round=>
  clear u z;obtain⟨k,hk,rfl,m,B,C⟩:=hrel;have l:=ae m;have u:=ae B;have f:=ae C;clear m B C;by_cases n:k<a.length
  ·have U:(k:Int)<a.length:=by omega
   obtain⟨b,o,rfl,T,F⟩:=(H.out.below f.out).at_ n;have g:Hid (a[k]? =af a[k]):=aj n;have p:=O.out _ (aF n);generalize a[k]=y at*;go_upto_region 4 with(fail)
   refine a6 (λd=>di d wr.heap.size 43 (ints y)/\di d I 43 (ints x)/\Below w.heap.size w d) ⟨iT wr 43 [0,0] _ p,u.out.after (fy wr 43 [0,0] _),f.out.trans ((fy wr 43 [0,0] _).mono f.out.size)⟩ ?_;generalize wr.heap.size=Y;rintro R ⟨G,q,D⟩;have v:=ae D;have M:=ae q;have Z:row? R Y 0 2=af (ints y):=G.aL p;have c2:row? R I 0 2=af (ints x):=q.aL Q;have P:∀W,(binOp .eql 43 (.agg (ints x)) (.agg (ints y))).run ai W=.ok (.bool (decide (x=y))) W:=mJ x y Q p;clear G q D F;by_cases t:x=y
   ·have E:(decide (x=y))=ak:=by simpa using t
    rw[E]at P;have K:Hid (decide (x∈a)=ak):=by unfold Hid;rw[decide_eq_true_eq,t];exact kO g.out
    clear t g E;go_wp2_with fail;go_ret;exact⟨cG K.out.symm,v.out⟩
   have E:(decide (x=y))=aq:=by simpa using t
   rw[E]at P;have L:Hid (a[k]?≠af x):=by unfold Hid;rw[g.out];intro e;exact t (aX e).symm
   clear t g E;go_wp2_with fail;go_roundw
   case rel=>refine⟨k+1,by omega,by go_num,λj J=> ?_,M.out,v.out⟩;by_cases N:j=k;rw[N];exact L.out;exact l.out j (by omega)
   simp[intOf];omega
  have K:Hid (decide (x∈a)=aq):=by unfold Hid;rw[decide_eq_false_iff_not];intro hm;obtain⟨j,J⟩:=List.getElem?_of_mem hm;exact l.out j (by have:=(bg.1 J).1;omega) J
  go_wp2_with fail;go_ret;exact⟨cG K.out.symm,f.out⟩
end
namespace Rel
open Go.Conc Go.ConcN
def Ends(P:br)(b:aB->ar->Prop)(m:Machine)(t:Trace):Prop:=∃N a o c d,runNT P (N+1) m t=(.ended o c,d)/\runN P N m=.next a/\step P a=.ended o c/\Go.Conc.Good P b a o c d
section
variable{P:br} {Z:aB->ar->Prop} {Y:Nat->Prop} {B:Nat} {gs:Array aw} {q:Nat->Nat} {t u:Trace} {w:ar} {sl:Option (Nat×Nat)} {a:aw}
def Ends.step{m c}{b:Trace}(h:stepT P m=(.next c,b))(k:Ends P Z c (t++b)):Ends P Z m t:=by obtain⟨N,a,o,w',i,d,e,f,g⟩:=k;exact⟨N+1,a,o,w',i,by rw[runNT_succ_next h];exact d,by rw[runN_succ_next h];exact e,f,g⟩
def Ends.now{m o b}{a:Trace}(h:stepT P m=(.ended o b,a))(k:Go.Conc.Good P Z m o b (t++a)):Ends P Z m t:=⟨0,m,o,b,t++a,by simp[runNT,h],rfl,by simp[Go.step,h],k⟩
def Ends.runs{N m c d}(h:runNT P N m t=(.next c,d))(k:Ends P Z c d):Ends P Z m t:=by obtain⟨e,a,o,l,b,f,g,i,j⟩:=k;refine⟨N+e,a,o,l,b,?_,?_,i,j⟩;rw[kg,runNT_add,h];exact f;rw[runN_add,<-runNT_fst P _ _ t,h];exact g
def uo.mono{c b}(h:uo Y B c t)(d:B<=b):uo Y b c t:=⟨h.clean,h.known,h.over,h.hears,λop a x e=>Loc.low_mono d (h.seen op a x e),h.gs⟩
def uo.app0{q}(h:uo Y B q t)(l:0<q)(f:∀op∈u,op.g=0)(D:∀op∈u,∀x,op.act.touch? =af x->¬ShL Y x.loc)(v:Deaf (t++u) 0=Deaf t 0)(C:∀op∈u,∀x,op.act.touch? =af x->x.loc.low B):uo Y B q (t++u):=by refine⟨λe=>noRace_append (h.clean e) f λi a g op c b s r=> ?_,λi a g hm=> ?_,handedOver_app h.over λop c=>.inl (f op c),v.trans h.hears,λop c x d=>(nl.1 c).elim (λy=>h.seen op y x d) λy=>C op y x d,λi op w=> ?_⟩;rcases h.known i a g r.2.1 with z|⟨m,A⟩;exact z;exact absurd (r.1▸m) (D op c b s);obtain⟨x,d,o⟩:=touch_of g;rcases getElem?_append_cases d with⟨_,n⟩|⟨_,p⟩;exact(h.known i a (by rw[touchAt_of n];exact o) hm).imp (·.app u) id;have:=knows_own d;rw[f x p]at this;exact .inl this;rcases getElem?_append_cases w with⟨_,j⟩|⟨_,k⟩;exact h.gs i op j;rw[f op k];exact l
def uo.mute{q g}(h:uo Y B q t)(v:g≠0)(m:g<q)(n:∀op∈u,op.g=g)(j:∀op∈u,op.act.touch? =ah):uo Y B q (t++u):=by refine⟨λf=>noRace_append (h.clean f) n λi a _ op c b r _=>(by rw[j op c]at r;cases r),λi a s hm=> ?_,handedOver_app h.over λop c=>.inr (j op c),(Deaf_other t v u n).trans h.hears,λop c x e=>(nl.1 c).elim (λy=>h.seen op y x e) λy=>(by rw[j op y]at e;cases e),λi op w=> ?_⟩;obtain⟨x,e,d⟩:=touch_of s;rcases getElem?_append_cases e with⟨_,o⟩|⟨_,p⟩;exact(h.known i a (by rw[touchAt_of o];exact d) hm).imp (·.app u) id;rw[j x p]at d;cases d;rcases getElem?_append_cases w with⟨_,k⟩|⟨_,l⟩;exact h.gs i op k;rw[n op l];exact m
def Co.mono{a}(h:Co P Y B gs q t)(c:B<=a):Co P Y a gs q t:=⟨h.old,h.past.mono c,h.pos,λb d=>bQ (h.P4 b d) c⟩
def Co.own(h:Co P Y B gs q t){B'}(d:B<=B'){a'}(f)(m:∀o,o.status=.running\/o.status=.finished->f o=o)(j:∀op∈u,op.g=0)(g:∀op∈u,∀x,op.act.touch? =af x->¬ShL Y x.loc/\x.loc.low B')(l:Deaf (t++u) 0=Deaf t 0):Co P Y B' ((gs.map f).setIfInBounds 0 a') q (t++u):=by refine⟨λi x n c=> ?_,?_,by simp[h.pos],λb k=>bQ (h.P4 b k) d⟩;rw[aH (by omega),gd]at c;obtain⟨y,p,rfl⟩:=aG.1 c;have e:=h.old i y n p;rw[m y e.status,Deaf_other t (g':=0) (by omega) _ j];exact e;have:=(h.past.mono d).app0 h.pos j (λop a x c=>(g op a x c).1) l (λop a x c=>(g op a x c).2);simpa using this
def EvX(Y:Nat->Prop)(B:Nat)(e:Event):Prop:=(e.loc≠.mark .disable/\e.loc≠.mark .enable)/\∀x,(cM e).touch? =af x->¬ShL Y x.loc/\x.loc.low B
def Co.Ni(h:Co P Y B gs q t){B'}(g:B<=B'){a' es}(b:∀e∈es,EvX Y B' e)(d pos f)(i:∀o,o.status=.running\/o.status=.finished->f o=o):Co P Y B' ((gs.map f).setIfInBounds 0 a') q (t++b6 0 d pos es):=by refine h.own g f i (λop a=>by obtain⟨e,_,rfl⟩:=bk a;rfl) (λop a x j=>by obtain⟨e,c,rfl⟩:=bk a;exact(b e c).2 x j) ?_;rw[Deaf_own];exact deafBehind_still (λe c=>(b e c).1) _
def kQ(R:gs[0]? =af a)(n:a.status=.running)(h:Co P Y B gs q t)(K:∀b q' O p d,b.size=gs.size->b[0]? =af a->Co P Y B b q' O->(∃o r f,runT P (crowd b (w.at d) p) 0=(.ended o r,f)/\∀Q D,Go.Conc.Good P Z (crowd b Q D) o r (O++f))\/∃m' f,runT P (crowd b (w.at d) p) 0=(.next m',f)/\Ends P Z m' (O++f)):Ends P Z (crowd gs w sl) t:=by
 obtain⟨M,hM⟩:∃M,sumTo gs.size q=M:=⟨_,rfl⟩
 induction M using lj generalizing gs q t w sl with
 |_ M ih=>
  have W:∀g∈gs,awake g:=by
   intro g E;obtain⟨i,F,rfl⟩:=Array.mem_iff_getElem.1 E;rcases fP i with rfl|m;have:gs[0]=a:=by simpa[aS F]using R
   rw[this];exact awake_of (.inl n);exact awake_of ((h.old i _ m (aS F)).status.elim .inl λx=>.inr (.inr x))
  obtain⟨i,g,d,p,F,E,C⟩:=crowd_pick (P:=P) (w:=w) (sl:=sl) W ⟨0,a,R,n⟩;rcases fP i with rfl|m;rcases K gs q t p d rfl R h with⟨o,r,f,U,V⟩|⟨m',f,U,V⟩;exact .now (C.trans U) (V _ _);exact .step (C.trans U) V;have S:=h.old i g m F;have X:(i==0)=aq:=by simp;omega
  have v:i<gs.size:=(aC.1 F).1;cases z:q i with
  |zero=>rw[z]at S;rw[S.1]at E;cases E|succ k=>
   rw[z]at S;rcases S with⟨hf,_⟩|⟨_,G,es,hm,I,Vg⟩;rw[hf]at E;cases E;have A:=runT_crowd_go (P:=P) (sl:=p) (i:=i) F (by rw[X];exact I (w.at d));have J:sumTo gs.size (upd q i k)<sumTo gs.size q:=by have:=sumTo_upd q k id v;simp only[id,z]at this;change sumTo gs.size (upd q i k)+(k+1)=sumTo gs.size q+k at this;omega
   have l:∀op∈b6 i g.frame.fn g.frame.place es,op.g=i/\op.act.touch? =ah:=λop c=>by obtain⟨e,he,rfl⟩:=bk c;exact⟨rfl,touch_mute (hm e he)⟩
   have L:∀o:aw,o.status=.running\/o.status=.finished->woken P g G (w.at d) o=o:=λo ho=>by unfold Go.Conc.woken;split;exact again_running _ ho;rfl
   have u:((gs.map (woken P g G (w.at d))).setIfInBounds i G).size=gs.size:=by simp
   refine .step (C.trans A) (ih _ (by rw[<-hM];exact J) (gs:=(gs.map (woken P g G (w.at d))).setIfInBounds i G) (q:=upd q i k) ?_ ?_ ?_ (by rw[u]));rw[aH (by omega),gd,R,fD,L a (.inl n)];refine⟨λj x hj T=> ?_,?_,by rw[u];exact h.pos,h.P4⟩;by_cases s:i=j;subst s;rw[aQ (by simpa using v)]at T;obtain rfl:=aX T;rw[upd_same,Deaf_own];exact Vg;rw[aH s,gd]at T;obtain⟨y,hy,rfl⟩:=aG.1 T;have H:=h.old j y hj hy;rw[L y H.status,upd_ne q k (Ne.symm s),Deaf_other t s _ (λop c=>(l op c).1)];exact H;rw[u];exact h.past.mute (by omega) v (λop c=>(l op c).1) λop c=>(l op c).2
   intro b q' O N d' hs h0 hC;exact K b q' O N d' (hs.trans u) h0 hC
end
def zA(c:h9)(b:Ren)(a:dj):Prop:=pW (c.at a.fn) b a.tmps a.tmps/\a.kind=.normal/\a.defers=[]/\a.roundOf=ah
def zA.mono{P c d a}(e:Ext P d a){b}(h:zA c d b):zA c a b:=⟨h.1.mono e,h.2⟩
structure Kr(P:br) (c:h9) (π:Ren) (Shun:Nat->Prop) (B:Nat) (gs:Array aw) (q:Nat->Nat) (t:Trace) (g:aw) (w:ar):Prop where
 sub:Sub π
 hp:cg P c.sig π w w
 NH:∀b,π b b->¬Shun b
 le:B<=w.heap.size
 co:Co P Shun B gs q t
 g0:gs[0]? =af g
 old:∀b,Shun b->c.old<=b
def CY(P:br)(c:h9)(a:aB->ar->Prop)(g:aw)(w:ar):Prop:=∀(h:Tape)(d:Nat)(e:Ren)(gs:Array aw)(sl:Option (Nat×Nat))(q:Nat->Nat)(t:Trace)(b:Nat->Prop)(B:Nat),Kr P c e b B gs q t g w->(∀f∈g.frame::g.callers,zA c e f)->Ends P a (crowd gs (dG w h d) sl) t
section
variable{P:br} {c:h9} {Z:aB->ar->Prop}
def cg.rt{S a L R}(h:cg P S a L R)(t c:Tape)(d b):cg P S a (dG L t d) (dG R c b):=⟨h.ok,h.obj,h.mG,h.rm,h.old⟩
def cg.abk{S a L}(h:cg P S a L L)(t:Tape)(d):cg P S a (dG L t d) (dG L t d):=⟨h.ok,h.obj,h.mG,h.rm,h.old⟩
def CY.rt{g w}(h:CY P c Z g w)(j:Tape)(d):CY P c Z g (dG w j d):=by intro e f k gs sl q t b B a i;exact h e f k gs sl q t b B ⟨a.sub,⟨a.hp.ok,a.hp.obj,a.hp.mG,a.hp.rm,a.hp.old⟩,a.NH,a.le,a.co,a.g0,a.old⟩ i
def WZ{j d w}(s:Sub j)(k:cg P c.sig j w w)(l:∀b,j b b->¬d b)(n:∀b,d b->c.old<=b){e}(h:zy c.sig j e):EvX d w.heap.size e:=by
 cases h with|cell wr f=>obtain rfl:=s _ _ f;refine⟨by simp,λx a=> ?_⟩;rw[ofEvent_cell0]at a;simp only[pP,dS]at a;subst a;exact⟨λ⟨b,g,i⟩=>by cases g;exact l _ f i,(k.lt f).2⟩|obj wr f=>obtain rfl:=s _ _ f;refine⟨by simp,λx a=> ?_⟩;simp only[cM,pP,dS]at a;subst a;exact⟨λ⟨b,g,i⟩=>by cases g;exact l _ f i,(k.lt f).2⟩|room=>exact⟨by simp,λx a=>by cases a⟩|ext _=>exact⟨by simp,λx a=>by cases a⟩|old hm=>obtain⟨_,_,m,_⟩:=k.old _ _ hm;refine⟨by simp,λx a=> ?_⟩;rw[ofEvent_cell0]at a;simp only[pP,dS]at a;subst a;refine⟨λ⟨b,g,i⟩=> ?_,vE m⟩;cases g;have:=n _ i;have:=c.FG _ _ hm;omega
def MG(c:h9)(n:Nat)(e:Event):Prop:=∃a:Addr,e=⟨.cell a,aq,aq⟩/\a.block<c.old/\a.block<n
def VF{a}{w:ar}{n}(k:∀b,a b->c.old<=b)(l:n<=w.heap.size){e}(h:MG c n e):EvX a w.heap.size e:=by obtain⟨m,rfl,i,j⟩:=h;refine⟨by simp,λx d=> ?_⟩;rw[ofEvent_cell0]at d;simp only[pP,dS]at d;subst d;refine⟨λ⟨b,f,g⟩=> ?_,bQ j l⟩;cases f;have:=k _ g;omega
def Kr.step{l d B gs q t g w}(h:Kr P c l d B gs q t g w)(A:g.status=.running){g' w' m a}(e:Ext P l a)(u:Sub a)(j:cg P c.sig a w' w')(z:∀b,a b b->l b b\/w.heap.size<=b)(i:w.heap.size<=w'.heap.size)(k:∀e∈m,zy c.sig a e\/MG c w.heap.size e)(n pos f)(y:∀o,o.status=.running\/o.status=.finished->f o=o):Kr P c a d w'.heap.size ((gs.map f).setIfInBounds 0 g') q (t++b6 0 n pos m) g' w':=by
 have s:∀b,a b b->¬d b:=λb v r=>by rcases z b v with p|p;exact h.NH b p r;have:=h.co.P4 b r;have:=h.le;omega
 exact⟨u,j,s,ao _,h.co.Ni (bD h.le i) (λe x=>(k e x).elim (WZ u j s h.old) (VF h.old i)) n pos f y,by rw[aQ (by simpa using h.co.pos)],h.old⟩
def rR(P g a w o)(b:o.status=.running\/o.status=.finished):woken P g a w o=o:=by unfold Go.Conc.woken;split;exact again_running _ b;rfl
def CY.step{g w}(z:g.status=.running)(s:∀(x:Tape) d j,Sub j->cg P c.sig j w w->(∀m∈g.frame::g.callers,zA c j m)->∃g' w' l a,stepG P ak g (dG w x d)=.go g' w' l/\Ext P j a/\Sub a/\cg P c.sig a w' w'/\(∀b,a b b->j b b\/w.heap.size<=b)/\w.heap.size<=w'.heap.size/\(∀e∈l,zy c.sig a e\/MG c w.heap.size e)/\(∀m∈g'.frame::g'.callers,zA c a m)/\CY P c Z g' w'):CY P c Z g w:=by
 intro x d j gs sl q t f B h D;refine kQ h.g0 z h.co λn A I k C J y hC=>.inr ?_
 obtain⟨g',w',l,a,r,e,H,v,G,u,o,p,F⟩:=s x C j h.sub h.hp D;have E:Kr P c j f B n A I g w:=⟨h.sub,h.hp,h.NH,h.le,hC,y,h.old⟩;exact⟨_,_,runT_crowd_go (P:=P) (sl:=k) (i:=0) y r,F w'.tape w'.drawn a _ k A _ f _ (E.step z e H v G u o _ _ _ (rR P g g' w')) p⟩
def CY.ctl{g g' w}(l:g.status=.running)(e:∀w,stepG P ak g w=.go g' w #[])(j:∀a,cg P c.sig a w w->(∀b∈g.frame::g.callers,zA c a b)->∀b∈g'.frame::g'.callers,zA c a b)(k:CY P c Z g' w):CY P c Z g w:=.step l λi d a s f m=>⟨g',dG w i d,#[],a,e _,Ext.refl f.ok,s,f.rt _ _ _ _,λ_ h=>.inl h,ao _,by simp,j a f m,k.rt i d⟩
def MM{dc}(hc:dc.Fits P)(u:dc.sig=c.sig){k kR H cs}(K:∀D g' w' j,H D w'->GR dc k kR [fz] cs j D g'->Sub j->cg P c.sig j w' w'->(∀C∈cs,zA c j C)->CY P c Z g' w'/\∀C∈g'.frame::g'.callers,zA c j C):∀{D}{w},LT P k H D w->∀g(n:Tape) d y gs sl q t f B,Kr P c y f B gs q t g w->GR dc k kR [fz] cs y D g->(∀C∈cs,zA c y C)->Ends P Z (crowd gs (dG w n d) sl) t:=by
 intro D w W
 induction W with
 |stop hH=>intro g n d y gs sl q t f B h J Y;obtain⟨h1,O⟩:=K _ _ _ _ hH J h.sub h.hp Y;exact h1 n d y gs sl q t f B h O|step gsL o esL hs X YV ih=>
  rename_i D w;intro g n d y gs sl q t f B h J Y;have A:g.status=.running:=by rw[J.r]
  refine kQ h.g0 A h.co λN q' t' I p K3 h0 hC=>.inr ?_
  have G:cg P c.sig y w ((dG w n d).at p):=h.hp.rt w.tape n w.drawn p;rw[<-u]at G;obtain⟨M,v,ev,j,U,e,T,m,z,Q⟩:=JH hc hs X G J ak;rw[u]at m;have s':=h.sub.TU z rfl;have s:=xQ h.sub (L:=w) (R:=(dG w n d).at p) rfl m z;have E:v=dG (o n p) v.tape v.drawn:=by have O:=z.os;have h3:=z.output;have h4:=z.osL;have h5:=z.tY;have e4:(o n p).os=w.os:=h4;have e5:(o n p).output=w.output:=h5;have e2:v.os=w.os:=O;have e3:v.output=w.output:=h3;have e1:v.heap=(o n p).heap:=s;obtain⟨hp,tp1,dr,os,out⟩:=v;simp only[dG];simp only at e1 e2 e3;rw[e1,e2,e3,<-e4,<-e5]
  have Vk:cg P c.sig j (o n p) (o n p):=⟨m.ok,λl r x=>by have:=m.obj l r x;rw[s]at this;exact this,m.mG,m.mG,λa x hx=>by obtain⟨g1,g2,g3,_⟩:=m.old a x hx;exact⟨g1,g2,g3,g3⟩⟩;have hh:Kr P c y f B N q' t' g w:=⟨h.sub,h.hp,h.NH,h.le,hC,h0,h.old⟩;refine⟨_,_,runT_crowd_go (P:=P) (sl:=I) (i:=0) h0 U,?_⟩;have F:∀b,j b b->y b b\/w.heap.size<=b:=λb hb=>(z.new b b hb).imp id λx=>x.1
  have V:=hh.step (g':=M) (w':=o n p) A e s' Vk F z.BB (λe he=>.inl (by rw[<-u];exact Q e he)) g.frame.fn g.frame.place _ (rR P g M v);rw[E];exact ih n p M v.tape v.drawn j _ I q' _ f _ (by rw[<-E];exact V) T λC S=>(Y C S).mono e
end
end Rel
namespace Rel
open Go.Conc
def zv(P:br)(c:h9)(d:aB->ar->Prop)(b:dj)(k:List Item)(f:List dj):Exit->Act->ar->Prop
 |.normal,a,w=>CY P c d (G (b.at a k) f) w|.exit h,a,w=>∃g,exitTo h k=af g/\CY P c d (G (b.at a g) f) w
 |.ret,a,w=>∀e,CY P c d (G {b.at a e with mode:=.returning} f) w
 |_,_,_=>False
section
variable{P:br} {c:h9} {Z:aB->ar->Prop}
def zv.push{b x k d e a w}(n:x.plain=ak)(f:e≠.normal)(h:zv P c Z b k d e a w):zv P c Z b (x::k) d e a w:=by
 cases e with|normal=>exact absurd rfl f|exit o=>obtain⟨i,m,g⟩:=h;exact⟨i,by cases x<;>simp_all[exitTo,Item.plain],g⟩|ret=>exact h|goto l=>exact h|panic j=>exact h|outgrown=>exact h
end
def eU(P:br)(c:h9)(d:aB->ar->Prop)(i:eu)(x:Code)(Q:Exit->Act->ar->Prop)(a:Act)(w:ar):Prop:=∀(b:dj)(k:List Item)(g:List dj),b.fn=i->b.kind=.normal->ny k=ak->(∀e f h,Q e f h->zv P c d b k g e f h)->CY P c d (G (b.at a (.code x::k)) g) w
def ox(P:br)(c:h9)(d:aB->ar->Prop)(j:eu)(f:Array Oper)(l:List Nat)(Q:Exit->Act->ar->Prop)(a:Act)(w:ar):Prop:=∀(b:dj)(k:List Item)(h:List dj),b.fn=j->b.kind=.normal->ny k=ak->(∀e g i,Q e g i->zv P c d b k h e g i)->CY P c d (G (b.at a (.inRegion f l::k)) h) w
section
variable{P:br} {c:h9} {Z:aB->ar->Prop} {Y:eu} {Q X:Exit->Act->ar->Prop} {a:Act} {w:ar}
def Ry{g}{b:dj}{x y f}(h:∀d∈(b.at a x)::f,zA c g d):∀d∈(b.at a y)::f,zA c g d:=by intro d e;rcases b8.1 e with rfl|i;exact h (b.at a x) (by simp);exact h d (by simp[i])
def CY.move{b:dj}{x y d}(e:∀w,stepG P ak (G (b.at a x) d) w=.go (G (b.at a y) d) w #[])(k:CY P c Z (G (b.at a y) d) w):CY P c Z (G (b.at a x) d) w:=.ctl rfl e (λ_ _ h=>Ry h) k
def uR{x}(h:eU P c Z Y x Q a w)(m:∀e a w,Q e a w->X e a w):eU P c Z Y x X a w:=λb k g i l hp j=>h b k g i l hp λe d f q=>j e d f (m e d f q)
def mI(h:Q .normal a w):eU P c Z Y .skip Q a w:=λ_ _ _ _ _ _ b=>.move (λ_=>stepG_skip) (b _ _ _ h)
def og(h:Q .ret a w):eU P c Z Y .ret Q a w:=λb k j _ _ _ i=>.ctl rfl (λ_=>stepG_ret') (λ_ _ f g d=>by rcases b8.1 d with rfl|e;exact f (b.at a (.code .ret::k)) (by simp[G]);exact f g (by simp[G]at e|-;exact .inr e)) (i _ _ _ h _)
def KF{e}(h:Q (.exit e) a w):eU P c Z Y (.exit e) Q a w:=λb k i _ _ _ f=>by obtain⟨j,d,g⟩:=f _ _ _ h;exact .move (λ_=>stepG_exit d) g
def cu{x y}(h:eU P c Z Y x (Exit.then (λf m=>eU P c Z Y y Q f m) Q) a w):eU P c Z Y (.seq x y) Q a w:=by
 intro b k g i j hp d;refine .move (λ_=>stepG_seq) (h b (.code y::k) g i j rfl λe f m q=> ?_);cases e with|normal=>exact q b k g i j hp d|exit o=>exact(d _ _ _ q).push rfl (by simp)|ret=>exact(d _ _ _ q).push (x:=.code y) rfl (by simp)|goto l=>exact d _ _ _ q|panic n=>exact d _ _ _ q|outgrown=>exact d _ _ _ q
def gU{o x y t}(f:a.eval o=.bool t)(h:eU P c Z Y (if t then x else y) Q a w):eU P c Z Y (.cond o x y) Q a w:=λb k d e g hp i=>.move (λ_=>stepG_cond f) (h b k d e g hp i)
def yh{g x}(h:eU P c Z Y x (Exit.inBlock g Q) a w):eU P c Z Y (.block g x) Q a w:=by
 intro b k n o r hp f;refine .move (λ_=>stepG_block) (h b (.inBlock g::k) n o r rfl λe t v q=> ?_);cases e with
 |normal=>exact .move (λ_=>stepG_inBlock) (f _ _ _ q)|exit i=>
  by_cases d:i=g;simp only[Exit.inBlock,d,if_true]at q;exact⟨k,by simp[exitTo,d],f _ _ _ q⟩;simp only[Exit.inBlock,d,if_false]at q;obtain⟨s,m,p⟩:=f _ _ _ q;have:(g==i)=aq:=by simp;exact λh=>d h.symm
  exact⟨s,by simp[exitTo,this,m],p⟩
 |ret=>exact λj=>f _ _ _ q j|goto l=>exact f _ _ _ q|panic u=>exact f _ _ _ q|outgrown=>exact f _ _ _ q
def KG{x}(I:Nat->Act->ar->Prop)(n)(p:I n a w)(round:∀n a w,I n a w->eU P c Z Y x (Exit.then (λg m=>∃f,f<n/\I f g m) Q) a w):eU P c Z Y (.loop x) Q a w:=by
 intro b k o s t hp d;have j:∀n a w,I n a w->CY P c Z (G (b.at a (.code x::.inLoop x::k)) o) w:=by
  intro n
  induction n using lj with
  |_ n u=>
   intro a w r;refine round n a w r b (.inLoop x::k) o s t rfl λe g m q=> ?_
   cases e with|normal=>obtain⟨f,i,h⟩:=q;exact .move (λ_=>stepG_inLoop) (u f i g m h)|exit y=>exact(d _ _ _ q).push rfl (by simp)|ret=>exact(d _ _ _ q).push (x:=.inLoop x) rfl (by simp)|goto l=>exact d _ _ _ q|panic v=>exact d _ _ _ q|outgrown=>exact d _ _ _ q
 exact .move (λ_=>stepG_loop) (j n a w p)
def Fe{j d}(h:ox P c Z Y d (bB d.size) Q a w):eU P c Z Y (.region j d aq) Q a w:=λb k e f i hp g=>.move (λ_=>stepG_region) (h b k e f i hp g)
def bG{P:br}{c:h9}{Z:aB->ar->Prop}{Y:eu}{Q:Exit->Act->ar->Prop}{a:Act}{w:ar}{e:Nat}{b:Array Oper}{l:List Nat}(h:ox P c Z Y b l Q a w)(d:bB b.size=l:=by simp only[List.size_toArray,ax,aM,Nat.reduceAdd,bN,bB,List.range.loop];rfl):eU P c Z Y (.region e b aq) Q a w:=by subst d;exact Fe h
def dx{b}(h:Q .normal a w):ox P c Z Y b [] Q a w:=λ_ _ _ _ _ _ d=>.move (λ_=>stepG_region_end) (d _ _ _ h)
def TC{c f}(h:pW c f a.tmps a.tmps){v}(d)(b:bz c.sig f v v\/∃t,d=af t/\t∈c.bad/\kY c (c.kc t) v):pW c f (a.put d v).tmps (a.put d v).tmps:=by
 unfold Act.put;cases d with
 |none=>exact h|some d=>rcases b with b|⟨t,e,i,g⟩;exact h.set b;cases e;exact h.put (.inr ⟨i,rfl,g⟩)
def put_defers(a:Act)(d v):(a.put d v).defers=a.defers:=by unfold Act.put;cases d<;>rfl
def vR{i}{b:dj}{x y j}(h:∀e∈(b.at a x)::j,zA c i e){v}(d)(l:bz c.sig i v v\/∃t,d=af t/\t∈c.bd b.fn/\kY c (c.kd b.fn t) v):∀e∈(b.at (a.put d v) y)::j,zA c i e:=by intro e g;rcases b8.1 g with rfl|k;have f:=h (b.at a x) (by simp);exact⟨TC f.1 d l,f.2.1,by show(a.put d v).defers=[];rw[put_defers];exact f.2.2.1,rfl⟩;exact h e (by simp[k])
def Eo{d i e o}(m:d[i]? =af o)(p:aW o (yielded d a.tmps)=aq)(h:ox P c Z Y d e Q (a.put o.dst undef) w):ox P c Z Y d (i::e) Q a w:=λb k f g l hp j=>.ctl rfl (λ_=>stepG_unwanted m p) (λq _ n=>vR n _ (.inl (.tuple rfl (by simp)))) (h b k f g l hp j)
def vN{b}(h:pW c b a.tmps a.tmps):EvB c b a.eval a.eval:=⟨λ_=>⟨rfl,rfl⟩,λt _=>h.aaD t⟩
def ru{d}(h:pW c d a.tmps a.tmps):lY c d a.eval a.eval:=by
 intro o b;cases o with
 |tmp t=>
  have b:c.bad.contains t=aq:=by simpa[ew]using b
  exact h.getD (by simpa using b)
 |const v=>exact tN 4 v b d|global g=>cases b|func f=>exact .func (.func b) rfl (by simp) rfl (by simp)
def fA(W:c.Fits P){g i f o}(X:g[i]? =af o)(hw:aW o (yielded g a.tmps)=ak)(E:jh (c.at Y) o=ak){v w'}(htp:w'.tape=w.tape/\w'.drawn=w.drawn)(J:∀j d,(execOp a.eval o).run P (dG w j d)=.ok (.value v) (dG w' j d))(h:ox P c Z Y g f Q (a.put o.dst v) w'):ox P c Z Y g (i::f) Q a w:=by
 intro b k L q I hp hq;refine .step rfl λj d π s u K=> ?_
 have F:=(K (b.at a (.inRegion g (i::f)::k)) (by simp[G])).1;have n:cg P c.sig π (dG w j d) (dG w j d):=u.abk j d;rw[show(b.at a (.inRegion g (i::f)::k)).fn=Y from q]at F;have l:=(SU (W.at Y) u.ok (ru (c:=c.at Y) F) (vN (c:=c.at Y) F) o E).run n #[] #[];have r:(execOp a.eval o).runT P (dG w j d) #[]=(.ok (.value v) (dG w' j d),(execOp a.eval o).events P (dG w j d) #[]):=by rw[Sem.runT_eq,J]
 rw[r]at l;obtain⟨_,_,z⟩:=l;obtain⟨y,v',R',ev,e,A,m,H,B,_,C⟩:=z λ_ _ _=>rfl
 rw[r,jF]at A;simp only[Prod.mk.injEq,Result.ok.injEq]at A;obtain⟨⟨U,V⟩,z⟩:=A;subst U;subst V;have s':=s.TU B rfl;have p:bz c.sig y v v\/∃t,o.dst=af t/\t∈c.bd b.fn/\kY c (c.kd b.fn t) v:=by
  rcases m with m|⟨v2,M,N,_,O,R,S⟩;cases m with|value p=>exact .inl p
  cases N;exact .inr ⟨M,O,by rw[q];exact R,by rw[q];exact S⟩
 refine⟨_,_,_,y,stepG_value X hw (by rw[I];decide) (J j d),e,s',H,λb q=>(B.new b b q).imp id λx=>x.1,B.size,λx hx=>.inl (C x ?_),vR (λT D=>(K T D).mono e) _ p,(h b k L q I hp hq).rt j d⟩;rw[<-z];exact jq _ _ x hx
def SA{g i f o}(z:g[i]? =af o)(D:aW o (yielded g a.tmps)=ak){v}(B:∀j d,(execOp a.eval o).run P (dG w j d)=.ok (.value v) (dG w j d))(p:∀j d,∀e∈(execOp a.eval o).events P (dG w j d) #[],MG c w.heap.size e)(C:(∀m,pW (c.at Y) m a.tmps a.tmps->bz c.sig m v v)\/∃t,o.dst=af t/\t∈c.bd Y/\kY c (c.kd Y t) v)(h:ox P c Z Y g f Q (a.put o.dst v) w):ox P c Z Y g (i::f) Q a w:=by
 intro b k x n r hp A;refine .step rfl λj d m s l q=>⟨_,_,_,m,stepG_value z D (by rw[r];decide) (B j d),Ext.refl l.ok,s,l.rt _ _ _ _,λ_ h=>.inl h,ao _,λe y=>.inr (p j d e (jq _ _ e y)),?_,(h b k x n r hp A).rt j d⟩
 have u:=(q (b.at a (.inRegion g (i::f)::k)) (by simp[G])).1;rw[show(b.at a (.inRegion g (i::f)::k)).fn=Y from n]at u;exact vR q _ (C.imp (λh=>h m u) λh=>by rw[n];exact h)
def Ic{x y:dj}(a:x.fn=y.fn)(b:x.tmps=y.tmps)(c:x.todo=y.todo)(d:x.defers=y.defers)(e:x.mode=y.mode)(f:x.kind=y.kind)(g:x.roundOf=y.roundOf):x=y:=by obtain⟨_,_,_,_,_,_,_⟩:=x;obtain⟨_,_,_,_,_,_,_⟩:=y;simp only at a b c d e f g;subst a;subst b;subst c;subst d;subst e;subst f;subst g;rfl
def yi(hc:c.Fits P){x}(R:dm (c.at Y) x=ak)(hQ:∀e a w,Q e a w->(e=.normal\/e=.ret)/\a.defers=[])(L:∀e a w M d,Q e a (dG w M d)->Q e a w)(h:∀M d,x.wp P Q a (dG w M d)):eU P c Z Y x Q a w:=by
 intro b k cs hb E hp hq M d π gs sl q t F B hh hf;have g:=hf (b.at a (.code x::k)) (by simp[G]);have s:=g.1;rw[show(b.at a (.code x::k)).fn=Y from hb]at s;have hT:=Du (c:=c.at Y) (its:=[.code x]) (Q:=Q) (hc.at Y) E hh.sub hh.hp s g.2.2.1 (.cons (.code R) .nil) (λe a w h=>(hQ e a w h).1) λt=>h t 0 b [sent] [fz]
 refine MM (c:=c) (dc:=c.at Y) (k:=[sent]) (kR:=k) (cs:=cs) (hc.at Y) rfl ?_ hT _ M d π gs sl q t F B hh ⟨rfl,rfl,.one (z8 E s g.2.2.1 (.cons (.code R) .nil) (IA hp)) rfl⟩ λH g=>hf H (by simp[G];exact .inr g)
 intro X f w' j hH hg S YY hv;obtain⟨h1,u,t',d',C⟩:=hH;obtain⟨e1,e2,z⟩:=hg;have p:pQ (c.at Y) [sent] k j X.frame f.frame/\f.callers=cs:=by
  have J:X.callers=[fz]:=h1;rw[J]at z;generalize hL:X.frame::[fz]=l at z;generalize hR:f.frame::f.callers=m at z;cases z with|one p _=>cases hL;cases hR;exact⟨p,rfl⟩|cons _ p hr=>cases hL;have:=hr.lt;simp at this
 obtain⟨hF,K⟩:=p;have hF':=hF;obtain⟨N,n,W,r,O,f6,f7,f8,v,_,_⟩:=hF';rcases C with⟨D,i⟩|⟨todo,D,i⟩;have i:=L _ _ _ _ _ i;have o:=(hQ _ _ _ i).2;rw[D]at N n W r O f7 v;have et:f.frame.todo=k:=by
  have:G5 (c.at Y) [sent] k j [sent] f.frame.todo:=W;generalize f.frame.todo=y at this;generalize R:[sent]=x at this;cases this with|nil=>rfl|cons hi hr=>cases R;cases hi;rename_i I;cases I
 have U:f=G (b.at u k) cs:=by
  rw[e2,K];show iZ f.frame cs=_;congr 1;have T:f.frame.defers=[]:=by have r:dp (lE j) u.defers f.frame.defers:=r;rw[o]at r;generalize f.frame.defers=y at r;cases r;rfl
  have V:f.frame.roundOf=ah:=by have v:gh j ah f.frame.roundOf:=v;generalize f.frame.roundOf=y at v;cases v;rfl
  have A:u.tmps=f.frame.tmps:=pW.eq S n;exact Ic N A.symm et (T.trans o.symm) O (f8.trans E.symm) V
 rw[U];refine⟨hq _ _ _ i,λH g=> ?_⟩;rcases b8.1 g with rfl|h';exact⟨by have A:u.tmps=f.frame.tmps:=pW.eq S n;have n:pW (c.at Y) j u.tmps f.frame.tmps:=n;rw[<-A]at n;rw[<-hb]at n;exact n,E,o,rfl⟩;exact hv H h';have i:=L _ _ _ _ _ i;have o:=(hQ _ _ _ i).2;rw[D]at N n W r O f7 v;have U:f=G {b.at u f.frame.todo with mode:=.returning} cs:=by
  rw[e2,K];show iZ f.frame cs=_;congr 1;have T:f.frame.defers=[]:=by have r:dp (lE j) u.defers f.frame.defers:=r;rw[o]at r;generalize f.frame.defers=y at r;cases r;rfl
  have V:f.frame.roundOf=ah:=by have v:gh j ah f.frame.roundOf:=v;generalize f.frame.roundOf=y at v;cases v;rfl
  have A:u.tmps=f.frame.tmps:=pW.eq S n;exact Ic N A.symm rfl (T.trans o.symm) O (f8.trans E.symm) V
 rw[U];refine⟨hq _ _ _ i _,λH g=> ?_⟩;rcases b8.1 g with rfl|h';exact⟨by have A:u.tmps=f.frame.tmps:=pW.eq S n;have n:pW (c.at Y) j u.tmps f.frame.tmps:=n;rw[<-A]at n;rw[<-hb]at n;exact n,E,o,rfl⟩;exact hv H h'
end
section
variable{P:br} {c:h9} {Z:aB->ar->Prop} {Y:eu} {Q:Exit->Act->ar->Prop} {a:Act} {w:ar}
def wH{p}(s:Sub p){w}(M:cg P c.sig p w w){F}(O:F.results.toList.all (pf c.bad)=ak){a}(S:pW c p a a){v}{l:Tape}{h}(J:(results F a).run P (dG w l h)=.ok v (dG w l h))(n:Tape)(d):∃g r,(results F a).runT P (dG w n d) #[]=(.ok v (dG w n d),r)/\Ext P p g/\Sub g/\cg P c.sig g w w/\(∀b,g b b->p b b)/\bz c.sig g v v/\∀e∈r,zy c.sig g e:=by
 have k:=(vf M.ok F O S).run (M.rt l n h d) #[] #[];have o:(results F a).runT P (dG w l h) #[]=(.ok v (dG w l h),(results F a).events P (dG w l h) #[]):=by rw[Sem.runT_eq,J]
 rw[o]at k;obtain⟨_,_,D⟩:=k;obtain⟨g,V,j,r,e,y,K,f,m,A,B⟩:=D λi q X=>by omega
 have N:=s.TU m rfl;have C:v=V:=K.eq N;subst C;have I:j.heap=w.heap:=xQ s (L:=dG w l h) (R:=dG w n d) (L':=dG w l h) rfl f m;have z:j=dG w n d:=by
  have t:j.tape=n:=m.tape;have u:j.os=w.os:=m.os;have E:j.output=w.output:=m.output;have G:j.drawn=d:=by change j.drawn+h=d+h at A;omega
  clear m f y D o J;obtain⟨hp,U,W,Y,T⟩:=j;simp only at I t u E G;subst I;subst t;subst u;subst E;subst G;rfl
 subst z;rw[jF]at y;exact⟨g,r,y,e,N,⟨f.ok,f.obj,f.mG,f.rm,f.old⟩,λb H=>(m.new b b H).elim id λx=>by have Q:=(f.lt H).1;have t:w.heap.size<=b:=x.1;have u:b<w.heap.size:=Q;omega,K,B⟩
def Hq{a x g v}{t':Tape}{d'}(j:∀F,P.funcs[a.fn]? =af F->F.results.toList.all (pf (c.bd a.fn))=ak)(E:a.leaving P (dG w t' d') (.returned v))(i:∀m,zA c m x->bz c.sig m v v->zA c m (x.finish v))(k:CY P c Z (G (x.finish v) g) w):CY P c Z (G a (x::g)) w:=by
 obtain⟨hm,B,D,F,r,I⟩:=E;refine .step rfl λh d m s L o=> ?_
 have K:=(o a (by simp[G])).1;obtain⟨l,u,z,e,M,q,H,p,n⟩:=wH (c:=c.at a.fn) s L (j F r) K I h d;have J:stepG P ak (iZ a (x::g)) (dG w h d)=.go (iZ (x.finish v) g) (dG w h d) (seen P a.fn u++#[]):=by
  rw[hU ak a _ _ (by rw[hm];simp),mV ak a _ _ B hm,r];simp only[phase,z];have:doReturn P ak a (x::g) ah v (dG w h d)=.go (iZ (x.finish v) g) (dG w h d):=by unfold doReturn;simp only[D]
  rw[this];rfl
 refine⟨_,_,_,l,J,e,M,q.rt _ _ _ _,λb A=>.inl (H b A),ao _,λx t=>.inl (n x ?_),?_,k.rt h d⟩;rw[Array.append_empty]at t;exact jq _ _ x t;intro f C;rcases b8.1 C with rfl|y;exact i l ((o x (by simp[G])).mono e) p;exact(o f (by simp[G];exact .inr (.inr y))).mono e
def zZ{b:dj}{e i d k v}(f)(h:zA c f (b.at a (.inRegion e (i::d)::k)))(g:bz c.sig f v v):zA c f ((b.at a (.inRegion e (i::d)::k)).finish v):=by rw[lU];exact⟨TC h.1 _ (.inl g),h.2.1,by show(a.put _ v).defers=[];rw[put_defers];exact h.2.2.1,rfl⟩
def Hp{b:dj}{k y g i e o f args t F x}(J:g[i]? =af o)(L:aW o (yielded g a.tmps)=ak)(I:b.kind=.normal)(p:o.op=.call {callee:=.value (.func f),args,argTypes:=t})(z:P.funcs[f]? =af F)(l:(F.name== "runtime.NumGoroutine")=aq)(D:F.body=af x)(m:∀j u,args[j]? =af u->rX (c.at b.fn) f j u=ak\/(j∈c.bd f/\kY c (c.kd f j) (a.eval u)))(h:CY P c Z (G (fi P f (args.map a.eval) .normal) (b.at a (.inRegion g (i::e)::k)::y)) w):CY P c Z (G (b.at a (.inRegion g (i::e)::k)) y) w:=by
 have n:F.body.isNone=aq:=by rw[D];rfl
 refine .ctl rfl (λw=> ?_) (λO M s E A=> ?_) h;rw[stepG_enter J L (by rw[I];decide) (run_call_body p z l n)];congr 1;unfold listed;rw[events_call_body p z l n];exact seen_none P _;have C:=(s (b.at a (.inRegion g (i::e)::k)) (by simp[G])).1;rcases b8.1 A with rfl|H;refine⟨?_,rfl,rfl,rfl⟩;rw[show(G (fi P f (args.map a.eval) .normal) (b.at a (.inRegion g (i::e)::k)::y)).frame=fi P f (args.map a.eval) .normal from rfl,enter_at _ z D];refine⟨rfl,λj u v K s=> ?_⟩;have d:(args.map a.eval++dE (F.ntmps-(args.map a.eval).size) undef)[j]? =af u:=K;have q:(args.map a.eval++dE (F.ntmps-(args.map a.eval).size) undef)[j]? =af v:=s;rw[d]at q;obtain rfl:=aX q;rw[Array.getElem?_append]at d;split at d;rw[gd]at d;obtain⟨N,B,rfl⟩:=aG.1 d;rcases m j N B with r|r;exact EvB.arg (ru (c:=c.at b.fn) C) (vN (c:=c.at b.fn) C) r;exact .inr ⟨r.1,rfl,r.2⟩;rw[Array.getElem?_replicate]at d;split at d;cases d;exact .inl (.tuple rfl (by simp));cases d;exact s E H
def BG{f g i x y b a m}(h:qZ c f g b a i (x::b) (y::m)):pQ c f g i x y/\m=a/\x.roundOf=ah:=by
 generalize hL:x::b=l at h;generalize j:y::m=r at h;cases h with|one d e=>cases hL;cases j;exact⟨d,rfl,e⟩|cons _ d k=>cases hL;have:=k.lt;simp at this
def tX(O:c.Fits P){m i g o f args T R}(ho:m[i]? =af o)(hw:aW o (yielded m a.tmps)=ak)(hop:o.op=.call {callee:=.value (.func f),args,argTypes:=T})(hf:c.fn f=ak)(p:j8 (c.at Y) f 0 args.toList=ak)(y:∀N d,Calls P f (args.map a.eval) (dG w N d) R)(hR:∀e w,R e w->∃v,e=.returned v)(hrt:∀v w N d,R (.returned v) (dG w N d)->R (.returned v) w)(D:∀v S,R (.returned v) S->ox P c Z Y m g Q (a.put o.dst v) S):ox P c Z Y m (i::g) Q a w:=by
 intro b k cs V hk hp hq;obtain⟨F,x,hF,hx,_,C,L⟩:=O.fn f hf;have r:∀(l:List Operand)(E:Nat),j8 (c.at Y) f E l=ak->∀(j:Nat) u,l[j]? =af u->rX (c.at Y) f (E+j) u=ak:=by
  intro l
  induction l with
  |nil=>intro _ _ j u A;simp at A|cons x l ih=>
   intro E h j u A;simp only[j8,ay]at h;cases j with|zero=>simp only[List.getElem?_cons_zero,dS]at A;subst A;exact h.1|succ j=>have:=ih (E+1) h.2 j u (by simpa using A);rwa[show E+1+j=E+(j+1)by omega]at this
 refine Hp ho hw hk hop hF (by simpa using C) hx (λj u A=>.inl (by rw[V];have:=r args.toList 0 p j u (by simpa using A);rwa[bN]at this)) ?_
 intro N d π gs sl q t H B hh K;have ht:=(K (b.at a (.inRegion m (i::g)::k)) (by simp[G])).1;rw[show(b.at a (.inRegion m (i::g)::k)).fn=Y from V]at ht;have I:=EvB.WM (ru (c:=c.at Y) ht) (vN (c:=c.at Y) ht) p;have ha:sn c f π (args.map a.eval) (args.map a.eval):=⟨I.size,I.at_⟩;refine MM (c:=c) (dc:=c.at f) (k:=[]) (kR:=[]) (cs:=b.at a (.inRegion m (i::g)::k)::cs) (O.at f) rfl ?_ (uG (c:=c) O hf hh.sub hh.hp ha hR y) _ N d π gs sl q t H B hh ⟨rfl,rfl,.one (pQ.enter O hf ha) rfl⟩ λU s=>K U (by simp[G]at s|-;exact .inr s)
 intro gL g' S NV hH hg s' YY hv;obtain⟨h1,z,v,t',d',hr,hl⟩:=hH;obtain⟨e1,e2,M⟩:=hg;rw[h1]at M;obtain⟨n,W,hro⟩:=BG M;have X:=n.eq s';rw[<-X]at n e2;rw[e2,W];have J:(b.at a (.inRegion m (i::g)::k)).finish v=b.at (a.put o.dst v) (.inRegion m g::k):=by rw[lU,ho];rfl
 refine⟨Hq (λF' n=>by rw[z,hF]at n;cases n;rw[z];exact L) hl zZ (by rw[J];exact D v S (hrt _ _ _ _ hr) b k cs V hk hp hq),λU s=> ?_⟩;rcases b8.1 s with rfl|h';exact⟨by rw[z];exact n.tmps,n.kind,hl.2.1,hro⟩;exact hv U h'
def xf(P:br)(F:Func)(R:aB->ar->Prop):Exit->Act->ar->Prop
 |.normal,a,w|.ret,a,w=>∃v,(results F a.tmps).run P w=.ok v w/\R v w
 |_,_,_=>False
def sr(P:br)(c:h9)(Z:aB->ar->Prop)(f:eu)(args:Array aB)(w:ar)(R:aB->ar->Prop):Prop:=∃F x,P.funcs[f]? =af F/\(F.name== "runtime.NumGoroutine")=aq/\F.results.toList.all (pf (c.bd f))=ak/\F.body=af x/\eU P c Z f x (xf P F R) {tmps:=args++dE (F.ntmps-args.size) undef,defers:=[]} w
def tW{m i g o f args K R}(V:m[i]? =af o)(hw:aW o (yielded m a.tmps)=ak)(N:o.op=.call {callee:=.value (.func f),args,argTypes:=K})(s:∀j u,args[j]? =af u->rX (c.at Y) f j u=ak\/(j∈c.bd f/\kY c (c.kd f j) (a.eval u)))(z:sr P c Z f (args.map a.eval) w R)(C:∀v p,R v p->ox P c Z Y m g Q (a.put o.dst v) p):ox P c Z Y m (i::g) Q a w:=by
 intro b k O T U hp hq;obtain⟨F,x,J,A,I,X,y⟩:=z;refine Hp V hw U N J A X (by rw[T];exact s) ?_;rw[enter_at _ J X];have E:∀v,(b.at a (.inRegion m (i::g)::k)).finish v=b.at (a.put o.dst v) (.inRegion m g::k):=λv=>by rw[lU,V];rfl
 have n:∀(r:Act)(p:ar)(h:List Item),(∃v,(results F r.tmps).run P p=.ok v p/\R v p)->CY P c Z (G {(base f).at r h with mode:=.returning} (b.at a (.inRegion m (i::g)::k)::O)) p:=by rintro r p h ⟨v,hr,hR⟩;intro tp d π gs sl q t D B hh H;have hd:r.defers=[]:=(H {(base f).at r h with mode:=.returning} (by simp[G])).2.2.1;exact Hq (λF' L=>by have:P.funcs[f]? =af F':=L;rw[J]at this;cases this;exact I) (t':=p.tape) (d':=p.drawn) ⟨rfl,hd,rfl,F,J,hr⟩ zZ (by rw[E];exact C v p hR b k O T U hp hq) tp d π gs sl q t D B hh H
 refine y (base f) [] _ rfl rfl rfl λe r p q=> ?_
 cases e with
 |normal=>refine .ctl rfl (λ_=>stepG_end) (λπ _ W fr M=> ?_) (n r p [] q);rcases b8.1 M with rfl|S;exact W ((base f).at r []) (by simp[G]);exact W fr (by simp[G]at S|-;exact .inr S)
 |ret=>exact λh=>n r p h q|exit id=>exact q.elim|goto l=>exact q.elim|panic ch=>exact q.elim|outgrown=>exact q.elim
end
end Rel
section
open Go.RowKit
def sI(s t:Sys)(k:Nat):Bool:=s.write.toNat.testBit k&&(t.read.toNat.testBit k||t.write.toNat.testBit k)||t.write.toNat.testBit k&&s.read.toNat.testBit k
def pj(s t:Sys):Bool:=(bB 64).any λk=>sI s t k
def LS(s t)(C:zF s.read)(D:zF s.write)(E:zF t.read)(F:zF t.write)(w):Calls ai 124 #[.agg (ints s.list),.agg (ints t.list)] w λe a=>e=.returned (.bool (pj s t))/\Below w.heap.size w a:=by
 have y:Hid ((∀j,j<64->sI s t j=aq)->pj s t=aq):=λh=>by unfold pj;rw[List.any_eq_false];intro j B;rw[h j (eS.1 B)];simp
 have o:Hid (∀k,k<64->sI s t k=ak->pj s t=ak):=λk g h=>by unfold pj;rw[nS];exact⟨k,eS.2 g,h⟩
 generalize pj s t=O at*;have K:Hid (∀k,k<64->∀w,Calls ai 171 #[.int .i64 s.read,.int .i64 (k:Nat)] w λe a=>e=.returned (.bool (s.read.toNat.testBit k))/\w=a):=λk g w=>o8 _ k C g w
 have L:Hid (∀k,k<64->∀w,Calls ai 171 #[.int .i64 s.write,.int .i64 (k:Nat)] w λe a=>e=.returned (.bool (s.write.toNat.testBit k))/\w=a):=λk g w=>o8 _ k D g w
 have I:Hid (∀k,k<64->∀w,Calls ai 171 #[.int .i64 t.read,.int .i64 (k:Nat)] w λe a=>e=.returned (.bool (t.read.toNat.testBit k))/\w=a):=λk g w=>o8 _ k E g w
 have x:Hid (∀k,k<64->∀w,Calls ai 171 #[.int .i64 t.write,.int .i64 (k:Nat)] w λe a=>e=.returned (.bool (t.write.toNat.testBit k))/\w=a):=λk g w=>o8 _ k F g w
 clear C D E F;go_enter func124,ntmps124;go_upto_region 1 with(fail)
 refine a6 (λa=>(di a w.heap.size 54 (ints s.list)/\di a (w.heap.size+1) 54 (ints t.list))/\Below w.heap.size w a) ?_ ?_;have p:di (w.alloc (.cells (ints s.list) 54)) w.heap.size 54 (ints s.list):=di.new _ _ _;have n:di ((w.alloc (.cells (ints s.list) 54)).alloc (.cells (ints t.list) 54)) (w.alloc (.cells (ints s.list) 54)).heap.size 54 (ints t.list):=di.new _ _ _;rw[World.size_alloc]at n;exact⟨⟨p.after ((Below.refl _ _).alloc (ao _) _),n⟩,((Below.refl _ _).alloc (ao _) _).alloc (by simp) _⟩;rintro v ⟨⟨p,n⟩,G⟩;have S:v.cell? ⟨w.heap.size,3,ah⟩=af (.int .i64 s.read):=p.cell 3;have T:v.cell? ⟨w.heap.size,4,ah⟩=af (.int .i64 s.write):=p.cell 4;have U:v.cell? ⟨w.heap.size+1,3,ah⟩=af (.int .i64 t.read):=n.cell 3;have V:v.cell? ⟨w.heap.size+1,4,ah⟩=af (.int .i64 t.write):=n.cell 4;have u:=ae G;clear p n G;go_wp2_with fail
 go_loop [6] (λi=>∃k:Nat,k<=64/\i=.int .i64 k/\∀j,j<k->sI s t j=aq) (λi=>64-(intOf i).toNat)
 case atStart=>exact⟨0,by omega,rfl,λj B=>by omega⟩
 case round=>
  obtain⟨k,M,rfl,m⟩:=hrel;have l:=ae m;clear m;by_cases c:k<64
  ·have N:(k:Int)<64:=by omega
   have z:=K.out k c;have A:=L.out k c;have hC:=I.out k c;have r:=x.out k c;have f:=ae (o.out k c);have d:Hid (sI s t k=aq->∀j,j<k+1->sI s t j=aq):=λh j B=>by by_cases e:j=k;rw[e];exact h;exact l.out j (by omega)
   have b:Hid (sI s t k=(s.write.toNat.testBit k&&(t.read.toNat.testBit k||t.write.toNat.testBit k)||t.write.toNat.testBit k&&s.read.toNat.testBit k)):=rfl;generalize sI s t k=q at f d b;generalize s.read.toNat.testBit k=R at*;generalize s.write.toNat.testBit k=P at*;generalize t.read.toNat.testBit k=Q at*;generalize t.write.toNat.testBit k=H at*;have z:=ae z;have A:=ae A;have hC:=ae hC;have r:=ae r;go_wp2_with fail;refine(A.out _).mono ?_;rintro e a ⟨rfl,rfl⟩;cases P
   ·go_wp2_with fail;refine(r.out _).mono ?_;rintro e a ⟨rfl,rfl⟩;cases H
    ·go_wp2_with fail
     go_round
     case rel=>exact⟨k+1,by omega,by go_num,d.out (b.out.trans (by simp))⟩
     simp[intOf];omega
    go_wp2_with fail;refine(z.out _).mono ?_;rintro e a ⟨rfl,rfl⟩;cases R
    ·go_wp2_with fail
     go_round
     case rel=>exact⟨k+1,by omega,by go_num,d.out (b.out.trans (by simp))⟩
     simp[intOf];omega
    go_wp2_with fail;go_ret;exact⟨cG (f.out (b.out.trans (by simp))).symm,u.out⟩
   go_wp2_with fail;refine(hC.out _).mono ?_;rintro e a ⟨rfl,rfl⟩;cases Q
   ·go_wp2_with fail;refine(r.out _).mono ?_;rintro e a ⟨rfl,rfl⟩;cases H
    ·go_wp2_with fail;refine(r.out _).mono ?_;rintro e a ⟨rfl,rfl⟩;go_wp2_with fail
     go_round
     case rel=>exact⟨k+1,by omega,by go_num,d.out (b.out.trans (by simp))⟩
     simp[intOf];omega
    go_wp2_with fail;go_ret;exact⟨cG (f.out (b.out.trans (by simp))).symm,u.out⟩
   go_wp2_with fail;go_ret;exact⟨cG (f.out (b.out.trans (by simp))).symm,u.out⟩
  have:k=64:=by omega
  subst this;have J:=ae (y.out l.out);go_wp2_with fail;go_ret;exact⟨cG J.out.symm,u.out⟩
end
section
open Go.RowKit Go.ChangeShapes Go.WideShapes Go.ChangeAt Go.Deep
def fU(P:br):Nat->cD->Bool
 |0,_=>aq|n+1,t=>match P.underlying t with|some (.int .i64)=>P.cellsOf t==1|some (.struct a)=>a.toList.all (λf=>fU P n f.type)&&(bB (P.cellsOf t)).all λj=>a.toList.any λf=>decide (f.offset<=j)&&decide (j<f.offset+P.cellsOf f.type)|some (.array m e)=>fU P n e&&decide (P.cellsOf t=m*P.cellsOf e)&&decide (0<P.cellsOf e)|_=>aq
def QB(a:List aB):Prop:=∀c∈a,∃x:Int,c=.int .i64 x/\Fits x
def KT{x}(h:(Lit.int .i64 x).wf=ak):Fits x:=by simp only[Lit.wf,IntKind.min,IntKind.max,IntKind.signed,IntKind.bits,ay,decide_eq_true_eq,if_true]at h;unfold Fits;omega
section
variable{H:Type} {Z:cD×aB->H} {P:br} {w:ar} {Y:Nat} {X:Nat->Bool} {W:Bool}
def xl:∀n a t s y,fU P n t=ak->DataW.trod Z P w Y X W a t s=af y->s.length=P.cellsOf t/\QB s
 |0,_,_,_,_,h,_=>by simp[fU]at h|n+1,a,t,s,y,h,ht=>by
  unfold fU at h;split at h;rename_i q;obtain⟨x,rfl,_,M⟩:=DataW.trod_int q ht;refine⟨by simpa using(beq_iff_eq.1 h).symm,λc o=> ?_⟩;rw[List.mem_singleton.1 o];exact⟨x,rfl,KT M⟩;rename_i N q;obtain⟨G,m,_,_,F,r,z⟩:=DataW.trod_struct q ht;simp only[ay,lD]at h;obtain⟨u,H⟩:=h;refine⟨F,λc o=> ?_⟩;obtain⟨j,C,d⟩:=bR.1 o;have g:=H j (by simp;omega);simp only[nS,ay,decide_eq_true_eq]at g;obtain⟨f,p,K,L⟩:=g;obtain⟨i,B,A⟩:=bR.1 p;have l:=z i f (by rw[<-A];simp at B;simp[aS B]);have b:i<G.length:=by rw[r];simpa using B
  rw[aj b]at l;obtain⟨_,v⟩:=xl n m f.type _ _ (u f p) l;refine v c ?_;rw[List.mem_iff_getElem?];refine⟨j-f.offset,?_⟩;rw[gF,if_pos (by omega),List.getElem?_drop,show f.offset+(j-f.offset)=j from by omega,aj C,d];rename_i m e q;obtain⟨G,k,_,_,F,r,z⟩:=DataW.trod_array q ht;simp only[ay,decide_eq_true_eq]at h;obtain⟨⟨u,H⟩,g⟩:=h;refine⟨F,λc o=> ?_⟩;obtain⟨j,C,d⟩:=bR.1 o;have D:j<m*P.cellsOf e:=by omega
  have E:j / P.cellsOf e<m:=(Nat.div_lt_iff_lt_mul g).2 D;have l:=z (j / P.cellsOf e) E;have b:j / P.cellsOf e<G.length:=by omega
  rw[aj b]at l;obtain⟨_,v⟩:=xl n k e _ _ u l;refine v c ?_;rw[List.mem_iff_getElem?];have I:=Nat.div_add_mod j (P.cellsOf e);have J:=Nat.mod_lt j g;rw[Nat.mul_comm]at I;refine⟨j % P.cellsOf e,?_⟩;rw[gF,if_pos J,List.getElem?_drop,I,aj C,d];cases h
def IX{t e v d p}(n)(ht:P.underlying t=af (.slice e))(hB:fU P n e=ak)(l:0<P.cellsOf e)(hv:∃A len f,v=.slice A len f)(h:DataW.Trod Z P w Y X W t v d p)(lW:∀x∈p,x.block<w.heap.size):∃A len f,v=.slice A len f/\f<=maxLen/\len<=f/\(∃g sp,d=.slice g sp/\g.length=len\/len=0)/\∃B:List Int,Reads w w.heap.size (P.cellsOf e) A len (B.map (aD .i64))/\∀x∈B,Fits x:=by
 obtain⟨A,len,f,rfl⟩:=hv;obtain⟨S,hf⟩:=h;rcases open_slice ht hf with⟨i,C⟩|⟨a,ac',R,m,k,D,Pl,i,hb,hl,hm,N,C,hi⟩;simp only[iJ,List.cons.injEq,Value.slice.injEq,and_true]at i;obtain⟨rfl,rfl,rfl⟩:=i;exact⟨ah,0,0,rfl,by decide,ao _,⟨[],[],cc rfl⟩,[],⟨by simp,λJ=>absurd J (by omega)⟩,by simp⟩;simp only[iJ,List.cons.injEq,Value.slice.injEq,and_true]at i;obtain⟨rfl,rfl,rfl⟩:=i;have hlm:len<=m:=by rw[N];split<;>omega
 simp only[Prod.mk.injEq]at C;obtain⟨rfl,rfl⟩:=C;refine⟨_,_,_,rfl,hm,hl,⟨_,_,bq ⟨rfl,by simp⟩⟩,?_⟩;have c:∀j,j<len*P.cellsOf e->∃x:Int,w.cell? (a.add j)=af (.int .i64 x)/\Fits x:=by intro j U;have hjd:j / P.cellsOf e<len:=(Nat.div_lt_iff_lt_mul l).2 U;obtain⟨I,hc,O⟩:=hi (j / P.cellsOf e) (by omega);obtain⟨_,G⟩:=xl n _ e _ _ hB O;obtain⟨_,KZ,L⟩:=World.cells?_some hc;have h7:=Nat.mod_lt j l;have T:=L _ h7;rw[Go.Deep.add_add,Nat.mul_comm,Nat.div_add_mod]at T;obtain⟨x,C,E⟩:=G _ (aF (show j % P.cellsOf e<I.length by omega));exact⟨x,by rw[T,aj (by omega),C],E⟩
 have M:∃B:List Int,B.length=len*P.cellsOf e/\(∀j x,B[j]? =af x->w.cell? (a.add j)=af (.int .i64 x))/\∀x∈B,Fits x:=by
  generalize len*P.cellsOf e=q at c
  induction q with
  |zero=>exact⟨[],rfl,by simp,by simp⟩|succ q ih=>
   obtain⟨B,H,G,K⟩:=ih λj U=>c j (by omega)
   obtain⟨x,C,E⟩:=c q (by omega);refine⟨B++[x],by simp[H],?_,by simpa using λy Q=>by rcases Q with Q|rfl;exact K y Q;exact E⟩;intro j z F;rw[List.getElem?_append]at F;split at F;exact G j z F;have:j=q:=by have:=(bg.1 F).1;simp at this;omega
   subst this;simp[H]at F;rw[<-F];exact C
 obtain⟨B,H,G,K⟩:=M;refine⟨B,⟨by simp[H],λJ=> ?_⟩,K⟩;obtain⟨x0,r,_⟩:=c 0 (Nat.mul_pos J l);obtain⟨b,o,s⟩:=a;have hs:s=ah:=by
  unfold da at r;split at r;cases s with|none=>rfl|some _=>simp[Addr.add]at r
  cases r
 subst hs;refine⟨b,o,rfl,?_,?_⟩;exact World.block_lt_of_cell? w ⟨b,o,ah⟩ (by simpa[Addr.add]using r);intro j u V;rw[dX]at V;obtain⟨x,C,rfl⟩:=aG.1 V;have:=G j x C;rwa[Addr.add_lit]at this
def AH{r j t e v d p}(n)(g:P.underlying t=af (.slice e))(k:fU P n e=ak)(c:0<P.cellsOf e)(l:Value.okWide P w r j t v)(h:DataW.Trod Z P w Y X W t v d p)(f:∀x∈p,x.block<w.heap.size):∃A len b,v=.slice A len b/\b<=maxLen/\len<=b/\(∃a m,d=.slice a m/\a.length=len\/len=0)/\∃i:List Int,Reads w w.heap.size (P.cellsOf e) A len (i.map (aD .i64))/\∀x∈i,Fits x:=IX n g k c (okWide_slice g l) h f
def uI(i:laidOutB P=ak):∀{f}{vs}{e}{a}{W c},(∀t∈f,P.readableRec t=ak/\t<P.types.size)->DataW.TrodAll Z P W 0 (λ_=>ak) ak f vs e a->Below W.heap.size W c->(∀x∈a,x.block<W.heap.size)->DataW.TrodAll Z P c 0 (λb=>decide (b<W.heap.size)) ak f vs e a|[],vs,e,a,W,c,_,h,_,_=>by obtain⟨rfl,rfl,rfl⟩:=trodAll_nil h;exact trodAll_mk0|t::f,vs,e,a,W,c,ht,h,hb,lW=>by obtain⟨v,n,d,j,p,q,rfl,rfl,rfl,k,l⟩:=trodAll_cons h;exact trodAll_cons_mk (Below.trod i (ht t (by simp)).1 (ht t (by simp)).2 k hb λx g=>lW x (by simp[g])) (uI i (λu m=>ht u (by simp[m])) l hb λx g=>lW x (by simp[g]))
def R6{f}{s:ChangeSpec}{W l args g u b r}(y:laidOutB P=ak)(k:∀t∈f.params.toList,P.readableRec t=ak/\t<P.types.size)(e:f.resultTypes=#[r])(j:P.underlying r=af .bool)(a:s.vars=[])(i:s.fn H g={results:=[.lit (.bool ak)],args:=g})(n:DataW.Whole Z P f.params.toList s.vars aq W args.toList g u b)(o:Below W.heap.size W l):s.post Z P f aq ak aq aq W args (.bool ak) l:=by
 have d:=n;obtain⟨p,q,v,m,rfl,w,z⟩:=n;rw[a]at m;obtain⟨rfl,rfl⟩:=trodVars_none m;have h:∀x∈p++[],x.block<W.heap.size:=λx c=>d.lt x c
 refine⟨g,[],p++[],[],p,[],d,?_,?_,?_,?_,by simp⟩;rw[cK,i,e];exact trodAll_mk1 (shut_bool j ak);rw[cK,i];exact uI y k v o λx c=>h x (by simpa using c)
 rw[cK,i,a];exact rfl;exact World.keptBut_mono (λx c=>⟨c,by simp at c;exact cc (bq c)⟩) (o.frame (· ∈p++[]))
end
end
section
open Go.RowKit
def Ou(A M c V a d w)(h:fR w w.heap.size 11 A a)(F:fR w w.heap.size 11 M d)(hx:a.length<=maxLen)(hy:d.length<=maxLen):Calls ai 34 #[.slice A a.length c,.slice M d.length V] w λe z=>e=.returned (.bool (gW a d))/\Below w.heap.size w z:=by
 have H:=ae h;have S:=ae F;have hx':(a.length:Int)<=9223372036854775807:=by unfold maxLen at hx;omega
 have hy':(d.length:Int)<=9223372036854775807:=by unfold maxLen at hy;omega
 have K:Hid (∀r∈a,r.length=11):=h.1;have L:Hid (∀r∈d,r.length=11):=F.1;clear h F;go_enter func34,ntmps34;by_cases hl:a.length=d.length;rotate_left
 ·have X:((a.length:Int) !=(d.length:Int))=ak:=by simp;omega
  have B:Hid (gW a d=aq):=by simp only[Hid,gW,decide_eq_false_iff_not];rintro rfl;exact hl rfl
  go_wp2_with fail;go_ret;exact⟨cG B.out.symm,Below.refl _ _⟩
 have X:((a.length:Int) !=(d.length:Int))=aq:=by simp;omega
 go_wp2_with fail;go_loopw [14] (λi z=>∃k:Nat,k<=a.length/\i=.int .i64 k/\(∀j,j<k->a[j]? =d[j]?)/\Below w.heap.size w z) (λi _=>a.length-(intOf i).toNat)
 case atStart=>exact⟨0,by omega,rfl,λj G=>by omega,Below.refl _ _⟩
 case round=>
  obtain⟨k,hk,rfl,s,N⟩:=hrel;have q:=ae s;have f:=ae N;clear s N;by_cases t:k<a.length
  ·have Z:(k:Int)<a.length:=by omega
   have P:(k:Int)<d.length:=by omega
   obtain⟨b,o,rfl,Y,D⟩:=(H.out.below f.out).at_ t;obtain⟨U,o',rfl,O,g⟩:=(S.out.below f.out).at_ (k:=k) (by omega);have p:Hid (a[k]? =d[k]?↔a[k]=d[k]'(by omega)):=by rw[aj t,aj (show k<d.length by omega)];exact⟨λh=>aX h,λh=>by rw[h]⟩
   have u:=K.out _ (aF t);have J:=L.out _ (aF (show k<d.length by omega));generalize a[k]=x at*;generalize d[k]'(by omega)=y at*;go_upto_region 6 with(fail)
   refine a6 (λz=>di z wr.heap.size 50 (ints x)/\Below wr.heap.size wr z) ⟨iT wr 50 [0,0,0,0,0,0,0,0,0,0,0] _ u,fy wr 50 [0,0,0,0,0,0,0,0,0,0,0] _⟩ ?_;rintro R ⟨E,m⟩;have l:=ae (f.out.trans (m.mono f.out.size));have c1:∀n:After R,row? n.w wr.heap.size 0 11=af (ints x):=λn=>(E.after n.below).aL u
   have c2:∀n:After R,row? n.w U (o'+k*11) 11=af (ints y):=λn=>(iP n.below (by have:=f.out.size;have:=m.size;omega) _ _).trans ((iP m (by have:=f.out.size;omega) _ _).trans g)
   have Q:∀W,(binOp .neq 50 (.agg (ints x)) (.agg (ints y))).run ai W=.ok (.bool (!decide (x=y))) W:=VB x y u J;clear E m D g;by_cases v:x=y
   ·have C:(decide (x=y))=ak:=by simpa using v
    rw[C]at Q;have T:Hid (a[k]? =d[k]?):=p.out.2 v;clear v p C;refine bK (by kernel_rfl) (by kernel_rfl) ?_;repeat(go_big_quiet_step (fail))
    refine wpQuiet_nil ?_;rintro _ ⟨n,rfl⟩;go_wp2_with fail;go_roundw
    case rel=>refine⟨k+1,by omega,by go_num,λj G=> ?_,l.out.trans (n.below.mono l.out.size)⟩;by_cases I:j=k;rw[I];exact T.out;exact q.out j (by omega)
    simp[intOf];omega
   have C:(decide (x=y))=aq:=by simpa using v
   rw[C]at Q;have B:Hid (gW a d=aq):=by simp only[Hid,gW,decide_eq_false_iff_not];intro e;exact v (p.out.1 (by rw[e]))
   clear v p C;refine bK (by kernel_rfl) (by kernel_rfl) ?_;repeat(go_big_quiet_step (fail))
   refine wpQuiet_nil ?_;rintro _ ⟨n,rfl⟩;go_wp2_with fail;go_ret;exact⟨cG B.out.symm,l.out.trans (n.below.mono l.out.size)⟩
  have B:Hid (gW a d=ak):=by simp only[Hid,gW,decide_eq_true_eq];apply kM;intro j;by_cases G:j<k;exact q.out j G;rw[iD (by omega),iD (by omega)]
  go_wp2_with fail;go_ret;exact⟨cG B.out.symm,f.out⟩
def KP(A M c V a d w)(h:fR w w.heap.size 4 A a)(F:fR w w.heap.size 4 M d)(hx:a.length<=maxLen)(hy:d.length<=maxLen):Calls ai 18 #[.slice A a.length c,.slice M d.length V] w λe z=>e=.returned (.bool (gW a d))/\Below w.heap.size w z:=by
 have H:=ae h;have S:=ae F;have hx':(a.length:Int)<=9223372036854775807:=by unfold maxLen at hx;omega
 have hy':(d.length:Int)<=9223372036854775807:=by unfold maxLen at hy;omega
 have K:Hid (∀r∈a,r.length=4):=h.1;have L:Hid (∀r∈d,r.length=4):=F.1;clear h F;go_enter func18,ntmps18;by_cases hl:a.length=d.length;rotate_left
 ·have X:((a.length:Int) !=(d.length:Int))=ak:=by simp;omega
  have B:Hid (gW a d=aq):=by simp only[Hid,gW,decide_eq_false_iff_not];rintro rfl;exact hl rfl
  go_wp2_with fail;go_ret;exact⟨cG B.out.symm,Below.refl _ _⟩
 have X:((a.length:Int) !=(d.length:Int))=aq:=by simp;omega
 go_wp2_with fail;go_loopw [14] (λi z=>∃k:Nat,k<=a.length/\i=.int .i64 k/\(∀j,j<k->a[j]? =d[j]?)/\Below w.heap.size w z) (λi _=>a.length-(intOf i).toNat)
 case atStart=>exact⟨0,by omega,rfl,λj G=>by omega,Below.refl _ _⟩
 case round=>
  obtain⟨k,hk,rfl,s,N⟩:=hrel;have q:=ae s;have f:=ae N;clear s N;by_cases t:k<a.length
  ·have Z:(k:Int)<a.length:=by omega
   have P:(k:Int)<d.length:=by omega
   obtain⟨b,o,rfl,Y,D⟩:=(H.out.below f.out).at_ t;obtain⟨U,o',rfl,O,g⟩:=(S.out.below f.out).at_ (k:=k) (by omega);have p:Hid (a[k]? =d[k]?↔a[k]=d[k]'(by omega)):=by rw[aj t,aj (show k<d.length by omega)];exact⟨λh=>aX h,λh=>by rw[h]⟩
   have u:=K.out _ (aF t);have J:=L.out _ (aF (show k<d.length by omega));generalize a[k]=x at*;generalize d[k]'(by omega)=y at*;go_upto_region 6 with(fail)
   refine a6 (λz=>di z wr.heap.size 45 (ints x)/\Below wr.heap.size wr z) ⟨iT wr 45 [0,0,0,0] _ u,fy wr 45 [0,0,0,0] _⟩ ?_;rintro R ⟨E,m⟩;have l:=ae (f.out.trans (m.mono f.out.size));have c1:∀n:After R,row? n.w wr.heap.size 0 4=af (ints x):=λn=>(E.after n.below).aL u
   have c2:∀n:After R,row? n.w U (o'+k*4) 4=af (ints y):=λn=>(iP n.below (by have:=f.out.size;have:=m.size;omega) _ _).trans ((iP m (by have:=f.out.size;omega) _ _).trans g)
   have Q:∀W,(binOp .neq 45 (.agg (ints x)) (.agg (ints y))).run ai W=.ok (.bool (!decide (x=y))) W:=Sv x y u J;clear E m D g;by_cases v:x=y
   ·have C:(decide (x=y))=ak:=by simpa using v
    rw[C]at Q;have T:Hid (a[k]? =d[k]?):=p.out.2 v;clear v p C;refine bK (by kernel_rfl) (by kernel_rfl) ?_;repeat(go_big_quiet_step (fail))
    refine wpQuiet_nil ?_;rintro _ ⟨n,rfl⟩;go_wp2_with fail;go_roundw
    case rel=>refine⟨k+1,by omega,by go_num,λj G=> ?_,l.out.trans (n.below.mono l.out.size)⟩;by_cases I:j=k;rw[I];exact T.out;exact q.out j (by omega)
    simp[intOf];omega
   have C:(decide (x=y))=aq:=by simpa using v
   rw[C]at Q;have B:Hid (gW a d=aq):=by simp only[Hid,gW,decide_eq_false_iff_not];intro e;exact v (p.out.1 (by rw[e]))
   clear v p C;refine bK (by kernel_rfl) (by kernel_rfl) ?_;repeat(go_big_quiet_step (fail))
   refine wpQuiet_nil ?_;rintro _ ⟨n,rfl⟩;go_wp2_with fail;go_ret;exact⟨cG B.out.symm,l.out.trans (n.below.mono l.out.size)⟩
  have B:Hid (gW a d=ak):=by simp only[Hid,gW,decide_eq_true_eq];apply kM;intro j;by_cases G:j<k;exact q.out j G;rw[iD (by omega),iD (by omega)]
  go_wp2_with fail;go_ret;exact⟨cG B.out.symm,f.out⟩
end
end Go.Proofs.YtknejlcijdngoaaGreat
