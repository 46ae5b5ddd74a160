/- Several texts in one, made short by a program of mine. -/
import Derived.Test.YtknejlcijdngoaaGreatEQ2
import Derived.Conc.CrowdComm
import Derived.Conc.CrowdStepC2
import Derived.Conc.Company
import Derived.Conc.CrowdRun
import Derived.Test.YtknejlcijdngoaaGreatProg
import Derived.WalkKit
import Derived.WalkSpells
import Derived.WalkLawsBesides
import Derived.Lib.Hide
import Derived.BigQuiet
import Derived.Shelf.Small.Bits
import Derived.Laws.StructEq
import Derived.Laws.ResultCell
import Derived.Laws.MakeOwn
import Derived.Deep.DeepCutAuto
set_option linter.unusedVariables false
set_option linter.unusedSimpArgs false
set_option linter.unusedSectionVars false
set_option maxHeartbeats 16000000
set_option maxRecDepth 100000
open Array renaming empty_append→kq,getElem?_eq_getElem→aX,getElem?_eq_some_iff→aL,getElem?_map→gq,getElem?_modify→bw,getElem?_setIfInBounds_ne→aO,getElem?_setIfInBounds_self_of_lt→aW,mem_append→ot,mem_of_getElem?→th,range→qU,replicate→eh
open Bool renaming and_eq_true→aM,eq_iff_iff→nJ,false_eq_true→e9,not_eq_true'→oa,or_eq_true→iU,false→aw,true→aA
open Go renaming Frame→bm,FuncId→bQ,Goroutine→ay,Operand→cw,Program→aS,TypeId→aF,Value→aq,World→ah
open Go.Conc renaming mem_ofEvents→bh
open Go.ConcN renaming Mode→fg
open Go.ConcN.Mode renaming retag→py
open Go.ConcR renaming mk→ig
open Go.Frame renaming enter→fu,finish_at→mV
open Go.Instr renaming buildSlice→fh,fill→fw,loadAt→dN,storeAt→eM
open Go.Lib renaming hid→af
open Go.MemAct renaming ofEvent→cN,touch?→r6
open Go.MemOp renaming ofEvents→bW
open Go.Region renaming wanted→bu
open Go.Result renaming andThen_ok→gP
open Go.Sem renaming run_bind→eo
open Go.Value renaming cells→iy,int→aZ,oneCell'→jm
open Go.World renaming block_lt_of_cell?→qV,cell?→c8,setCell→dA,setChan→pB
open Int renaming toNat_natCast→dL
open List renaming append_assoc→dn,append_nil→eN,eq_nil_of_length_eq_zero→gg,getD→bp,getElem?_eq_getElem→ao,getElem?_eq_some_iff→bH,getElem?_map→dK,getElem?_take→gN,length_append→bM,length_cons→aj,length_nil→ax,length_take→dW,map_append→dX,map_cons→fA,mem_cons→cy,mem_iff_getElem→dp,mem_map→aN,mem_of_getElem?→oX,mem_of_mem_take→oY,mem_range→mD,mem_toArray→pz,nil_append→cL,not_mem_nil→jo,range→aG,range'→fP,replicate→bZ,set_append_right→nP,size_toArray→au,take_append_drop→nQ,take_of_length_le→cI,take_succ_eq_append_getElem→aR
open List.range renaming loop→aB
open Nat renaming add_comm→dt,add_mul→k8,add_sub_cancel_left→ki,add_zero→kW,eq_zero_or_pos→nR,le_refl→az,le_trans→bP,lt_of_lt_of_le→bX,lt_or_ge→dM,mul_le_mul_right→il,one_mul→jR,strongRecOn→l7,zero_add→aC,zero_le→bS
open Option renaming map_eq_some_iff→aK,map_some→eY,none→ai,some→ae
open Option.some renaming inj→aY,injEq→dz
open Or renaming inl→br,inr→bR
namespace Go.Proofs.YtknejlcijdngoaaGreat
namespace Rel
open Go.Conc Go.ConcN
open Go.ConcR (KK WgAt rd wr mk Payload DC0 stA smA)
variable [Payload]
def fz (w:ah)(r:Nat):Option (aF×Nat×Nat×Nat):=match w.heap[r]? with|some (.cells c elem f)=>ae (elem,c.size,f)|_=>ai
structure Ph where
 P:aS
 ty:aF
 Wg:Nat
 Ch:Nat
 n:Nat
 nj:Nat
 lo:Nat
 jv:Nat->aq
 z:aq
 od:Nat->Prop
 Std:Nat->Prop
 CB:Nat->Prop
 jl:Nat->Addr->Prop
 J0:Nat->ah->Prop
 JP:(Nat->Prop)->Nat->ah->Prop
structure Gh where
 own:Nat->Prop
 held:Nat->Prop
 over:Prop
def Gh.grow (γ:Gh)(w w':ah):Gh:={γ with own:=λb=>γ.own b\/(w.heap.size<=b/\b<w'.heap.size)}
def Gh.hold (γ:Gh)(i:Nat):Gh:={γ with held:=λk=>γ.held k\/k=i}
def Gh.close (γ:Gh):Gh:={γ with over:=True}
def vn:Loc->Option Nat
 | .cell a=>ae a.block
 | .obj r=>ae r
 |_=>ai
variable (φ:Ph)
structure Ph.eP (γ:Gh) (w aD:ah):Prop where
 own: ∀b,γ.own b->aD.heap[b]? =w.heap[b]?
 rd: ∀b,φ.od b->aD.heap[b]? =w.heap[b]?
 cell: ∀i a,γ.held i->φ.jl i a->aD.cell? a=w.cell? a
 pay: ∀b,φ.CB b->fz aD b=fz w b
 live:WgLive φ.ty φ.Wg w->WgLive φ.ty φ.Wg aD
 size:w.heap.size<=aD.heap.size
 tape:aD.tape=w.tape
 os:aD.os=w.os
 output:aD.output=w.output
def Ph.Acc (γ:Gh)(e:Event):Prop:=e=⟨.mark .noRoom,aw,aA⟩\/(e.sync=aw/\ ∃b,vn e.loc=ae b/\(γ.own b\/(∃i a,γ.held i/\φ.jl i a/\e.loc=.cell a)\/(e.write=aw/\φ.od b)))
structure Ph.BD (γ:Gh) (w w':ah) (es:Array Event):Prop where
 rest: ∀b,b<w.heap.size-> ¬γ.own b-> ¬φ.CB b->w'.heap[b]? =w.heap[b]?
 cells: ∀a,φ.CB a.block->(∀i,γ.held i-> ¬φ.jl i a)->w'.cell? a=w.cell? a
 pay: ∀b,φ.CB b->fz w' b=fz w b
 size:w.heap.size<=w'.heap.size
 tape:w'.tape=w.tape
 os:w'.os=w.os
 output:w'.output=w.output
 ev: ∀e∈es,φ.Acc (γ.grow w w') e
def Ph.got (g:ay)(v:aq)(open_:Bool):ay:=Go.Conc.served g (.tuple #[v,.bool open_])
def Ph.Sj (γ:Gh)(g:ay)(w:ah):Prop:=
 ∃C v m,γ.over/\γ.own C/\(∀i,γ.held i->φ.JP (λb=>γ.own b/\b≠C) i w)/\PayAt C 1 w/\
  Goes φ.P aw (RW φ.ty φ.Wg C 1 0 0) (DWs φ.Wg (λ_ _=>False) (λ_ _=>False) C 1 1) (AtR0 φ.P φ.ty φ.Wg C 1 0 1 v) m g w
inductive Ph.WT:Gh->ay->ah->Prop
 |tail {γ:Gh} {g:ay} {w:ah}:φ.Sj γ g w->Ph.WT γ g w
 |step {γ:Gh} {g:ay} {w:ah} (g':ah->ay) (w':ah->ah) (es:ah->Array Event):g.status=.running->
   (∀aD,φ.eP γ w aD->stepG φ.P aw g aD=.go (g' aD) (w' aD) (es aD)/\φ.BD γ aD (w' aD) (es aD))->
   (∀aD,φ.eP γ w aD->Ph.WT (γ.grow aD (w' aD)) (g' aD) (w' aD))->Ph.WT γ g w
 |recv {γ:Gh} {g:ay} {w:ah}:g.status=.running->
   (∀aD,φ.eP γ w aD->stepG φ.P aw g aD=.comm g #[rcase φ.Ch φ.z] aA (.recv aA) aD #[])->
   (∀aD i,φ.eP γ w aD->i<φ.nj-> ¬γ.held i->φ.J0 i aD->Ph.WT (γ.hold i) (Ph.got g (φ.jv i) aA) aD)->
   (∀aD,φ.eP γ w aD->Ph.WT γ.close (Ph.got g φ.z aw) aD)->Ph.WT γ g w
structure Ph.Ok:Prop where
 hCW:φ.Ch≠φ.Wg
 rdW: ¬φ.od φ.Wg
 rdC: ¬φ.od φ.Ch
 UW: ¬φ.CB φ.Wg
 cbC: ¬φ.CB φ.Ch
 Wh: ∀b,φ.CB b-> ¬φ.od b
 agF: ¬φ.Std φ.Wg
 ahY: ¬φ.Std φ.Ch
 afd: ∀b,φ.CB b-> ¬φ.Std b
 mK: ∀i a,φ.jl i a->φ.CB a.block
 Dj: ∀i i' a,φ.jl i a->φ.jl i' a->i=i'
 jp: ∀(o:Nat->Prop) (w aD:ah) (i:Nat),(∀b,o b->aD.heap[b]? =w.heap[b]?)->(∀a,φ.jl i a->aD.cell? a=w.cell? a)->φ.JP o i w->φ.JP o i aD
 j0: ∀(w aD:ah) (i:Nat),(∀a,φ.jl i a->aD.cell? a=w.cell? a)->φ.J0 i w->φ.J0 i aD
 zV: ∀(o o':Nat->Prop) (w:ah) (i:Nat),(∀b,o b->o' b)->φ.JP o i w->φ.JP o' i w
 yQ:0<φ.lo
 n31:φ.n<2147483648
variable {φ}
theorem Ph.eP.refl (γ:Gh)(w:ah):φ.eP γ w w:=⟨λ_ _=>rfl,λ_ _=>rfl,λ_ _ _ _=>rfl,λ_ _=>rfl,id,az _,rfl,rfl,rfl⟩
theorem Ph.eP.trans {γ:Gh}{a b c:ah}(h:φ.eP γ a b)(k:φ.eP γ b c):φ.eP γ a c:=⟨λx y=>(k.own x y).trans (h.own x y),λx y=>(k.rd x y).trans (h.rd x y),λi x y z=>(k.cell i x y z).trans (h.cell i x y z),λx y=>(k.pay x y).trans (h.pay x y),k.live∘h.live,bP h.size k.size,k.tape.trans h.tape,k.os.trans h.os,k.output.trans h.output⟩
theorem Ph.eP.rw' {γ:Gh}{C:Nat}(hC:γ.own C){a b:ah}(h:φ.eP γ a b):RW φ.ty φ.Wg C 1 0 0 a b:=⟨λx hx _ _=>absurd hx (Nat.not_lt_zero _),h.live,λ⟨cs,h1,h2⟩=>⟨cs,(h.own C hC).trans h1,h2⟩,cell_of_block (h.own C hC) 0⟩
theorem Ph.Sj.rely (O:φ.Ok){γ:Gh}{g:ay}{w aD:ah}(h:φ.Sj γ g w)(r:φ.eP γ w aD):φ.Sj γ g aD:=by obtain⟨C,v,m,hO,hC,hJ,⟨cs,h1,h2⟩,hG⟩:=h;exact⟨C,v,m,hO,hC,λi hi=>O.jp _ w aD i (λb hb=>r.own b hb.1) (λa ha=>r.cell i a hi ha) (hJ i hi),⟨cs,(r.own C hC).trans h1,h2⟩,Goes.rely (λ_ _ _ h1 h2=>h1.trans h2) hG (r.rw' hC)⟩
theorem Ph.WT.status {γ:Gh}{g:ay}{w:ah}(h:φ.WT γ g w):g.status=.running:=by
 cases h with
 |tail h=>obtain⟨C,v,m,_,_,_,_,hG⟩:=h;exact Goes.running (λ_ _ x=>x.1) w (RW.refl w) hG
 |step _ _ _ h _ _=>exact h
 |recv h _ _ _=>exact h
abbrev WX:=Gh×ay×ah
def Ph.Sub (φ:Ph)(y x:WX):Prop:=
 ¬φ.Sj x.1 x.2.1 x.2.2/\ ∃aD,φ.eP x.1 x.2.2 aD/\
  ((∃es,stepG φ.P aw x.2.1 aD=.go y.2.1 y.2.2 es/\y.1=x.1.grow aD y.2.2)\/
   (∃g cs sh es,stepG φ.P aw x.2.1 aD=.comm g cs aA sh aD es/\y.2.2=aD/\
     ((∃i,i<φ.nj/\ ¬x.1.held i/\φ.J0 i aD/\y.1=x.1.hold i/\y.2.1=Ph.got x.2.1 (φ.jv i) aA)\/(y.1=x.1.close/\y.2.1=Ph.got x.2.1 φ.z aw))))
theorem Ph.WT.acc {γ:Gh}{g:ay}{w:ah}(h:φ.WT γ g w):_root_.Acc φ.Sub (γ,g,w):=by
 induction h with
 |tail h=>exact⟨_,λy hy=>absurd h hy.1⟩
 | @step γ g w g' w' es hr gI oB ih=>
   refine⟨_,?_⟩;rintro⟨γ2,g2,w2⟩ ⟨_,aD,hrel,hy⟩;obtain⟨h1,_⟩:=gI aD hrel;rcases hy with⟨es2,h2,h3⟩|⟨_,_,_,_,h2,_⟩
   ·simp only at h2 h3 hrel;rw[h1]at h2;cases h2;subst h3;exact ih aD hrel
   ·simp only at h2;rw[h1]at h2;cases h2
 | @recv γ g w hr gI LN rh ih1 ih2=>
   refine⟨_,?_⟩;rintro⟨γ2,g2,w2⟩ ⟨_,aD,hrel,hy⟩;have h1:=gI aD hrel;rcases hy with⟨es2,h2,h3⟩|⟨_,_,_,_,h2,h3,h4⟩
   ·simp only at h2;rw[h1]at h2;cases h2
   ·simp only at h3;subst h3;rcases h4 with⟨i,hi,hn,QW,h5,h6⟩|⟨h5,h6⟩
    ·simp only at h5 h6;subst h5;subst h6;exact ih1 _ i hrel hi hn QW
    ·simp only at h5 h6;subst h5;subst h6;exact ih2 _ hrel
end Rel
namespace Rel
open Go.Conc Go.ConcN
open Go.ConcR (KK WgAt rd wr mk Payload DC0 stA smA)
variable [Payload] (φ:Ph)
structure Ph.MR (μ:Nat->Prop) (w aD:ah):Prop where
 Y1: ∀b,φ.Std b->aD.heap[b]? =w.heap[b]?
 own: ∀b,μ b->aD.heap[b]? =w.heap[b]?
 rd: ∀b,φ.od b->aD.heap[b]? =w.heap[b]?
 pay: ∀b,φ.CB b->fz aD b=fz w b
 live:WgLive φ.ty φ.Wg w->WgLive φ.ty φ.Wg aD
 size:w.heap.size<=aD.heap.size
 tape:aD.tape=w.tape
 os:aD.os=w.os
 output:aD.output=w.output
def Ph.EvM (μ:Nat->Prop)(e:Event):Prop:=
 e=⟨.mark .noRoom,aw,aA⟩\/(∃a,a.block=φ.Wg/\(e=⟨.mark (.read a),aw,aA⟩\/e=⟨.mark (.write a),aw,aA⟩))\/
  (e.sync=aw/\ ∃b,vn e.loc=ae b/\(μ b\/(e.write=aw/\φ.od b)))
def Ph.DM (μ:Nat->Prop)(w w':ah)(es:Array Event):Prop:=w'=w/\ ∀e∈es,φ.EvM μ e
structure Ph.Al (w w':ah):Prop where
 rest: ∀b,b<w.heap.size->w'.heap[b]? =w.heap[b]?
 size:w.heap.size<=w'.heap.size
 tape:w'.tape=w.tape
 os:w'.os=w.os
 output:w'.output=w.output
def uk (μ:Nat->Prop)(w w':ah):Nat->Prop:=λb=>μ b\/(w.heap.size<=b/\b<w'.heap.size)
abbrev Ph.GP (μ:Nat->Prop)(Stop:ay->ah->Prop)(m:Nat)(g:ay)(w:ah):Prop:=Goes φ.P aA (φ.MR μ) (φ.DM μ) Stop m g w
section
variable (μ:Nat->Prop) (Goal:ay->ah->Prop) (AnchW:ay->ah->Prop)
def Ph.AtRet (g:ay)(w:ah):Prop:=g.status=.running/\Goal g w
def Ph.AtAcq (g:ay)(w:ah):Prop:=g.status=.running/\ ∃g',stepG φ.P aA g w=.go g' w #[ig (.acquire (stA φ.Wg))]/\ ∃m,φ.GP μ (Ph.AtRet Goal) m g' w
def Ph.AtKe (g:ay)(w:ah):Prop:=g.status=.running/\ ∃g',stepG φ.P aA g w=.go g' w #[ig .enable]/\ ∃m,φ.GP μ (φ.AtAcq μ Goal) m g' w
def Ph.AtW4 (g:ay)(w:ah):Prop:=g.status=.running/\(WgAt φ.ty φ.Wg w 0 0-> ∃g',stepG φ.P aA g w=.go g' w #[rd (stA φ.Wg)]/\ ∃m,φ.GP μ (φ.AtKe μ Goal) m g' w)
def Ph.AtW3 (g:ay)(w:ah):Prop:=
 g.status=.running/\g.offers=ai/\
  ((∃st,WgAt φ.ty φ.Wg w st 0)->stepG φ.P aA g w=.go {g with status:=.blocked} w #[])/\
  (WgAt φ.ty φ.Wg w 0 1-> ∃g',stepG φ.P aA g w=.go g' (w.setCell (smA φ.Wg) (.int .u32 0)) (semEvents (smA φ.Wg))/\ ∃m,φ.GP μ (φ.AtW4 μ Goal) m g' (w.setCell (smA φ.Wg) (.int .u32 0)))
def Ph.AtW2 (vs:Nat)(g:ay)(w:ah):Prop:=
 g.status=.running/\ ∀v:Nat,v<2147483648->WgAt φ.ty φ.Wg w (v*KK) 0->
  (v=vs-> ∃g',stepG φ.P aA g w=.go g' (w.setCell (stA φ.Wg) (.int .u64 (v*KK+1))) #[rd (stA φ.Wg),wr (stA φ.Wg)]/\ ∃m,φ.GP μ (φ.AtW3 μ Goal) m g' (w.setCell (stA φ.Wg) (.int .u64 (v*KK+1))))/\
  (v≠vs-> ∃g',stepG φ.P aA g w=.go g' w #[rd (stA φ.Wg)]/\ ∃m,φ.GP μ AnchW m g' w)
def Ph.AtW1 (g:ay)(w:ah):Prop:=g.status=.running/\ ∀v:Nat,v<2147483648->WgAt φ.ty φ.Wg w (v*KK) 0-> ∃g',stepG φ.P aA g w=.go g' w #[rd (stA φ.Wg)]/\(v=0-> ∃m,φ.GP μ (φ.AtKe μ Goal) m g' w)/\(v≠0-> ∃m,φ.GP μ (φ.AtW2 μ Goal AnchW v) m g' w)
def Ph.AtKd (g:ay)(w:ah):Prop:=g.status=.running/\ ∃g',stepG φ.P aA g w=.go g' w #[ig .disable]/\ ∃m,φ.GP μ AnchW m g' w
end
section
variable (Next:(Nat->Prop)->ay->ah->Prop) (μ:Nat->Prop)
def Ph.AtGoS (g:ay)(w:ah):Prop:=g.status=.running/\ ∃g' child hb,stepG φ.P aA g w=.spawn g' child w #[]/\(∀b,hb b->μ b)/\φ.WT ⟨hb,λ_=>False,False⟩ child w/\Next (λb=>μ b/\ ¬hb b) g' w
def Ph.AtKeS (g:ay)(w:ah):Prop:=g.status=.running/\ ∃g',stepG φ.P aA g w=.go g' w #[ig .enable]/\ ∃m,φ.GP μ (φ.AtGoS Next μ) m g' w
def Ph.AtA1 (g:ay)(w:ah):Prop:=
 g.status=.running/\ ∀v:Nat,v<2147483647->WgAt φ.ty φ.Wg w (v*KK) 0->
  ∃g',stepG φ.P aA g w=.go g' (w.setCell (stA φ.Wg) (.int .u64 ((v+1)*KK))) #[rd (stA φ.Wg),wr (stA φ.Wg)]/\
   ∃m,φ.GP μ (φ.AtKeS Next μ) m g' (w.setCell (stA φ.Wg) (.int .u64 ((v+1)*KK)))
def Ph.AtKdS (g:ay)(w:ah):Prop:=g.status=.running/\ ∃g',stepG φ.P aA g w=.go g' w #[ig .disable]/\ ∃m,φ.GP μ (φ.AtA1 Next μ) m g' w
def Ph.VA (St:(Nat->Prop)->ay->ah->Prop)(g:ay)(w:ah):Prop:=g.status=.running/\ ∃g' w' es,stepG φ.P aA g w=.go g' w' es/\Ph.Al w w'/\(∀e∈es,φ.EvM (uk μ w w') e)/\ ∃m,φ.GP (uk μ w w') (St (uk μ w w')) m g' w'
end
def Ph.Spawns (Fin:(Nat->Prop)->ay->ah->Prop):Nat->(Nat->Prop)->ay->ah->Prop
 |0,μ,g,w=>Fin μ g w
 |r+1,μ,g,w=> ∃m,φ.GP μ (φ.VA μ λμ=>φ.VA μ λμ=>φ.AtKdS (Ph.Spawns Fin r) μ) m g w
variable (Goal:ay->ah->Prop) (AnchW:(Nat->Prop)->ay->ah->Prop)
def Ph.Fin (μ:Nat->Prop)(g:ay)(w:ah):Prop:= ∃m,φ.GP μ (φ.AtKd μ (AnchW μ)) m g w
inductive Ph.kF:CTag->Nat->Nat->(Nat->Prop)->ay->ah->Prop
 |Kr {r m:Nat} {μ:Nat->Prop} {g:ay} {w:ah}:r<φ.n->φ.GP μ (φ.VA μ λμ=>φ.VA μ λμ=>φ.AtKdS (φ.Spawns (φ.Fin AnchW) r) μ) m g w->Ph.kF (.sp r 7) m 0 μ g w
 |al2 {r m:Nat} {μ:Nat->Prop} {g:ay} {w:ah}:r<φ.n->φ.GP μ (φ.VA μ λμ=>φ.AtKdS (φ.Spawns (φ.Fin AnchW) r) μ) m g w->Ph.kF (.sp r 6) m 0 μ g w
 |skd {r m:Nat} {μ:Nat->Prop} {g:ay} {w:ah}:r<φ.n->φ.GP μ (φ.AtKdS (φ.Spawns (φ.Fin AnchW) r) μ) m g w->Ph.kF (.sp r 5) m 0 μ g w
 |sa1 {r m:Nat} {μ:Nat->Prop} {g:ay} {w:ah}:r<φ.n->φ.GP μ (φ.AtA1 (φ.Spawns (φ.Fin AnchW) r) μ) m g w->Ph.kF (.sp r 4) m 1 μ g w
 |ske {r m:Nat} {μ:Nat->Prop} {g:ay} {w:ah}:r<φ.n->φ.GP μ (φ.AtKeS (φ.Spawns (φ.Fin AnchW) r) μ) m g w->Ph.kF (.sp r 3) m 1 μ g w
 |sgo {r m:Nat} {μ:Nat->Prop} {g:ay} {w:ah}:r<φ.n->φ.GP μ (φ.AtGoS (φ.Spawns (φ.Fin AnchW) r) μ) m g w->Ph.kF (.sp r 2) m 0 μ g w
 |kd {m:Nat} {μ:Nat->Prop} {g:ay} {w:ah}:φ.GP μ (φ.AtKd μ (AnchW μ)) m g w->Ph.kF .kd m 0 μ g w
 |anch {m:Nat} {μ:Nat->Prop} {g:ay} {w:ah}:φ.GP μ (AnchW μ) m g w->Ph.kF .anch m 1 μ g w
 |w1 {m:Nat} {μ:Nat->Prop} {g:ay} {w:ah}:φ.GP μ (φ.AtW1 μ Goal (AnchW μ)) m g w->Ph.kF .w1 m 1 μ g w
 |w2 {vs m:Nat} {μ:Nat->Prop} {g:ay} {w:ah}:φ.GP μ (φ.AtW2 μ Goal (AnchW μ) vs) m g w->Ph.kF (.w2 vs) m 1 μ g w
 |w3 {m:Nat} {μ:Nat->Prop} {g:ay} {w:ah}:φ.GP μ (φ.AtW3 μ Goal) m g w->Ph.kF .w3 (m+1) 1 μ g w
 |blk {μ:Nat->Prop} {g:ay} {w:ah}:(∀aD,φ.MR μ w aD->φ.AtW3 μ Goal g aD)->Ph.kF .blk 0 1 μ {g with status:=.blocked} w
 |w4 {m:Nat} {μ:Nat->Prop} {g:ay} {w:ah}:φ.GP μ (φ.AtW4 μ Goal) m g w->Ph.kF .w4 m 1 μ g w
 |ke {m:Nat} {μ:Nat->Prop} {g:ay} {w:ah}:φ.GP μ (φ.AtKe μ Goal) m g w->Ph.kF .ke m 1 μ g w
 |acq {m:Nat} {μ:Nat->Prop} {g:ay} {w:ah}:φ.GP μ (φ.AtAcq μ Goal) m g w->Ph.kF .acq m 0 μ g w
 |ret {m:Nat} {μ:Nat->Prop} {g:ay} {w:ah}:φ.GP μ (Ph.AtRet Goal) m g w->Ph.kF .ret m 0 μ g w
section
variable {φ} {Goal:ay->ah->Prop} {AnchW:(Nat->Prop)->ay->ah->Prop}
theorem Ph.MR.refl (μ:Nat->Prop)(w:ah):φ.MR μ w w:=⟨λ_ _=>rfl,λ_ _=>rfl,λ_ _=>rfl,λ_ _=>rfl,id,az _,rfl,rfl,rfl⟩
theorem Ph.MR.trans {μ:Nat->Prop}{a b c:ah}(h:φ.MR μ a b)(k:φ.MR μ b c):φ.MR μ a c:=⟨λx y=>(k.Y1 x y).trans (h.Y1 x y),λx y=>(k.own x y).trans (h.own x y),λx y=>(k.rd x y).trans (h.rd x y),λx y=>(k.pay x y).trans (h.pay x y),k.live∘h.live,bP h.size k.size,k.tape.trans h.tape,k.os.trans h.os,k.output.trans h.output⟩
theorem Ph.kF.rely {tag:CTag}{f d:Nat}{μ:Nat->Prop}{a:ay}{w w':ah}(h:φ.kF Goal AnchW tag f d μ a w)(hr:φ.MR μ w w'):φ.kF Goal AnchW tag f d μ a w':=by
 have tr: ∀x y z,φ.MR μ x y->φ.MR μ y z->φ.MR μ x z:=λ_ _ _ h1 h2=>h1.trans h2
 cases h with
 |Kr hn h=>exact .Kr hn (Goes.rely tr h hr)
 |al2 hn h=>exact .al2 hn (Goes.rely tr h hr)
 |skd hn h=>exact .skd hn (Goes.rely tr h hr)
 |sa1 hn h=>exact .sa1 hn (Goes.rely tr h hr)
 |ske hn h=>exact .ske hn (Goes.rely tr h hr)
 |sgo hn h=>exact .sgo hn (Goes.rely tr h hr)
 |kd h=>exact .kd (Goes.rely tr h hr)
 |anch h=>exact .anch (Goes.rely tr h hr)
 |w1 h=>exact .w1 (Goes.rely tr h hr)
 |w2 h=>exact .w2 (Goes.rely tr h hr)
 |w3 h=>exact .w3 (Goes.rely tr h hr)
 |blk h=>exact .blk (λe8 tT=>h e8 (hr.trans tT))
 |w4 h=>exact .w4 (Goes.rely tr h hr)
 |ke h=>exact .ke (Goes.rely tr h hr)
 |acq h=>exact .acq (Goes.rely tr h hr)
 |ret h=>exact .ret (Goes.rely tr h hr)
theorem Ph.kF.status {tag:CTag}{f d:Nat}{μ:Nat->Prop}{a:ay}{w:ah}(yd: ∀μ g w,AnchW μ g w->g.status=.running)(h:φ.kF Goal AnchW tag f d μ a w):(a.status=.running/\tag≠ .blk)\/(a.status=.blocked/\tag=.blk):=by
 have go: ∀{Stop:ay->ah->Prop} {m:Nat},(∀g w,Stop g w->g.status=.running)->φ.GP μ Stop m a w->a.status=.running:=λhs h=>Goes.running hs w (.refl μ w) h
 cases h with
 |Kr _ h=>exact .inl ⟨go (λ_ _ x=>x.1) h,by simp⟩
 |al2 _ h=>exact .inl ⟨go (λ_ _ x=>x.1) h,by simp⟩
 |skd _ h=>exact .inl ⟨go (λ_ _ x=>x.1) h,by simp⟩
 |sa1 _ h=>exact .inl ⟨go (λ_ _ x=>x.1) h,by simp⟩
 |ske _ h=>exact .inl ⟨go (λ_ _ x=>x.1) h,by simp⟩
 |sgo _ h=>exact .inl ⟨go (λ_ _ x=>x.1) h,by simp⟩
 |kd h=>exact .inl ⟨go (λ_ _ x=>x.1) h,by simp⟩
 |anch h=>exact .inl ⟨go (yd μ) h,by simp⟩
 |w1 h=>exact .inl ⟨go (λ_ _ x=>x.1) h,by simp⟩
 |w2 h=>exact .inl ⟨go (λ_ _ x=>x.1) h,by simp⟩
 |w3 h=>exact .inl ⟨go (λ_ _ x=>x.1) h,by simp⟩
 |blk h=>exact .inr ⟨rfl,rfl⟩
 |w4 h=>exact .inl ⟨go (λ_ _ x=>x.1) h,by simp⟩
 |ke h=>exact .inl ⟨go (λ_ _ x=>x.1) h,by simp⟩
 |acq h=>exact .inl ⟨go (λ_ _ x=>x.1) h,by simp⟩
 |ret h=>exact .inl ⟨go (λ_ _ x=>x.1) h,by simp⟩
theorem Ph.kF.wokenBy {tag:CTag}{f d:Nat}{μ:Nat->Prop}{a:ay}{w w':ah}(yd: ∀μ g w,AnchW μ g w->g.status=.running)(h:φ.kF Goal AnchW tag f d μ a w)(hr:φ.MR μ w w')(g g':ay): ∃tag' f',φ.kF Goal AnchW tag' f' d μ (woken φ.P g g' w' a) w'/\(tag'=tag\/(tag=.blk/\tag'=.w3))/\(mayWake φ.P g=aA->g'.status=.running->tag'≠ .blk):=by
 have h':=h.rely hr;unfold Go.Conc.woken
 split
 ·rcases h'.status yd with⟨hs,dQ⟩|⟨_,rfl⟩
  ·exact⟨tag,f,by rw[again_running _ (.inl hs)];exact h',.inl rfl,λ_ _=>dQ⟩
  ·cases h' with
   |blk hb=>have h3:=hb w' (.refl μ w');exact⟨.w3,0+1,by rw[Go.ConcR.again_blocked h3.1 h3.2.1];exact .w3 (Goes.stop hb),.inr ⟨rfl,rfl⟩,λ_ _=>by simp⟩
 ·rename_i hc
  exact⟨tag,f,h',.inl rfl,λh1 h2=>absurd (by simp[h1,h2]) hc⟩
end
end Rel
namespace Rel
open Go.Conc Go.ConcN
open Go.ConcR (KK WgAt rd wr Payload DC0 stA smA)
inductive tC where
 |lG
 |tree (x:WX)
 |tail (d:WD)
def tC.wd:tC->WD
 | .lG=>⟨1,0,0⟩
 | .tree _=>⟨7,0,0⟩
 | .tail d=>d
section
variable [Payload] (φ:Ph)
def Ph.KB:tC->tC->Prop
 | .tail a,.tail b=>a.stage<b.stage\/(a.stage=b.stage/\a.fuel<b.fuel)
 | .tail _,.tree _=>True
 | .tail _,.lG=>True
 | .tree y,.tree x=>φ.Sub y x
 | .tree y,.lG=>_root_.Acc φ.Sub y
 |_,_=>False
variable {φ}
theorem KR (s m d:Nat):_root_.Acc φ.KB (.tail ⟨s,m,d⟩):=by
 have key: ∀s m d,_root_.Acc φ.KB (.tail ⟨s,m,d⟩):=by
  intro s
  induction s using l7 with
  |ind s ih=>
   intro m
   induction m using l7 with
   |ind m ihm=>
    intro d;refine⟨_,λy hy=> ?_⟩;cases y with
    |lG=>exact hy.elim
    |tree x=>exact hy.elim
    |tail e=>
     obtain⟨s',m',d'⟩:=e;rcases hy with h|⟨h1,h2⟩
     ·exact ih s' h m' d'
     ·simp only at h1 h2;subst h1;exact ihm m' h2 d'
 exact key s m d
theorem KS {x:WX}(h:_root_.Acc φ.Sub x):_root_.Acc φ.KB (.tree x):=by
 induction h with
 |intro x _ ih=>
  refine⟨_,λy hy=> ?_⟩;cases y with
  |lG=>exact hy.elim
  |tree y=>exact ih y hy
  |tail e=>obtain⟨s,m,d⟩:=e;exact KR s m d
theorem N3:_root_.Acc φ.KB .lG:=by
 refine⟨_,λy hy=> ?_⟩;cases y with
 |lG=>exact hy.elim
 |tree y=>exact KS hy
 |tail e=>obtain⟨s,m,d⟩:=e;exact KR s m d
def vlt (r:tC->tC->Prop)(n:Nat)(S' S:Nat->tC):Prop:= ∃i,i<n/\r (S' i) (S i)/\ ∀k,k≠i->S' k=S k
theorem aaj {r:tC->tC->Prop}: ∀(n:Nat) (S:Nat->tC),(∀i,i<n->_root_.Acc r (S i))->_root_.Acc (vlt r n) S:=by
 intro n
 induction n with
 |zero=>intro S _;exact⟨_,λS' ⟨i,hi,_⟩=>absurd hi (Nat.not_lt_zero _)⟩
 |succ n ih=>
  intro S hS;have key: ∀x,_root_.Acc r x-> ∀S,S n=x->_root_.Acc (vlt r n) S->(∀i,i<n->_root_.Acc r (S i))->_root_.Acc (vlt r (n+1)) S:=by
   intro x hx
   induction hx with
   |intro x hx ihx=>
    intro S hSn fi
    induction fi with
    |intro S fi ihS=>
     intro hS;refine⟨_,?_⟩;rintro S' ⟨i,hi,h1,h2⟩;rcases dM i n with bE|va
     ·refine ihS S' ⟨i,bE,h1,h2⟩ ((h2 n (by omega)).trans hSn) λk hk=> ?_
      by_cases e:k=i
      ·subst e;exact(hS k hk).inv h1
      ·rw[h2 k e];exact hS k hk
     ·obtain rfl:i=n:=by omega
      have hS': ∀k,k<i->_root_.Acc r (S' k):=λk hk=>by rw[h2 k (by omega)];exact hS k hk
      exact ihx (S' i) (hSn▸h1) S' rfl (ih S' hS') hS'
  exact key (S n) (hS n (by omega)) S rfl (ih S λi hi=>hS i (by omega)) λi hi=>hS i (by omega)
abbrev Mu:=(Nat->tC)×(Nat×(Nat×Nat))
variable (φ)in
def Ph.Tv:Mu->Mu->Prop:=Prod.Lex (vlt φ.KB φ.n) (Prod.Lex (· < ·) (Prod.Lex (· < ·) (· < ·)))
theorem aai (S:Nat->tC)(h: ∀i,i<φ.n->_root_.Acc φ.KB (S i))(p:Nat×(Nat×Nat)):_root_.Acc φ.Tv (S,p):=by have wf:WellFounded (Prod.Lex (· < ·) (Prod.Lex (· < ·) (· < ·)):Nat×(Nat×Nat)->Nat×(Nat×Nat)->Prop):=(Prod.lex Nat.lt_wfRel (Prod.lex Nat.lt_wfRel Nat.lt_wfRel)).wf;exact Prod.lexAccessible (aaj φ.n S h) (λb=>wf.apply b) p
theorem abH {P:aS}{α:Type}{r:α->α->Prop}(Inv:α->Machine->Trace->Prop)(Q:Machine->Trace->Prop)(h: ∀μ m t,Inv μ m t->Q m t\/ ∃m' ops rZ,stepT P m=(.next m',ops)/\r rZ μ/\Inv rZ m' (t++ops)): ∀μ,_root_.Acc r μ-> ∀m t,Inv μ m t-> ∃N m' t',runNT P N m t=(.next m',t')/\Q m' t':=by
 intro μ ha
 induction ha with
 |intro μ _ ih=>
  intro m t hI;rcases h μ m t hI with hq|⟨m',ops,rZ,hs,hr,hI'⟩
  ·exact⟨0,m,t,rfl,hq⟩
  ·obtain⟨N,m2,t2,h1,h2⟩:=ih rZ hr m' (t++ops) hI';exact⟨N+1,m2,t2,by rw[runNT_succ_next hs];exact h1,h2⟩
end
section
variable [Payload] (φ:Ph)
def Ph.ae7 (γ:Gh)(l:Loc):Prop:=(∃b,vn l=ae b/\γ.own b)\/ ∃i a,γ.held i/\φ.jl i a/\l=.cell a
def Ph.rS (γ:Nat->Gh)(j:Nat)(μ:Nat->Prop):jS where
 own:=λk l=> ∃i,i<j/\k=φ.lo+i/\φ.ae7 (γ i) l
 fr:=λl=> ∃q a,(∀i,i<j-> ¬(γ i).held q)/\φ.jl q a/\l=.cell a
 rd:=λl=> ∃b,vn l=ae b/\φ.od b
 mine:=λl=> ∃b,vn l=ae b/\μ b
 sh:=ShN φ.Wg
structure Ph.UO (B0:Nat) (γ:Nat->Gh) (j:Nat) (μ:Nat->Prop) (sz:Nat):Prop where
 La: ∀i i' b,i<j->i'<j->(γ i).own b->(γ i').own b->i=i'
 mine: ∀i b,i<j->(γ i).own b-> ¬μ b
 Cr: ∀i b,i<j->(γ i).own b->B0<=b/\b<sz
 xQ: ∀b,μ b->B0<=b/\b<sz
 C9: ∀i i' q,i<j->i'<j->(γ i).held q->(γ i').held q->i=i'
 bE: ∀i q,i<j->(γ i).held q->q<φ.nj
 sz:B0<=sz
 B:φ.Wg<B0/\φ.Ch<B0/\(∀b,φ.od b->b<B0)/\ ∀b,φ.CB b->b<B0
 st: ∀b,φ.Std b->b<B0
def Ph.CL (γ:Gh):tC->ay->ah->Prop
 | .lG,_,_=>False
 | .tree x,g,w=>x.1=γ/\x.2.1=g/\φ.WT γ g x.2.2/\φ.eP γ x.2.2 w
 | .tail d,g,w=> ∃C v,γ.over/\γ.own C/\PayAt C 1 w/\(∀i,γ.held i->φ.JP (λb=>γ.own b/\b≠C) i w)/\1<=d.stage/\d.stage<=7/\WSit φ.P φ.ty φ.Wg C 1 (λ_ _=>False) (λ_ _=>False) 0 1 v d.stage d.fuel d.deaf g w
def Ph.Qk (k:Nat)(w:ah):Prop:=k<=φ.nj/\ ∃cap s r tm,w.heap[φ.Ch]? =ae (.chan cap ((fP k (φ.nj-k)).map φ.jv).toArray aA s r tm)
structure Ph.Com (B0:Nat) (t0:Trace) (gs:Array ay) (w:ah) (t:Trace) (j:Nat) (γ:Nat->Gh) (S:Nat->tC) (μ:Nat->Prop) (q:Nat->Nat) (k:Nat):Prop where
 size:gs.size=φ.lo+j
 jn:j<=φ.n
 old: ∀i g,0<i->i<φ.lo->gs[i]? =ae g->QuitsD φ.P (q i) (Deaf t i) g
 wk: ∀i,i<j-> ∃g,gs[φ.lo+i]? =ae g/\φ.CL (γ i) (S i) g w
 un: ∀i,j<=i->S i=.lG
 deaf: ∀i,i<j->Deaf t (φ.lo+i)=(S i).wd.deaf
 et:ET (φ.rS γ j μ) φ.lo (φ.lo+j) t
 gok:φ.UO B0 γ j μ w.heap.size
 norel: ∀i,t0.size<=i->t.act? i≠ae (.mark (.release (stA φ.Wg)))
 rel: ∀i,i<j->(S i).wd.stage<=6-> ∃r,RelBy (stA φ.Wg) t (φ.lo+i) r
 pre: ∃u,t=t0++u
 atm: ∀(i:Nat) (op:MemOp) (x:Touch),t0.size<=i->t[i]? =ae op->op.g≠0->op.act.touch? =ae x->x.kind≠ .plain->ShN φ.Wg x.loc
 mute: ∀(i:Nat) (op:MemOp),t0.size<=i->t[i]? =ae op->op.g≠0->op.g<φ.lo->op.act.touch? =ai
 seen: ∀op∈t,∀x,op.act.touch? =ae x->x.loc.low w.heap.size
 chan:φ.Qk k w
 done: ∀p,p<k-> ∃i,i<j/\(γ i).held p
 todo: ∀p i,k<=p->i<j-> ¬(γ i).held p
 over: ∀i,i<j->(γ i).over->k=φ.nj
 free: ∀p,k<=p->p<φ.nj->φ.J0 p w
variable {φ}
theorem Ph.UO.apart (O:φ.Ok){B0:Nat}{γ:Nat->Gh}{j:Nat}{μ:Nat->Prop}{sz:Nat}(h:φ.UO B0 γ j μ sz):(φ.rS γ j μ).Apart:=by
 obtain⟨hW,hC,hR,vY⟩:=h.B;have cell: ∀{a:Addr},vn (.cell a)=ae a.block:=rfl;have aiG: ∀{i:Nat} {l:Loc},i<j->φ.ae7 (γ i) l-> ∃b,vn l=ae b/\((γ i).own b\/ ∃q a,(γ i).held q/\φ.jl q a/\l=.cell a/\a.block=b):=by
  rintro i l hi (⟨b,hb,ho⟩|⟨q,a,hq,ha,rfl⟩)
  ·exact⟨b,hb,.inl ho⟩
  ·exact⟨a.block,rfl,.inr ⟨q,a,hq,ha,rfl,rfl⟩⟩
 have shB: ∀{l:Loc},ShN φ.Wg l->vn l=ae φ.Wg:=by rintro l ⟨a,rfl,ha⟩;rw[cell,ha]
 refine⟨?_,?_,?_,?_,?_,?_,?_,?_,?_,?_,?_⟩
 ·rintro k k' l ⟨i,hi,rfl,h1⟩ ⟨i',gj,rfl,h2⟩;rcases h1 with⟨b,hb,ho⟩|⟨q,a,hq,ha,rfl⟩<;>rcases h2 with⟨b',jN,U9⟩|⟨q',a',um,ye,e⟩
  ·rw[hb]at jN;cases jN;rw[h.La i i' b hi gj ho U9]
  ·subst e;rw[cell]at hb;cases hb;have:=(h.Cr i _ hi ho).1;have:=vY _ (O.mK _ _ ye);omega
  ·rw[cell]at jN;cases jN;have:=(h.Cr i' _ gj U9).1;have:=vY _ (O.mK _ _ ha);omega
  ·cases e;obtain rfl:=O.Dj q q' a ha ye;rw[h.C9 i i' q hi gj hq um]
 ·rintro k l ⟨i,hi,rfl,h1⟩ ⟨q',a',hn,ye,rfl⟩;rcases h1 with⟨b,hb,ho⟩|⟨q,a,hq,ha,e⟩
  ·rw[cell]at hb;cases hb;have:=(h.Cr i _ hi ho).1;have:=vY _ (O.mK _ _ ye);omega
  ·cases e;obtain rfl:=O.Dj q q' _ ha ye;exact hn i hi hq
 ·rintro k l ⟨i,hi,rfl,h1⟩ ⟨b',jN,LB⟩;rcases h1 with⟨b,hb,ho⟩|⟨q,a,hq,ha,rfl⟩
  ·rw[hb]at jN;cases jN;have:=(h.Cr i _ hi ho).1;have:=hR _ LB;omega
  ·rw[cell]at jN;cases jN;exact O.Wh _ (O.mK _ _ ha) LB
 ·rintro k l ⟨i,hi,rfl,h1⟩ ⟨b',jN,hm⟩;rcases h1 with⟨b,hb,ho⟩|⟨q,a,hq,ha,rfl⟩
  ·rw[hb]at jN;cases jN;exact h.mine i _ hi ho hm
  ·rw[cell]at jN;cases jN;have:=(h.xQ _ hm).1;have:=vY _ (O.mK _ _ ha);omega
 ·rintro k l ⟨i,hi,rfl,h1⟩ hs;have jN:=shB hs;rcases h1 with⟨b,hb,ho⟩|⟨q,a,hq,ha,rfl⟩
  ·rw[hb]at jN;cases jN;have:=(h.Cr i _ hi ho).1;omega
  ·rw[cell]at jN;have e:a.block=φ.Wg:=aY jN;exact O.UW (e▸O.mK _ _ ha)
 ·rintro l ⟨q,a,hn,ha,rfl⟩ ⟨b',jN,LB⟩;rw[cell]at jN;cases jN;exact O.Wh _ (O.mK _ _ ha) LB
 ·rintro l ⟨q,a,hn,ha,rfl⟩ ⟨b',jN,hm⟩;rw[cell]at jN;cases jN;have:=(h.xQ _ hm).1;have:=vY _ (O.mK _ _ ha);omega
 ·rintro l ⟨q,a,hn,ha,rfl⟩ hs;have e:a.block=φ.Wg:=aY (shB hs);exact O.UW (e▸O.mK _ _ ha)
 ·rintro l ⟨b,hb,LB⟩ ⟨b',jN,hm⟩;rw[hb]at jN;cases jN;have:=(h.xQ _ hm).1;have:=hR _ LB;omega
 ·rintro l ⟨b,hb,LB⟩ hs;rw[shB hs]at hb;cases hb;exact O.rdW LB
 ·rintro l ⟨b,hb,hm⟩ hs;rw[shB hs]at hb;cases hb;have:=(h.xQ _ hm).1;omega
theorem Ph.CL.status {γ:Gh}{s:tC}{g:ay}{w:ah}(h:φ.CL γ s g w):g.status=.running\/g.status=.finished:=by
 cases s with
 |lG=>exact h.elim
 |tree x=>obtain⟨_,h1,h2,_⟩:=h;exact .inl h2.status
 |tail d=>obtain⟨C,v,_,_,_,_,_,_,h⟩:=h;exact h.status
theorem Ph.CL.rely (O:φ.Ok){γ:Gh}{s:tC}{g:ay}{w aD:ah}(h:φ.CL γ s g w)(r:φ.eP γ w aD):φ.CL γ s g aD:=by
 cases s with
 |lG=>exact h.elim
 |tree x=>obtain⟨h0,h1,h2,h3⟩:=h;exact⟨h0,h1,h2,h3.trans r⟩
 |tail d=>obtain⟨C,v,hO,hC,⟨cs,h1,h2⟩,hJ,s1,s2,h⟩:=h;exact⟨C,v,hO,hC,⟨cs,(r.own C hC).trans h1,h2⟩,λi hi=>O.jp _ w aD i (λb hb=>r.own b hb.1) (λa ha=>r.cell i a hi ha) (hJ i hi),s1,s2,h.rely (by simpa using r.rw' hC)⟩
end
end Rel
namespace Rel
open Go.Conc Go.ConcN
open Go.ConcR (KK WgAt rd wr Payload DC0 stA smA)
section
variable [Payload] {φ:Ph} {B0:Nat} {t0:Trace} {gs:Array ay} {w w':ah} {t:Trace} {j:Nat} {γ:Nat->Gh} {S:Nat->tC} {μ:Nat->Prop} {q:Nat->Nat} {k k':Nat}
theorem Ph.Com.Eo (O:φ.Ok)(h:φ.Com B0 t0 gs w t j γ S μ q k){i:Nat}(hi:i<j){g':ay}{ops:Trace}{Zp:Gh}{Si:tC}(f:ay->ay)(hf: ∀o,o.status=.running\/o.status=.finished->f o=o)(gY: ∀op∈ops,op.g=φ.lo+i)(hrel: ∀i',i'<j->i'≠i->φ.eP (γ i') w w')(hs:φ.CL Zp Si g' w')(QR:Deaf (t++ops) (φ.lo+i)=Si.wd.deaf)(het:ET (φ.rS (upd γ i Zp) j μ) φ.lo (φ.lo+j) (t++ops))(adC:φ.UO B0 (upd γ i Zp) j μ w'.heap.size)(hnr: ∀op∈ops,op.act≠ .mark (.release (stA φ.Wg)))(hr:Si.wd.stage<=6-> ∃r,RelBy (stA φ.Wg) (t++ops) (φ.lo+i) r)(ahn: ∀op∈ops,∀x,op.act.touch? =ae x->x.kind≠ .plain->ShN φ.Wg x.loc)(LX: ∀op∈ops,∀x,op.act.touch? =ae x->x.loc.low w'.heap.size)(km:w.heap.size<=w'.heap.size)(afE:φ.Qk k' w')(afI: ∀p,p<k'-> ∃i',i'<j/\(upd γ i Zp i').held p)(af': ∀p i',k'<=p->i'<j-> ¬(upd γ i Zp i').held p)(Xw: ∀i',i'<j->(upd γ i Zp i').over->k'=φ.nj)(afK: ∀p,k'<=p->p<φ.nj->φ.J0 p w'):φ.Com B0 t0 ((gs.map f).setIfInBounds (φ.lo+i) g') w' (t++ops) j (upd γ i Zp) (upd S i Si) μ q k':=by
 have yQ:=O.yQ;refine⟨by simp[h.size],h.jn,λi' x h0 hl hx=> ?_,λi' gj=> ?_,λi' gj=> ?_,λi' gj=> ?_,het,adC,λp hp I5=> ?_,λi' gj gI=> ?_,?_,λp op x hp hop hg hx hk=> ?_,λp op hp hop hg bE=> ?_,λop hop=> ?_,afE,afI,af',Xw,afK⟩
 ·rw[get_map_set _ _ _ _ (by omega)]at hx;obtain⟨y,hy,rfl⟩:=aK.1 hx;have hq:=h.old i' y h0 hl hy;rw[hf y hq.status,Deaf_other t (g':=φ.lo+i) (by omega) _ gY];exact hq
 ·by_cases e:i'=i
  ·subst e;exact⟨g',get_map_set_same _ _ _ (by rw[h.size];omega),by rw[upd_same,upd_same];exact hs⟩
  ·obtain⟨x,hx,Q5⟩:=h.wk i' gj;refine⟨x,by rw[get_map_set _ _ _ _ (by omega),hx,eY,hf x Q5.status],?_⟩;rw[upd_ne _ _ e,upd_ne _ _ e];exact Q5.rely O (hrel i' gj e)
 ·rw[upd_ne _ _ (by omega)];exact h.un i' gj
 ·by_cases e:i'=i
  ·subst e;rw[upd_same];exact QR
  ·rw[Deaf_other t (g':=φ.lo+i) (by omega) _ gY,h.deaf i' gj,upd_ne _ _ e]
 ·obtain⟨op,hop,ha⟩:=aK.1 I5;rcases getElem?_append_cases hop with⟨_,qx⟩|⟨_,qy⟩
  ·exact h.norel p hp (by rw[act?_of qx,ha])
  ·exact hnr op qy ha
 ·by_cases e:i'=i
  ·subst e;rw[upd_same]at gI;exact hr gI
  ·rw[upd_ne _ _ e]at gI;obtain⟨r,hr⟩:=h.rel i' gj gI;exact⟨r,hr.appNot λop hop=>by rw[gY op hop];omega⟩
 ·obtain⟨u,rfl⟩:=h.pre;exact⟨u++ops,by rw[Array.append_assoc]⟩
 ·rcases getElem?_append_cases hop with⟨_,qx⟩|⟨_,qy⟩
  ·exact h.atm p op x hp qx hg hx hk
  ·exact ahn op qy x hx hk
 ·rcases getElem?_append_cases hop with⟨_,qx⟩|⟨_,qy⟩
  ·exact h.mute p op hp qx hg bE
  ·rw[gY op qy]at bE;omega
 ·intro x hx;rcases ot.1 hop with y|y
  ·exact Loc.low_mono km (h.seen op y x hx)
  ·exact LX op y x hx
omit [Payload]in
theorem vr {e:Event}{b:Nat}(hb:vn e.loc=ae b)(hs:e.sync=aw):cN e=.access e/\(cN e).touch? =ae ⟨e.loc,e.write,.plain⟩:=by
 obtain⟨loc,wr,sy⟩:=e;simp only at hs;subst hs;cases loc with
 |mark m=>cases hb
 |output=>cases hb
 |goroutines=>cases hb
 |cell a=>cases wr<;>exact⟨rfl,rfl⟩
 |obj r=>cases wr<;>exact⟨rfl,rfl⟩
omit [Payload]in
theorem Dl {B:Nat}{l:Loc}(h: ∀b,vn l=ae b->b<B):l.low B:=by
 cases l with
 |cell a=>exact h _ rfl
 |obj r=>exact h _ rfl
 |_=>exact trivial
omit [Payload]in
theorem xw {B:Nat}(h: ∀op∈t,∀x,op.act.touch? =ae x->x.loc.low B){l:Loc}{b:Nat}(hb:vn l=ae b)(hB:B<=b):sf t l:=by
 rintro i a ha rfl;obtain⟨x,hx,Va⟩:=touch_of ha;have hl:=h x (th hx) a Va;revert hb hl;cases a.loc with
 |cell ad=>intro hb hl;cases hb;exact absurd hl (by show¬(ad.block<B);omega)
 |obj r=>intro hb hl;cases hb;exact absurd hl (by show¬(b<B);omega)
 |_=>intro hb;cases hb
theorem si {γ:Gh}{e:Event}(h:φ.Acc γ e):(cN e=.mark .noRoom/\e.loc=.mark .noRoom)\/(cN e=.access e/\(cN e).touch? =ae ⟨e.loc,e.write,.plain⟩/\ ∃b,vn e.loc=ae b/\(γ.own b\/(∃i a,γ.held i/\φ.jl i a/\e.loc=.cell a)\/(e.write=aw/\φ.od b))):=by
 rcases h with rfl|⟨hs,b,hb,h⟩
 ·exact .inl ⟨rfl,rfl⟩
 ·exact .inr ⟨(vr hb hs).1,(vr hb hs).2,b,hb,h⟩
theorem Ph.UO.grow (h:φ.UO B0 γ j μ w.heap.size){i:Nat}(hi:i<j)(km:w.heap.size<=w'.heap.size):φ.UO B0 (upd γ i ((γ i).grow w w')) j μ w'.heap.size:=by
 have own: ∀{a b:Nat},(upd γ i ((γ i).grow w w') a).own b->(γ a).own b\/(a=i/\w.heap.size<=b/\b<w'.heap.size):=by
  intro a b hb;by_cases e:a=i
  ·subst e;rw[upd_same]at hb;exact hb.imp id λx=>⟨rfl,x⟩
  ·rw[upd_ne _ _ e]at hb;exact .inl hb
 have held: ∀{a p:Nat},(upd γ i ((γ i).grow w w') a).held p->(γ a).held p:=by
  intro a p hp;by_cases e:a=i
  ·subst e;rwa[upd_same]at hp
  ·rwa[upd_ne _ _ e]at hp
 have hs:=h.sz;refine⟨λa a' b ha ye h1 h2=> ?_,λa b ha h1 hm=> ?_,λa b ha h1=> ?_,λb hb=> ?_,λa a' p ha ye h1 h2=>h.C9 a a' p ha ye (held h1) (held h2),λa p ha h1=>h.bE a p ha (held h1),by omega,h.B,h.st⟩
 ·rcases own h1 with x|⟨rfl,x⟩<;>rcases own h2 with y|⟨rfl,y⟩
  ·exact h.La a a' b ha ye x y
  ·have:=(h.Cr a b ha x).2;omega
  ·have:=(h.Cr a' b ye y).2;omega
  ·rfl
 ·rcases own h1 with x|⟨rfl,x⟩
  ·exact h.mine a b ha x hm
  ·have:=(h.xQ b hm).2;omega
 ·rcases own h1 with x|⟨rfl,x⟩
  ·have:=h.Cr a b ha x;omega
  ·omega
 ·have:=h.xQ b hb;omega
theorem Ph.BD.rely (O:φ.Ok)(h:φ.UO B0 γ j μ w.heap.size){i:Nat}(hi:i<j){es:Array Event}(hg:φ.BD (γ i) w w' es){i':Nat}(gj:i'<j)(dQ:i'≠i):φ.eP (γ i') w w':=by
 obtain⟨hW,hC,hR,vY⟩:=h.B;have hs:=h.sz;have z7: ∀b,b<B0-> ¬(γ i).own b:=λb hb ho=>by have:=(h.Cr i b hi ho).1;omega
 refine⟨λb hb=> ?_,λb hb=>hg.rest b (by have:=hR b hb;omega) (z7 b (hR b hb)) λx=>O.Wh b x hb,λp a hp ha=>hg.cells a (O.mK p a ha) λp' LR ye=> ?_,hg.pay,λ⟨st,sm,hl⟩=>⟨st,sm,?_⟩,hg.size,hg.tape,hg.os,hg.output⟩
 ·have hr:=h.Cr i' b gj hb;exact hg.rest b hr.2 (λho=>dQ (h.La i' i b gj hi hb ho)) λx=>by have:=vY b x;omega
 ·obtain rfl:=O.Dj p p' a ha ye;exact dQ (h.C9 i' i p gj hi hp LR)
 ·exact(hg.rest φ.Wg (by omega) (z7 _ hW) O.UW).trans hl
theorem Ph.BD.mr (O:φ.Ok)(h:φ.UO B0 γ j μ w.heap.size){i:Nat}(hi:i<j){es:Array Event}(hg:φ.BD (γ i) w w' es):φ.MR μ w w':=by
 obtain⟨hW,hC,hR,vY⟩:=h.B;have hs:=h.sz;have z7: ∀b,b<B0-> ¬(γ i).own b:=λb hb ho=>by have:=(h.Cr i b hi ho).1;omega
 refine⟨λb hb=>hg.rest b (by have:=h.st b hb;omega) (z7 b (h.st b hb)) λx=>O.afd b x hb,λb hb=> ?_,λb hb=>hg.rest b (by have:=hR b hb;omega) (z7 b (hR b hb)) λx=>O.Wh b x hb,hg.pay,λ⟨st,sm,hl⟩=>⟨st,sm,?_⟩,hg.size,hg.tape,hg.os,hg.output⟩
 ·have hr:=h.xQ b hb;exact hg.rest b hr.2 (λho=>h.mine i b hi ho hb) λx=>by have:=vY b x;omega
 ·exact(hg.rest φ.Wg (by omega) (z7 _ hW) O.UW).trans hl
omit [Payload]in
theorem deaf_quiet {g:Nat}{fn:bQ}{pos:String}{es:Array Event}(h: ∀e∈es,e.loc≠ .mark .disable/\e.loc≠ .mark .enable):Deaf (t++bW g fn pos es) g=Deaf t g:=by rw[Deaf_own];exact deafBehind_idle h _
theorem Sl {γ:Gh}{es:Array Event}(h: ∀e∈es,φ.Acc γ e): ∀e∈es,e.loc≠ .mark .disable/\e.loc≠ .mark .enable:=by
 intro e he;rcases si (h e he)with⟨_,hl⟩|⟨_,_,b,hb,_⟩
 ·rw[hl];simp
 ·exact⟨λx=>(by rw[x]at hb;cases hb),λx=>by rw[x]at hb;cases hb⟩
theorem Ph.Com.Zc (O:φ.Ok)(h:φ.Com B0 t0 gs w t j γ S μ q k){i:Nat}(hi:i<j){g g':ay}{w0:ah}(hS:S i=.tree (γ i,g,w0)){es:Array Event}(hg:φ.BD (γ i) w w' es)(QO:φ.WT ((γ i).grow w w') g' w')(fn:bQ)(pos:String)(f:ay->ay)(hf: ∀o,o.status=.running\/o.status=.finished->f o=o):φ.Com B0 t0 ((gs.map f).setIfInBounds (φ.lo+i) g') w' (t++bW (φ.lo+i) fn pos es) j (upd γ i ((γ i).grow w w')) (upd S i (.tree ((γ i).grow w w',g',w'))) μ q k:=by
 have gY: ∀op∈bW (φ.lo+i) fn pos es,op.g=φ.lo+i:=λop hop=>by obtain⟨e,_,rfl⟩:=bh hop;rfl
 have OA:=h.gok.grow hi hg.size;have A:=OA.apart O;have SZ:(S i).wd.deaf=0:=by rw[hS];rfl
 have held: ∀a,(upd γ i ((γ i).grow w w') a).held=(γ a).held:=λa=>by
  by_cases e:a=i
  ·subst e;rw[upd_same];rfl
  ·rw[upd_ne _ _ e]
 have over: ∀a,(upd γ i ((γ i).grow w w') a).over=(γ a).over:=λa=>by
  by_cases e:a=i
  ·subst e;rw[upd_same];rfl
  ·rw[upd_ne _ _ e]
 refine h.Eo O hi f hf gY (λi' gj e=>hg.rely O h.gok hi gj e) ⟨rfl,rfl,QO,.refl _ _⟩ ?_ ?_ OA ?_ (λx=>by simp[tC.wd]at x) ?_ ?_ hg.size ?_ (λp hp=> ?_) (λp i' hp gj=> ?_) (λi' gj hx=> ?_) (λp hp LU=> ?_)
 ·rw[deaf_quiet (Sl hg.ev),h.deaf i hi,SZ];rfl
 ·refine ET.ac6 A (k:=φ.lo+i) (h.et.rS rfl (λkk _ _ l hl=> ?_) (λl hl=> ?_) (λl hl=>hl) λl hl=>.inl hl) (Nat.le_add_right _ _) (by omega) λop hop=>⟨gY op hop,λx hx=> ?_⟩
  ·obtain⟨a,ha,rfl,hl⟩:=hl;by_cases e:a=i
   ·subst e;rw[upd_same]at hl;rcases hl with⟨b,hb,ho⟩|⟨p,ad,hp,tP,rfl⟩
    ·rcases ho with ho|⟨h1,_⟩
     ·exact .inl ⟨a,ha,rfl,.inl ⟨b,hb,ho⟩⟩
     ·exact .inr (.inr (xw h.seen hb h1))
    ·exact .inl ⟨a,ha,rfl,.inr ⟨p,ad,hp,tP,rfl⟩⟩
   ·rw[upd_ne _ _ e]at hl;exact .inl ⟨a,ha,rfl,hl⟩
  ·obtain⟨p,ad,hn,tP,rfl⟩:=hl;exact⟨p,ad,λa ha=>by have:=hn a ha;rwa[held a]at this,tP,rfl⟩
  ·obtain⟨e,he,rfl⟩:=bh hop;simp only at hx;rcases si (hg.ev e he)with⟨h1,_⟩|⟨_,h2,b,hb,h3⟩
   ·rw[h1]at hx;cases hx
   ·rw[h2]at hx;cases hx;rcases h3 with ho|⟨p,ad,hp,tP,hl⟩|⟨hw,hr⟩
    ·exact .inr (.inl ⟨i,hi,rfl,by rw[upd_same];exact .inl ⟨b,hb,ho⟩⟩)
    ·exact .inr (.inl ⟨i,hi,rfl,by rw[upd_same];exact .inr ⟨p,ad,hp,tP,hl⟩⟩)
    ·exact .inr (.inr ⟨⟨b,hb,hr⟩,hw⟩)
 ·intro op hop;obtain⟨e,he,rfl⟩:=bh hop;rcases si (hg.ev e he)with⟨h1,_⟩|⟨h1,_⟩<;>simp only[h1]<;>simp
 ·intro op hop x hx hk;obtain⟨e,he,rfl⟩:=bh hop;rcases si (hg.ev e he)with⟨h1,_⟩|⟨_,h2,_⟩
  ·simp only[h1]at hx;cases hx
  ·simp only[h2]at hx;cases hx;exact absurd rfl hk
 ·intro op hop x hx;obtain⟨e,he,rfl⟩:=bh hop;have hs:=h.gok.sz;have hz:=hg.size;obtain⟨hW,hC,hR,vY⟩:=h.gok.B;rcases si (hg.ev e he)with⟨h1,_⟩|⟨_,h1,b,hb,h3⟩
  ·simp only[h1]at hx;cases hx
  ·simp only[h1]at hx;cases hx;refine Dl (l:=e.loc) λb' jN=> ?_
   rw[hb]at jN;cases jN;rcases h3 with ho|⟨p,ad,hp,tP,hl⟩|⟨hw,hr⟩
   ·exact(OA.Cr i b hi (by rw[upd_same];exact ho)).2
   ·rw[hl]at hb;cases hb;have:=vY _ (O.mK _ _ tP);omega
   ·have:=hR b hr;omega
 ·obtain⟨hk,cap,s,r,tm,hc⟩:=h.chan;obtain⟨hW,hC,hR,vY⟩:=h.gok.B;have hs:=h.gok.sz;exact⟨hk,cap,s,r,tm,(hg.rest φ.Ch (by omega) (λho=>by have:=(h.gok.Cr i _ hi ho).1;omega) O.cbC).trans hc⟩
 ·obtain⟨i',gj,hh⟩:=h.done p hp;exact⟨i',gj,by rw[held i'];exact hh⟩
 ·rw[held i'];exact h.todo p i' hp gj
 ·rw[over i']at hx;exact h.over i' gj hx
 ·refine O.j0 w w' p (λa ha=>hg.cells a (O.mK p a ha) λp' LR ye=> ?_) (h.free p hp LU);obtain rfl:=O.Dj p p' a ha ye;exact h.todo p i hp hi LR
end
end Rel
namespace Rel
open Go.Conc Go.ConcN
open Go.ConcR (KK WgAt rd wr Payload DC0 stA smA)
section
variable [Payload] {φ:Ph} {B0:Nat} {t0:Trace} {gs:Array ay} {w w':ah} {t:Trace} {j:Nat} {γ:Nat->Gh} {S:Nat->tC} {μ:Nat->Prop} {q:Nat->Nat} {k k':Nat}
theorem My {i c:Nat}(h: ∀(x:Nat) (g:ay),x≠i->gs[x]? =ae g->g.status≠ .blocked\/g.offers=ai)(b:Bool):partners (gs.setIfInBounds i Go.Conc.ph) c b=[]:=by
 refine partners_nil λx g hx=> ?_
 rcases getElem?_stand gs i x g hx with⟨_,rfl⟩|⟨dQ,L4⟩
 ·rfl
 ·rcases h x g dQ L4 with hs|ho
  ·exact offersAt_of_not_blocked hs _ _
  ·unfold offersAt;rw[ho];cases g.status<;>rfl
theorem Hu (O:φ.Ok){γ':Gh}(hC: ¬γ'.own φ.Ch)(cap:Nat)(buf:Array aq)(cl:Bool)(s r:Nat)(tm:Bool)(tk: ∃cap buf cl s r tm,w.heap[φ.Ch]? =ae (.chan cap buf cl s r tm)):φ.eP γ' w (w.setChan φ.Ch cap buf cl s r tm):=by
 have blk: ∀b,b≠φ.Ch->(w.setChan φ.Ch cap buf cl s r tm).heap[b]? =w.heap[b]?:=λb hb=>by show(w.heap.setIfInBounds φ.Ch _)[b]? =_;rw[aO (Ne.symm hb)]
 refine⟨λb hb=>blk b λe=>hC (e▸hb),λb hb=>blk b λe=>O.rdC (e▸hb),λp a _ ha=> ?_,λb hb=> ?_,λ⟨st,sm,hl⟩=>⟨st,sm,(blk φ.Wg (Ne.symm O.hCW)).trans hl⟩,by simp[pB],rfl,rfl,rfl⟩
 ·have dQ:a.block≠φ.Ch:=λe=>O.cbC (e▸O.mK p a ha)
  unfold c8;rw[blk _ dQ]
 ·unfold fz;rw[blk _ λe=>O.cbC (e▸hb)]
theorem aa' (O:φ.Ok)(hC: ¬μ φ.Ch)(cap:Nat)(buf:Array aq)(cl:Bool)(s r:Nat)(tm:Bool):φ.MR μ w (w.setChan φ.Ch cap buf cl s r tm):=by
 have blk: ∀b,b≠φ.Ch->(w.setChan φ.Ch cap buf cl s r tm).heap[b]? =w.heap[b]?:=λb hb=>by show(w.heap.setIfInBounds φ.Ch _)[b]? =_;rw[aO (Ne.symm hb)]
 exact⟨λb hb=>blk b λe=>O.ahY (e▸hb),λb hb=>blk b λe=>hC (e▸hb),λb hb=>blk b λe=>O.rdC (e▸hb),λb hb=>by unfold fz;rw[blk _ λe=>O.cbC (e▸hb)],λ⟨st,sm,hl⟩=>⟨st,sm,(blk φ.Wg (Ne.symm O.hCW)).trans hl⟩,by simp[pB],rfl,rfl,rfl⟩
theorem Ph.Com.aco (h:φ.Com B0 t0 gs w t j γ S μ q k){i:Nat}(hi:i<j): ¬(γ i).own φ.Ch:=λho=>by have:=(h.gok.Cr i _ hi ho).1;have:=h.gok.B.2.1;omega
theorem Ph.Com.adf (h:φ.Com B0 t0 gs w t j γ S μ q k): ¬μ φ.Ch:=λho=>by have:=(h.gok.xQ _ ho).1;have:=h.gok.B.2.1;omega
theorem Hb (gs:Array ay):gs.map id=gs:=by simp
theorem Ph.Com.abA (O:φ.Ok)(h:φ.Com B0 t0 gs w t j γ S μ q k){i:Nat}(hi:i<j){g:ay}{x:WX}(hS:S i=.tree x)(bE:k<φ.nj){cap s r:Nat}{tm:Bool}(tk:w.heap[φ.Ch]? =ae (.chan cap ((fP k (φ.nj-k)).map φ.jv).toArray aA s r tm))(QO:φ.WT ((γ i).hold k) (Ph.got g (φ.jv k) aA) w)(fn:bQ)(pos:String):φ.Com B0 t0 (gs.setIfInBounds (φ.lo+i) (Ph.got g (φ.jv k) aA)) (w.setChan φ.Ch cap ((fP (k+1) (φ.nj-(k+1))).map φ.jv).toArray aA s (r+1) tm) (t++ #[{g:=φ.lo+i,fn,pos,act:=.recv φ.Ch r cap},{g:=φ.lo+i,fn,pos,act:=.recvDone φ.Ch r}]) j (upd γ i ((γ i).hold k)) (upd S i (.tree ((γ i).hold k,Ph.got g (φ.jv k) aA,w))) μ q (k+1):=by
 have hm: ∀op∈(#[{g:=φ.lo+i,fn,pos,act:=.recv φ.Ch r cap},{g:=φ.lo+i,fn,pos,act:=.recvDone φ.Ch r}]:Trace),op.g=φ.lo+i/\op.act.touch? =ai/\(∀m,op.act≠ .mark m)/\op.act.low w.heap.size:=by
  intro op hop;have hl:φ.Ch<w.heap.size:=by have:=h.gok.B.2.1;have:=h.gok.sz;omega
  simp only[pz,cy,jo,or_false]at hop;rcases hop with rfl|rfl<;>exact⟨rfl,rfl,by simp,hl⟩
 have km:(w.setChan φ.Ch cap ((fP (k+1) (φ.nj-(k+1))).map φ.jv).toArray aA s (r+1) tm).heap.size=w.heap.size:=by simp[pB]
 have own: ∀{a b:Nat},(upd γ i ((γ i).hold k) a).own b↔(γ a).own b:=by
  intro a b;by_cases e:a=i
  ·subst e;rw[upd_same];rfl
  ·rw[upd_ne _ _ e]
 have over: ∀{a:Nat},(upd γ i ((γ i).hold k) a).over↔(γ a).over:=by
  intro a;by_cases e:a=i
  ·subst e;rw[upd_same];rfl
  ·rw[upd_ne _ _ e]
 have held: ∀{a p:Nat},(upd γ i ((γ i).hold k) a).held p↔((γ a).held p\/(a=i/\p=k)):=by
  intro a p;by_cases e:a=i
  ·subst e;rw[upd_same];simp[Gh.hold]
  ·rw[upd_ne _ _ e];simp[e]
 have e:=h.Eo (w':=w.setChan φ.Ch cap ((fP (k+1) (φ.nj-(k+1))).map φ.jv).toArray aA s (r+1) tm) (k':=k+1) (g':=Ph.got g (φ.jv k) aA) (Zp:=(γ i).hold k) (Si:=.tree ((γ i).hold k,Ph.got g (φ.jv k) aA,w)) O hi id (λ_ _=>rfl)
  (λop hop=>(hm op hop).1) (λi' gj _=>Hu O (h.aco gj) _ _ _ _ _ _ ⟨_,_,_,_,_,_,tk⟩)
  ⟨rfl,rfl,QO,Hu O (γ':=(γ i).hold k) (h.aco hi) _ _ _ _ _ _ ⟨_,_,_,_,_,_,tk⟩⟩ ?_ ?_ ?_ (λop hop=>(hm op hop).2.2.1 _) (λx=>by simp[tC.wd]at x) (λop hop x hx=>by rw[(hm op hop).2.1]at hx;cases hx)
  (λop hop x hx=>by rw[(hm op hop).2.1]at hx;cases hx) (by rw[km];exact az _) ?_ (λp hp=> ?_) (λp i' hp gj=> ?_) (λi' gj hx=> ?_) (λp hp LU=>O.j0 _ _ p (λa ha=> ?_) (h.free p (by omega) LU))
 ·rw[Hb]at e;exact e
 ·rw[Deaf_still t _ _ λop hop=>⟨(hm op hop).2.2.1 _,(hm op hop).2.2.1 _⟩,h.deaf i hi,hS];rfl
 ·refine ET.mute (g:=φ.lo+i) (h.et.rS rfl (λkk _ _ l hl=> ?_) (λl hl=> ?_) (λl hl=>hl) λl hl=>.inl hl) (by omega) (λop hop=>(hm op hop).1) λop hop=>(hm op hop).2.1
  ·obtain⟨a,ha,rfl,hl⟩:=hl;rcases hl with⟨b,hb,ho⟩|⟨p,ad,hp,tP,rfl⟩
   ·exact .inl ⟨a,ha,rfl,.inl ⟨b,hb,own.1 ho⟩⟩
   ·rcases held.1 hp with hp|⟨rfl,rfl⟩
    ·exact .inl ⟨a,ha,rfl,.inr ⟨p,ad,hp,tP,rfl⟩⟩
    ·exact .inr (.inl ⟨p,ad,λi' gj=>h.todo p i' (az _) gj,tP,rfl⟩)
  ·obtain⟨p,ad,hn,tP,rfl⟩:=hl;exact⟨p,ad,λa ha hp=>hn a ha (held.2 (.inl hp)),tP,rfl⟩
 ·rw[km];refine⟨λa a' b ha ye h1 h2=>h.gok.La a a' b ha ye (own.1 h1) (own.1 h2),λa b ha h1=>h.gok.mine a b ha (own.1 h1),λa b ha h1=>h.gok.Cr a b ha (own.1 h1),h.gok.xQ,λa a' p ha ye h1 h2=> ?_,λa p ha h1=> ?_,h.gok.sz,h.gok.B,h.gok.st⟩
  ·rcases held.1 h1 with x|⟨rfl,rfl⟩<;>rcases held.1 h2 with y|⟨rfl,y⟩
   ·exact h.gok.C9 a a' p ha ye x y
   ·subst y;exact absurd x (h.todo _ a (az _) ha)
   ·exact absurd y (h.todo _ a' (az _) ye)
   ·rfl
  ·rcases held.1 h1 with x|⟨rfl,rfl⟩
   ·exact h.gok.bE a p ha x
   ·exact bE
 ·refine⟨by omega,cap,s,r+1,tm,?_⟩;show(w.heap.setIfInBounds φ.Ch _)[φ.Ch]? =_;rw[aW (aL.1 tk).1]
 ·rcases dM p k with LR|LR
  ·obtain⟨i',gj,hh⟩:=h.done p LR;exact⟨i',gj,held.2 (.inl hh)⟩
  ·exact⟨i,hi,held.2 (.inr ⟨rfl,by omega⟩)⟩
 ·intro hh;rcases held.1 hh with x|⟨_,rfl⟩
  ·exact h.todo p i' (by omega) gj x
  ·omega
 ·have:=h.over i' gj (over.1 hx);omega
 ·have dQ:a.block≠φ.Ch:=λe=>O.cbC (e▸O.mK p a ha)
  have blk:(w.setChan φ.Ch cap ((fP (k+1) (φ.nj-(k+1))).map φ.jv).toArray aA s (r+1) tm).heap[a.block]? =w.heap[a.block]?:=by show(w.heap.setIfInBounds φ.Ch _)[a.block]? =_;rw[aO (Ne.symm dQ)]
  unfold c8;rw[blk]
theorem Ph.Com.YE (O:φ.Ok)(h:φ.Com B0 t0 gs w t j γ S μ q k){i:Nat}(hi:i<j){g:ay}{x:WX}(hS:S i=.tree x)(hk:k=φ.nj)(QO:φ.WT (γ i).close (Ph.got g φ.z aw) w)(fn:bQ)(pos:String):φ.Com B0 t0 (gs.setIfInBounds (φ.lo+i) (Ph.got g φ.z aw)) w (t++ #[{g:=φ.lo+i,fn,pos,act:=.recvClosed φ.Ch}]) j (upd γ i (γ i).close) (upd S i (.tree ((γ i).close,Ph.got g φ.z aw,w))) μ q k:=by
 have hm: ∀op∈(#[{g:=φ.lo+i,fn,pos,act:=.recvClosed φ.Ch}]:Trace),op.g=φ.lo+i/\op.act.touch? =ai/\(∀m,op.act≠ .mark m)/\op.act.low w.heap.size:=by
  intro op hop;have hl:φ.Ch<w.heap.size:=by have:=h.gok.B.2.1;have:=h.gok.sz;omega
  simp only[pz,cy,jo,or_false]at hop;rcases hop with rfl;exact⟨rfl,rfl,by simp,hl⟩
 have own: ∀{a b:Nat},(upd γ i (γ i).close a).own b↔(γ a).own b:=by
  intro a b;by_cases e:a=i
  ·subst e;rw[upd_same];rfl
  ·rw[upd_ne _ _ e]
 have held: ∀{a p:Nat},(upd γ i (γ i).close a).held p↔(γ a).held p:=by
  intro a p;by_cases e:a=i
  ·subst e;rw[upd_same];rfl
  ·rw[upd_ne _ _ e]
 have e:=h.Eo (w':=w) (k':=k) (g':=Ph.got g φ.z aw) (Zp:=(γ i).close) (Si:=.tree ((γ i).close,Ph.got g φ.z aw,w)) O hi id (λ_ _=>rfl)
  (λop hop=>(hm op hop).1) (λi' gj _=>.refl _ _) ⟨rfl,rfl,QO,.refl _ _⟩ ?_ ?_ ?_ (λop hop=>(hm op hop).2.2.1 _) (λx=>by simp[tC.wd]at x) (λop hop x hx=>by rw[(hm op hop).2.1]at hx;cases hx)
  (λop hop x hx=>by rw[(hm op hop).2.1]at hx;cases hx) (az _) h.chan (λp hp=> ?_) (λp i' hp gj=> ?_) (λi' gj hx=>hk) h.free
 ·rw[Hb]at e;exact e
 ·rw[Deaf_still t _ _ λop hop=>⟨(hm op hop).2.2.1 _,(hm op hop).2.2.1 _⟩,h.deaf i hi,hS];rfl
 ·refine ET.mute (g:=φ.lo+i) (h.et.rS rfl (λkk _ _ l hl=>.inl ?_) (λl hl=> ?_) (λl hl=>hl) λl hl=>.inl hl) (by omega) (λop hop=>(hm op hop).1) λop hop=>(hm op hop).2.1
  ·obtain⟨a,ha,rfl,hl⟩:=hl;rcases hl with⟨b,hb,ho⟩|⟨p,ad,hp,tP,rfl⟩
   ·exact⟨a,ha,rfl,.inl ⟨b,hb,own.1 ho⟩⟩
   ·exact⟨a,ha,rfl,.inr ⟨p,ad,held.1 hp,tP,rfl⟩⟩
  ·obtain⟨p,ad,hn,tP,rfl⟩:=hl;exact⟨p,ad,λa ha hp=>hn a ha (held.2 hp),tP,rfl⟩
 ·exact⟨λa a' b ha ye h1 h2=>h.gok.La a a' b ha ye (own.1 h1) (own.1 h2),λa b ha h1=>h.gok.mine a b ha (own.1 h1),λa b ha h1=>h.gok.Cr a b ha (own.1 h1),h.gok.xQ,λa a' p ha ye h1 h2=>h.gok.C9 a a' p ha ye (held.1 h1) (held.1 h2),λa p ha h1=>h.gok.bE a p ha (held.1 h1),h.gok.sz,h.gok.B,h.gok.st⟩
 ·obtain⟨i',gj,hh⟩:=h.done p hp;exact⟨i',gj,held.2 hh⟩
 ·intro hh;exact h.todo p i' hp gj (held.1 hh)
end
end Rel
namespace Rel
open Go.Conc Go.ConcN
open Go.ConcR (KK WgAt rd wr Payload DC0 stA smA Bk ofEvent_loc_mark ofEvent_cell bk_of_mute)
section
variable [Payload] {φ:Ph} {B0:Nat} {t0:Trace} {gs:Array ay} {w w':ah} {t:Trace} {j:Nat} {γ:Nat->Gh} {S:Nat->tC} {μ:Nat->Prop} {q:Nat->Nat} {k k':Nat}
theorem RD (O:φ.Ok){γ':Gh}(hC: ¬γ'.own φ.Wg)(h:Go.Conc.Aside φ.Wg w w')(hl:WgLive φ.ty φ.Wg w'):φ.eP γ' w w':=by
 refine⟨λb hb=>h.block b λe=>hC (e▸hb),λb hb=>h.block b λe=>O.rdW (e▸hb),λp a _ ha=> ?_,λb hb=> ?_,λ_=>hl,by rw[h.size];exact az _,h.tape,h.os,h.output⟩
 ·have dQ:a.block≠φ.Wg:=λe=>O.UW (e▸O.mK p a ha)
  unfold c8;rw[h.block _ dQ]
 ·unfold fz;rw[h.block _ λe=>O.UW (e▸hb)]
theorem agp (O:φ.Ok)(hC: ¬μ φ.Wg)(h:Go.Conc.Aside φ.Wg w w')(hl:WgLive φ.ty φ.Wg w'):φ.MR μ w w':=⟨λb hb=>h.block b λe=>O.agF (e▸hb),λb hb=>h.block b λe=>hC (e▸hb),λb hb=>h.block b λe=>O.rdW (e▸hb),λb hb=>by unfold fz;rw[h.block _ λe=>O.UW (e▸hb)],λ_=>hl,by rw[h.size];exact az _,h.tape,h.os,h.output⟩
theorem Ph.Com.R4 (h:φ.Com B0 t0 gs w t j γ S μ q k){i:Nat}(hi:i<j): ¬(γ i).own φ.Wg:=λho=>by have:=(h.gok.Cr i _ hi ho).1;have:=h.gok.B.1;omega
theorem Ph.Com.aeu (h:φ.Com B0 t0 gs w t j γ S μ q k): ¬μ φ.Wg:=λho=>by have:=(h.gok.xQ _ ho).1;have:=h.gok.B.1;omega
theorem j7 {α:Type}(f:Nat->α)(i:Nat):upd f i (f i)=f:=by
 funext a;by_cases e:a=i
 ·subst e;rw[upd_same]
 ·rw[upd_ne _ _ e]
theorem CP {e:Event}(h:Bk φ.Wg e):(∀x,(cN e).touch? =ae x->x.kind=.atomic/\ShN φ.Wg x.loc)/\cN e≠ .mark (.release (stA φ.Wg))/\ ∀B,φ.Wg<B->(cN e).low B:=by
 rcases h with h1|h1|⟨a,wr,rfl,ha⟩
 ·rw[ofEvent_loc_mark h1];exact⟨λx hx=>by(cases hx),by simp,λ_ _=>trivial⟩
 ·rw[ofEvent_loc_mark h1];exact⟨λx hx=>by(cases hx),by simp,λ_ _=>trivial⟩
 ·rw[ofEvent_cell];refine⟨λx hx=> ?_,by simp,λB hB=>by show a.block<B;rw[ha];exact hB⟩;simp only[r6,dz]at hx;subst hx;exact⟨rfl,a,rfl,ha⟩
theorem Ph.Com.Y7 (O:φ.Ok)(h:φ.Com B0 t0 gs w t j γ S μ q k){i:Nat}(hi:i<j){d d':WD}(hS:S i=.tail d){g':ay}{es:Array Event}{C:Nat}{v:aq}(hO:(γ i).over)(hC:(γ i).own C)(hP:PayAt C 1 w)(hJ: ∀p,(γ i).held p->φ.JP (λb=>(γ i).own b/\b≠C) p w)(sI:Go.Conc.Aside φ.Wg w w')(hl:WgLive φ.ty φ.Wg w')(BM: ∀e∈es,Bk φ.Wg e)(GN:WSit φ.P φ.ty φ.Wg C 1 (λ_ _=>False) (λ_ _=>False) 0 1 v d'.stage d'.fuel d'.deaf g' w')(s1:1<=d'.stage)(s7:d'.stage<=6)(h6:d.stage<=6)(hd: ∀x e,es[x]? =ae e->(cN e).touch? =ai\/0<deafBehind d.deaf (es.extract 0 x))(FI:deafBehind d.deaf es=d'.deaf)(fn:bQ)(pos:String)(f:ay->ay)(hf: ∀o,o.status=.running\/o.status=.finished->f o=o):φ.Com B0 t0 ((gs.map f).setIfInBounds (φ.lo+i) g') w' (t++bW (φ.lo+i) fn pos es) j γ (upd S i (.tail d')) μ q k:=by
 have gY: ∀op∈bW (φ.lo+i) fn pos es,op.g=φ.lo+i:=λop hop=>by obtain⟨e,_,rfl⟩:=bh hop;rfl
 have aaQ:φ.Wg<w'.heap.size:=by have:=h.gok.B.1;have:=h.gok.sz;rw[sI.size];omega
 have hdk:Deaf t (φ.lo+i)=d.deaf:=by rw[h.deaf i hi,hS];rfl
 have rel:=λ{i':Nat} (gj:i'<j)=>RD O (h.R4 gj) sI hl
 obtain⟨cs,p1,p2⟩:=hP;have e:=h.Eo (w':=w') (k':=k) (g':=g') (Zp:=γ i) (Si:=.tail d') O hi f hf gY (λi' gj _=>rel gj) ⟨C,v,hO,hC,⟨cs,((rel hi).own C hC).trans p1,p2⟩,λp hp=>O.jp _ w w' p (λb hb=>(rel hi).own b hb.1) (λa ha=>(rel hi).cell p a hp ha) (hJ p hp),s1,by omega,GN⟩ (by rw[Deaf_own,hdk,FI];rfl) ?_ ?_ ?_ (λ_=> ?_) ?_ ?_ (by rw[sI.size];exact az _) ?_ ?_ ?_ ?_ ?_
 ·rw[j7]at e;exact e
 ·rw[j7];refine ET.ac6 (h.gok.apart O) (k:=φ.lo+i) h.et (Nat.le_add_right _ _) (by omega) λop hop=>⟨gY op hop,λx hx=> ?_⟩
  obtain⟨e,he,rfl⟩:=bh hop;obtain⟨h1,h2⟩:=(CP (BM e he)).1 x hx;exact .inl ⟨h2,by rw[h1];simp,by rw[h1];simp⟩
 ·rw[j7,sI.size];exact h.gok
 ·intro op hop;obtain⟨e,he,rfl⟩:=bh hop;exact(CP (BM e he)).2.1
 ·obtain⟨r,hr⟩:=h.rel i hi (by rw[hS];exact h6);exact⟨r,hr.book hdk _ _ BM hd⟩
 ·intro op hop x hx _;obtain⟨e,he,rfl⟩:=bh hop;exact((CP (BM e he)).1 x hx).2
 ·intro op hop x hx;obtain⟨e,he,rfl⟩:=bh hop;obtain⟨a,h1,h2⟩:=((CP (BM e he)).1 x hx).2;rw[h1];exact(by rw[h2];exact aaQ:a.block<w'.heap.size)
 ·obtain⟨hk,cap,s,r,tm,hc⟩:=h.chan;exact⟨hk,cap,s,r,tm,(sI.block φ.Ch O.hCW).trans hc⟩
 ·rw[j7];exact h.done
 ·rw[j7];exact h.todo
 ·rw[j7];exact h.over
 ·intro p hp LU;refine O.j0 _ _ p (λa ha=> ?_) (h.free p hp LU);unfold c8;rw[sI.block _ λe=>O.UW (e▸O.mK p a ha)]
theorem Ph.Com.RS (O:φ.Ok)(h:φ.Com B0 t0 gs w t j γ S μ q k){i:Nat}(hi:i<j){d d':WD}(hS:S i=.tail d){g':ay}{es:Array Event}{C:Nat}{v:aq}(hO:(γ i).over)(hC:(γ i).own C)(hP:PayAt C 1 w)(hJ: ∀p,(γ i).held p->φ.JP (λb=>(γ i).own b/\b≠C) p w')(sI:AsideCell C 1 0 w w')(GN:WSit φ.P φ.ty φ.Wg C 1 (λ_ _=>False) (λ_ _=>False) 0 1 v d'.stage d'.fuel d'.deaf g' w')(s1:1<=d'.stage)(s7:d'.stage<=7)(FI:deafBehind d.deaf es=d'.deaf)(fn:bQ)(pos:String)(tn: ∀e∈es,(∀x,(cN e).touch? =ae x->ShN φ.Wg x.loc/\x.kind≠ .plain/\x.kind≠ .said)/\cN e≠ .mark (.release (stA φ.Wg)))(hr:d'.stage<=6-> ∃r,RelBy (stA φ.Wg) (t++bW (φ.lo+i) fn pos es) (φ.lo+i) r)(f:ay->ay)(hf: ∀o,o.status=.running\/o.status=.finished->f o=o):φ.Com B0 t0 ((gs.map f).setIfInBounds (φ.lo+i) g') w' (t++bW (φ.lo+i) fn pos es) j γ (upd S i (.tail d')) μ q k/\φ.MR μ w w':=by
 have gY: ∀op∈bW (φ.lo+i) fn pos es,op.g=φ.lo+i:=λop hop=>by obtain⟨e,_,rfl⟩:=bh hop;rfl
 have hdk:Deaf t (φ.lo+i)=d.deaf:=by rw[h.deaf i hi,hS];rfl
 obtain⟨hW,hCh,hR,vY⟩:=h.gok.B;have aif:=h.gok.Cr i C hi hC;have ne: ∀b,b<B0->b≠C:=λb hb e=>by omega
 have rel: ∀{i':Nat},i'<j->i'≠i->φ.eP (γ i') w w':=λ{i'} gj dQ=>by
  refine⟨λb hb=>sI.block b λe=>dQ (h.gok.La i' i b gj hi hb (e▸hC)),λb hb=>sI.block b (ne b (hR b hb)),λp a _ ha=> ?_,λb hb=> ?_,λ⟨st,sm,hl⟩=>⟨st,sm,(sI.block φ.Wg (ne _ hW)).trans hl⟩,by rw[sI.size];exact az _,sI.tape,sI.os,sI.output⟩
  ·unfold c8;rw[sI.block _ (ne _ (vY _ (O.mK p a ha)))]
  ·unfold fz;rw[sI.block _ (ne _ (vY _ hb))]
 refine⟨?_,⟨λb hb=>sI.block b (ne b (h.gok.st b hb)),λb hb=>sI.block b λe=>h.gok.mine i C hi hC (e▸hb),λb hb=>sI.block b (ne b (hR b hb)),λb hb=>by unfold fz;rw[sI.block _ (ne _ (vY _ hb))],λ⟨st,sm,hl⟩=>⟨st,sm,(sI.block φ.Wg (ne _ hW)).trans hl⟩,by rw[sI.size];exact az _,sI.tape,sI.os,sI.output⟩⟩;have e:=h.Eo (w':=w') (k':=k) (g':=g') (Zp:=γ i) (Si:=.tail d') O hi f hf gY (λi' gj dQ=>rel gj dQ) ⟨C,v,hO,hC,sI.pay hP,hJ,s1,s7,GN⟩ (by rw[Deaf_own,hdk,FI];rfl) ?_ ?_ ?_ hr ?_ ?_ (by rw[sI.size];exact az _) ?_ ?_ ?_ ?_ ?_
 ·rw[j7]at e;exact e
 ·rw[j7];refine ET.ac6 (h.gok.apart O) (k:=φ.lo+i) h.et (Nat.le_add_right _ _) (by omega) λop hop=>⟨gY op hop,λx hx=> ?_⟩
  obtain⟨e,he,rfl⟩:=bh hop;exact .inl ((tn e he).1 x hx)
 ·rw[j7,sI.size];exact h.gok
 ·intro op hop;obtain⟨e,he,rfl⟩:=bh hop;exact(tn e he).2
 ·intro op hop x hx hk;obtain⟨e,he,rfl⟩:=bh hop;exact((tn e he).1 x hx).1
 ·intro op hop x hx;obtain⟨e,he,rfl⟩:=bh hop;obtain⟨⟨a,h1,h2⟩,_⟩:=(tn e he).1 x hx;have hs:=h.gok.sz;rw[h1,sI.size];exact(by rw[h2];omega:a.block<w.heap.size)
 ·obtain⟨hk,cap,s,r,tm,hc⟩:=h.chan;exact⟨hk,cap,s,r,tm,(sI.block φ.Ch (ne _ hCh)).trans hc⟩
 ·rw[j7];exact h.done
 ·rw[j7];exact h.todo
 ·rw[j7];exact h.over
 ·intro p hp LU;refine O.j0 _ _ p (λa ha=> ?_) (h.free p hp LU);unfold c8;rw[sI.block _ (ne _ (vY _ (O.mK p a ha)))]
end
end Rel
namespace Rel
open Go.Conc Go.ConcN
open Go.ConcR (KK WgAt rd wr Payload DC0 stA smA Bk ofEvent_loc_mark ofEvent_cell bk_of_mute)
def CK (n j:Nat):CTag->Prop
 | .sp r _=>j+(r+1)=n
 |_=>j=n
def jk (v:Nat):CTag->Nat
 | .sp r s=>20+16*r+s
 | .kd=>12
 | .anch=>7
 | .w1=>6
 | .w2 vs=>if v=vs then 5 else 10
 | .w3=>4
 | .blk=>4
 | .w4=>3
 | .ke=>2
 | .acq=>1
 | .ret=>0
section
variable [Payload] (φ:Ph) (Goal:ay->ah->Prop) (AnchW:(Nat->Prop)->ay->ah->Prop) (B0:Nat) (t0:Trace)
def Ph.tq (j:Nat)(t:Trace):Prop:= ∃p,t0.size<=p/\t.act? p=ae (.mark (.acquire (stA φ.Wg)))/\t.g? p=ae 0/\t.heard p/\ ∀i,i<j-> ∃r,RelBy (stA φ.Wg) t (φ.lo+i) r/\r<p/\t0.size<=r
abbrev jQ (S:Nat->tC):Nat->WD:=λi=>(S i).wd
def Ph.mu (S:Nat->tC)(q:Nat->Nat)(j:Nat)(tag:CTag)(f0:Nat):Mu:=(S,(sumTo φ.lo q,(jk (Vc j (jQ S)) tag,f0)))
def Ph.Inv (m:Mu)(mc:Machine)(t:Trace):Prop:=
 ∃(gs:Array ay) (w:ah) (sl:Option (Nat×Nat)) (j:Nat) (γ:Nat->Gh) (S:Nat->tC) (μ:Nat->Prop) (q:Nat->Nat) (k:Nat) (tag:CTag) (f0 d0:Nat) (a:ay) (st sm:Int),
  mc=crowd gs w sl/\gs[0]? =ae a/\φ.kF Goal AnchW tag f0 d0 μ a w/\Deaf t 0=d0/\φ.Com B0 t0 gs w t j γ S μ q k/\WgAt φ.ty φ.Wg w st sm/\fg j (jQ S) tag st sm/\CK φ.n j tag/\
  (tag=.ret->φ.tq t0 j t)/\(∀i,i<φ.n->_root_.Acc φ.KB (S i))/\m=φ.mu S q j tag f0
end
section
variable [Payload] {φ:Ph} {Goal:ay->ah->Prop} {AnchW:(Nat->Prop)->ay->ah->Prop} {B0:Nat} {t0:Trace} {gs sH:Array ay} {w w':ah} {sl:Option (Nat×Nat)} {t:Trace} {j:Nat} {γ γ':Nat->Gh} {S:Nat->tC} {μ:Nat->Prop} {q:Nat->Nat} {k k':Nat} {tag:CTag} {f0 d0:Nat} {a:ay} {st sm Au Aq:Int}
theorem wF (S:Nat->tC)(i:Nat)(s:tC):jQ (upd S i s)=upd (jQ S) i s.wd:=by
 funext x;by_cases e:x=i
 ·subst e;show(upd S x s x).wd=_;rw[upd_same,upd_same]
 ·show(upd S i s x).wd=_;rw[upd_ne _ _ e,upd_ne _ _ e]
theorem xK (fi: ∀i,i<φ.n->_root_.Acc φ.KB (S i))(hjn:j<=φ.n)(mY:Deaf t 0=d0)(mJ:CK φ.n j tag){i:Nat}(hi:i<j)(Kw:0<φ.lo){Si:tC}{ops:Trace}{a':ay}{tag':CTag}{f':Nat}(lY:φ.Com B0 t0 sH w' (t++ops) j γ' (upd S i Si) μ q k')(ye:sH[0]? =ae a')(uA:φ.kF Goal AnchW tag' f' d0 μ a' w')(Jb:tag'=tag\/(tag=.blk/\tag'=.w3))(gY: ∀op∈ops,op.g=φ.lo+i)(cG:runT φ.P (crowd gs w sl) (φ.lo+i)=(.next (crowd sH w' sl),ops))(jL:WgAt φ.ty φ.Wg w' Au Aq)(dC:fg j (jQ (upd S i Si)) tag' Au Aq)(rU:tag=.ret->φ.tq t0 j (t++ops))(bE:φ.KB Si (S i)): ∃m' nA rZ,runT φ.P (crowd gs w sl) (φ.lo+i)=(.next m',nA)/\φ.Tv rZ (φ.mu S q j tag f0)/\φ.Inv Goal AnchW B0 t0 rZ m' (t++nA):=by
 refine⟨_,_,φ.mu (upd S i Si) q j tag' f',cG,Prod.Lex.left _ _ ⟨i,by omega,by rw[upd_same];exact bE,λx hx=>upd_ne _ _ hx⟩,sH,w',sl,j,γ',upd S i Si,μ,q,k',tag',f',d0,a',Au,Aq,rfl,ye,uA,?_,lY,jL,dC,?_,?_,λx hx=> ?_,rfl⟩
 ·rw[Deaf_other t (g':=φ.lo+i) (by omega) _ gY,mY]
 ·rcases Jb with rfl|⟨rfl,rfl⟩<;>exact mJ
 ·intro e;rcases Jb with rfl|⟨_,rfl⟩
  ·exact rU e
  ·cases e
 ·by_cases e:x=i
  ·subst e;rw[upd_same];exact(fi x hx).inv bE
  ·rw[upd_ne _ _ e];exact fi x hx
theorem tU (yd: ∀μ g w,AnchW μ g w->g.status=.running)(fi: ∀i,i<φ.n->_root_.Acc φ.KB (S i))(hjn:j<=φ.n)(mY:Deaf t 0=d0)(mJ:CK φ.n j tag){i:Nat}(hi:i<j)(Kw:0<φ.lo)(ha:gs[0]? =ae a)(sJ:φ.kF Goal AnchW tag f0 d0 μ a w){g g':ay}{es:Array Event}(hg:gs[φ.lo+i]? =ae g)(hgo:stepG φ.P aw g w=.go g' w' es){Si:tC}(hMR:φ.MR μ w w')(lY: ∀f:ay->ay,(∀o,o.status=.running\/o.status=.finished->f o=o)->φ.Com B0 t0 ((gs.map f).setIfInBounds (φ.lo+i) g') w' (t++bW (φ.lo+i) g.frame.fn g.frame.place es) j γ' (upd S i Si) μ q k')(jL:WgAt φ.ty φ.Wg w' Au Aq)(dC: ∀tag',(tag'=tag\/(tag=.blk/\tag'=.w3))->(mayWake φ.P g=aA->g'.status=.running->tag'≠ .blk)->fg j (jQ (upd S i Si)) tag' Au Aq)(rU:tag=.ret->φ.tq t0 j (t++bW (φ.lo+i) g.frame.fn g.frame.place es))(bE:φ.KB Si (S i)): ∃m' nA rZ,runT φ.P (crowd gs w sl) (φ.lo+i)=(.next m',nA)/\φ.Tv rZ (φ.mu S q j tag f0)/\φ.Inv Goal AnchW B0 t0 rZ m' (t++nA):=by
 obtain⟨tag',f',uA,Jb,hwk⟩:=sJ.wokenBy yd hMR g g';have dQ:(φ.lo+i==0)=aw:=by simp;omega
 refine xK fi hjn mY mJ hi Kw (lY (woken φ.P g g' w') λo ho=> ?_) ?_ uA Jb (λop hop=>by obtain⟨e,_,rfl⟩:=bh hop;rfl) (runT_crowd_go hg (by rw[dQ];exact hgo)) jL (dC tag' Jb hwk) rU bE
 ·unfold Go.Conc.woken
  split
  ·exact again_running _ ho
  ·rfl
 ·rw[get_map_set _ _ _ _ (by omega),ha];rfl
theorem tq.app {u:Trace}(h:φ.tq t0 j t)(hu: ∀i r,i<j->RelBy (stA φ.Wg) t (φ.lo+i) r->RelBy (stA φ.Wg) (t++u) (φ.lo+i) r):φ.tq t0 j (t++u):=by obtain⟨p,h0,h1,h2,h3,h4⟩:=h;have hp:=lt_of_act? h1;exact⟨p,h0,by rw[act?_old hp];exact h1,by rw[g?_old hp];exact h2,(heard_old hp).2 h3,λi hi=>let⟨r,hr,hrp,hr0⟩:=h4 i hi;⟨r,hu i r hi hr,hrp,hr0⟩⟩
theorem Ii (O:φ.Ok)(yd: ∀μ g w,AnchW μ g w->g.status=.running)(ha:gs[0]? =ae a)(sJ:φ.kF Goal AnchW tag f0 d0 μ a w)(mY:Deaf t 0=d0)(cg:φ.Com B0 t0 gs w t j γ S μ q k)(jL:WgAt φ.ty φ.Wg w st sm)(dC:fg j (jQ S) tag st sm)(mJ:CK φ.n j tag)(rU:tag=.ret->φ.tq t0 j t){i:Nat}(hi:i<j){g:ay}(hg:gs[φ.lo+i]? =ae g)(cG:g.status=.running){d:WD}(hS:S i=.tail d): ∃g' w' es d' Au Aq,stepG φ.P aw g w=.go g' w' es/\φ.MR μ w w'/\WgAt φ.ty φ.Wg w' Au Aq/\(d'.stage<d.stage\/(d'.stage=d.stage/\d'.fuel<d.fuel))/\(∀tag',(tag'=tag\/(tag=.blk/\tag'=.w3))->(mayWake φ.P g=aA->g'.status=.running->tag'≠ .blk)->fg j (upd (jQ S) i d') tag' Au Aq)/\(tag=.ret->φ.tq t0 j (t++bW (φ.lo+i) g.frame.fn g.frame.place es))/\ ∀f:ay->ay,(∀o,o.status=.running\/o.status=.finished->f o=o)->φ.Com B0 t0 ((gs.map f).setIfInBounds (φ.lo+i) g') w' (t++bW (φ.lo+i) g.frame.fn g.frame.place es) j γ (upd S i (.tail d')) μ q k:=by
 obtain⟨adt,LL,OQ⟩:=cg.wk i hi;obtain rfl:g=adt:=by rw[hg]at LL;exact aY LL
 rw[hS]at OQ;obtain⟨C,v,hO,hC,hP,hJ,s1,s7,hs⟩:=OQ;have hdk:Deaf t (φ.lo+i)=d.deaf:=by rw[cg.deaf i hi,hS];rfl
 have XF:jQ S i=d:=by show(S i).wd=d;rw[hS];rfl
 have hCW:C≠φ.Wg:=λe=>cg.R4 hi (e▸hC)
 have hVj:Vc j (jQ S)<=j:=Vc_le j (jQ S);have hjn:=cg.jn;have hn:=O.n31;obtain⟨ds,df,dd⟩:=d;simp only at hs s1 s7 hdk⊢;have gI:(jQ S i).stage=ds:=by rw[XF]
 have book: ∀{g':ay} {w':ah} {es:Array Event} {s' m' dd':Nat} {Au Aq:Int},stepG φ.P aw g w=.go g' w' es->Go.Conc.Aside φ.Wg w w'->WgAt φ.ty φ.Wg w' Au Aq->(∀e∈es,Bk φ.Wg e)->
  (∀jx e,es[jx]? =ae e->(cN e).touch? =ai\/0<deafBehind dd (es.extract 0 jx))->WSit φ.P φ.ty φ.Wg C 1 (λ_ _=>False) (λ_ _=>False) 0 1 v s' m' dd' g' w'->deafBehind dd es=dd'->1<=s'->s'<=6->ds<=6->
  (∀tag',(tag'=tag\/(tag=.blk/\tag'=.w3))->(mayWake φ.P g=aA->g'.status=.running->tag'≠ .blk)->fg j (upd (jQ S) i ⟨s',m',dd'⟩) tag' Au Aq)->(tag=.ret->φ.tq t0 j (t++bW (φ.lo+i) g.frame.fn g.frame.place es))->(s'<ds\/(s'=ds/\m'<df))->_:=
  λ{g' w' es s' m' dd' Au Aq} hgo sI wN BM hd GN FI Fi ZM h6 ve LD bE=>
   (⟨g',w',es,⟨s',m',dd'⟩,Au,Aq,hgo,agp O cg.aeu sI ⟨_,_,wN⟩,wN,bE,ve,LD,λf hf=>cg.Y7 O hi hS hO hC hP hJ sI ⟨_,_,wN⟩ BM GN Fi ZM h6 hd FI _ _ f hf⟩: ∃g' w' es d' Au Aq,stepG φ.P aw g w=.go g' w' es/\φ.MR μ w w'/\WgAt φ.ty φ.Wg w' Au Aq/\(d'.stage<ds\/(d'.stage=ds/\d'.fuel<df))/\
   (∀tag',(tag'=tag\/(tag=.blk/\tag'=.w3))->(mayWake φ.P g=aA->g'.status=.running->tag'≠ .blk)->fg j (upd (jQ S) i d') tag' Au Aq)/\
   (tag=.ret->φ.tq t0 j (t++bW (φ.lo+i) g.frame.fn g.frame.place es))/\
   ∀f:ay->ay,(∀o,o.status=.running\/o.status=.finished->f o=o)->φ.Com B0 t0 ((gs.map f).setIfInBounds (φ.lo+i) g') w' (t++bW (φ.lo+i) g.frame.fn g.frame.place es) j γ (upd S i (.tail d')) μ q k)
 have same: ∀m' dd' tag',(tag'=tag\/(tag=.blk/\tag'=.w3))->fg j (upd (jQ S) i ⟨ds,m',dd'⟩) tag' st sm:=λm' dd' tag' ht=>py (by have:=dC.same (i:=i) m' dd';rwa[gI]at this) ht
 have nr:ds≠1->tag≠ .ret:=λh=>dC.not_ret hi (by rw[gI];exact h)
 have idle: ∀{g':ay} {m':Nat},stepG φ.P aw g w=.go g' w #[]->WSit φ.P φ.ty φ.Wg C 1 (λ_ _=>False) (λ_ _=>False) 0 1 v ds m' dd g' w->m'<df->ds<=6->ds≠1->_:=λ{g' m'} hgo GN hm h6 h1=>book hgo (.refl φ.Wg w) jL (by simp) (by simp) GN rfl s1 h6 h6 (λtag' ht _=>same m' dd tag' ht) (λe=>absurd e (nr h1)) (.inr ⟨rfl,hm⟩)
 cases hs with
 |r0 h=>
  rcases Goes.cases h with ft|⟨m',rfl,eD⟩
  ·obtain⟨_,aiv,g',hgo,m₂,hk⟩:=ft w (RW.refl w);have own:=λf hf=>cg.RS (v:=v) O hi hS (g':=g') (d':=⟨6,m₂,0⟩) (es:= #[ig (.releaseMerge (stA φ.Wg))]) hO hC hP hJ ⟨rfl,rfl,rfl,rfl,λ_ _=>rfl,id,λ_ _=>rfl⟩ (.k1 hk) (by simp) (by simp) rfl g.frame.fn g.frame.place (λe he=>by simp at he;subst he;exact⟨(λx hx=>by cases hx),by simp[Go.ConcR.ofEvent_mk]⟩) (λ_=>⟨t.size,RelBy.new hdk _ _⟩) f hf
   exact⟨g',w,_,⟨6,m₂,0⟩,st,sm,hgo,.refl μ w,jL,.inl (by simp),λtag' ht _=>(dC.counted hi (by rw[gI];decide) (.inl rfl) _ _).retag ht,λe=>absurd e (nr (by decide)),λf hf=>(own f hf).1⟩
  ·obtain⟨g',w',es,hgo,⟨hac,jq⟩,ll⟩:=eD w (RW.refl w);have hac:AsideCell C 1 0 w w':=hac;have hJ': ∀p,(γ i).held p->φ.JP (λb=>(γ i).own b/\b≠C) p w':=λp hp=>by
    refine O.jp _ w w' p (λb hb=>hac.block b hb.2) (λad tP=> ?_) (hJ p hp);have dQ:ad.block≠C:=λe=>by have h1:=cg.gok.B.2.2.2 _ (O.mK p ad tP);have h2:=(cg.gok.Cr i C hi hC).1;omega
    unfold c8;rw[hac.block _ dQ]
   have own:=λf hf=>cg.RS O hi hS (g':=g') (d':=⟨7,m',0⟩) (es:=es) hO hC hP hJ' hac (.r0 ll) (by simp) (by simp) (deafBehind_idle (λe he=>⟨(jq e he).2.1,(jq e he).2.2.1⟩) 0) g.frame.fn g.frame.place (λe he=>⟨λx hx=>(((jq e he).1 0 "").2 x hx).elim id λh=>h.elim False.elim λh=>h.1.elim,?_⟩) (λx=>by simp at x) f hf
   ·exact⟨g',w',es,⟨7,m',0⟩,st,sm,hgo,(own id (λ_ _=>rfl)).2,jL.of_block (hac.block φ.Wg (Ne.symm hCW)),.inr ⟨rfl,by simp⟩,λtag' ht _=>same m' 0 tag' ht,λe=>absurd e (nr (by decide)),λf hf=>(own f hf).1⟩
   ·intro x;exact(jq e he).2.2.2 (Go.ConcR.loc_of_ofEvent x)
 |k1 h=>
  rcases Goes.cases h with ft|⟨m',rfl,eD⟩
  ·obtain⟨_,g',hgo,m₂,hk⟩:=ft w (RW.refl w);exact book hgo (.refl φ.Wg w) jL (by intro e he;simp at he;subst he;exact .inl rfl) (by intro jx e he;exact .inl (by have:=th he;simp at this;subst this;rfl)) (.d1 hk) rfl (by decide) (by decide) (by decide) (λtag' ht _=>(dC.counted hi (by rw[gI];decide) (.inr rfl) _ _).retag ht) (λe=>absurd e (nr (by decide))) (.inl (by decide))
  ·obtain⟨g',w',es,hgo,⟨rfl,rfl⟩,ll⟩:=eD w (RW.refl w);exact idle hgo (.k1 ll) (by omega) (by decide) (by decide)
 |d1 h=>
  rcases Goes.cases h with ft|⟨m',rfl,eD⟩
  ·obtain⟨_,wJ⟩:=ft w (RW.refl w);have wK:cnt (jQ S i)=1:=by simp[cnt,gI]
   have hV1:1<=Vc j (jQ S):=by have:=le_sumTo (f:=λx=>cnt (jQ S x)) hi;simp only[Vc];omega
   have bk2: ∀e∈ #[rd (stA φ.Wg),wr (stA φ.Wg)],Bk φ.Wg e:=by intro e he;simp at he;rcases he with rfl|rfl<;>exact bk_cell _ _ rfl
   have df2: ∀jx e,(#[rd (stA φ.Wg),wr (stA φ.Wg)]:Array Event)[jx]? =ae e->(cN e).touch? =ai\/0<deafBehind 1 ((#[rd (stA φ.Wg),wr (stA φ.Wg)]:Array Event).extract 0 jx):=by
    intro jx e he
    match jx,he with
    |0,_=>exact .inr (by simp[deafBehind])
    |1,_=>exact .inr (by simp[deafBehind,rd])
    |jx+2,he=>simp at he
   have hq0: ∀x,cnt (⟨1,x,1⟩:WD)=0:=λ_=>rfl
   have opq: ∀x,OpenSt j (jQ S)->OpenSt j (upd (jQ S) i ⟨1,x,1⟩):=λx h y hy=>by
    by_cases e:y=i
    ·subst e;rw[upd_same];simp
    ·rw[upd_ne _ _ e];exact h y hy
   cases dC with
   |opn h1 h2 h3=>
    obtain⟨vv,hv⟩: ∃vv,Vc j (jQ S)+pend tag=vv+1:=⟨Vc j (jQ S)+pend tag-1,by omega⟩;have hvn:vv<2147483647:=by
     have hp:pend tag<=1:=by cases tag<;>simp only[pend]<;>(try split)<;>omega
     have:Vc j (jQ S)+pend tag<=φ.n:=by
      cases tag with
      |sp r s=>have:j+(r+1)=φ.n:=mJ;omega
      |_=>simp only[pend]at hp⊢;omega
     omega
    rw[hv]at jL;have Td:WgAt φ.ty φ.Wg w (((vv:Nat)+1)*KK+((0:Nat):Int)) 0:=by simpa using jL
    obtain⟨g',hgo,_,hq⟩:=wJ vv 0 (by omega) hvn Td;obtain⟨x,hq⟩:=hq (by omega);have Bb:Vc j (upd (jQ S) i ⟨1,x,1⟩)+pend tag=vv:=by have:=Vc_upd (jQ S) (⟨1,x,1⟩:WD) hi;have:=hq0 x;omega
    refine book hgo (aside_setCell w (stA φ.Wg) _) (jL.setSt _) bk2 df2 (.quit hq) rfl (by decide) (by decide) (by decide) (λtag' ht _=>py ?_ ht) (λe=>absurd e (nr (by decide))) (.inl (by decide));have e:((vv:Nat):Int)*KK+((0:Nat):Int)=((Vc j (upd (jQ S) i ⟨1,x,1⟩)+pend tag:Nat):Int)*KK:=by rw[Bb];simp
    rw[e];exact .opn h1 (opq x h2) (λvs ev=>by have:=h3 vs ev;omega)
   |reg h1 h2 h3=>
    obtain⟨vv,hv⟩: ∃vv,Vc j (jQ S)=vv+1:=⟨Vc j (jQ S)-1,by omega⟩;rw[hv]at jL;have Td:WgAt φ.ty φ.Wg w (((vv:Nat)+1)*KK+((1:Nat):Int)) 0:=by simpa using jL
    obtain⟨g',hgo,hl,hq⟩:=wJ vv 1 (by omega) (by omega) Td;by_cases hv0:vv=0
    ·subst hv0;obtain⟨m₂,hk⟩:=hl ⟨rfl,rfl⟩;refine book hgo (aside_setCell w (stA φ.Wg) _) (jL.setSt _) bk2 df2 (.d2 hk) rfl (by decide) (by decide) (by decide) (λtag' ht _=>py ?_ ht) (λe=>absurd e (nr (by decide))) (.inl (by decide));have OM: ∀y,y<j->y≠i->(jQ S y).stage=1:=λy hy e=>by
      have c0:=others_uncounted hi hv wK y hy e;have:=h2 y hy;simp only[cnt]at c0
      split at c0<;>omega
     have:=Go.ConcN.Mode.last (j:=j) (D:=upd (jQ S) i ⟨4,m₂,1⟩) (tag:=tag) i h1 hi (by rw[upd_same];simp) (λy hy e=>by rw[upd_ne _ _ e];exact OM y hy e);rw[upd_same]at this;simpa using this
    ·obtain⟨x,hq⟩:=hq (by omega);have Bb:Vc j (upd (jQ S) i ⟨1,x,1⟩)=vv:=by have:=Vc_upd (jQ S) (⟨1,x,1⟩:WD) hi;have:=hq0 x;omega
     refine book hgo (aside_setCell w (stA φ.Wg) _) (jL.setSt _) bk2 df2 (.quit hq) rfl (by decide) (by decide) (by decide) (λtag' ht _=>py ?_ ht) (λe=>absurd e (nr (by decide))) (.inl (by decide));have e:((vv:Nat):Int)*KK+((1:Nat):Int)=((Vc j (upd (jQ S) i ⟨1,x,1⟩):Nat):Int)*KK+1:=by rw[Bb];simp
     rw[e];exact .reg h1 (opq x h2) (by omega)
   |last L _ h2 h3 h4=>
    by_cases e:i=L
    ·subst e;rw[gI]at h3;omega
    ·have:=h4 i hi e;rw[gI]at this;omega
   |sema h2=>have:=h2 i hi;rw[gI]at this;omega
   |fin _ h2=>have:=h2 i hi;rw[gI]at this;omega
  ·obtain⟨g',w',es,hgo,⟨rfl,rfl⟩,ll⟩:=eD w (RW.refl w);exact idle hgo (.d1 ll) (by omega) (by decide) (by decide)
 |d2 h=>
  rcases Goes.cases h with ft|⟨m',rfl,eD⟩
  ·obtain⟨_,hx⟩:=ft w (RW.refl w);obtain⟨hW3,OM,rfl,rfl⟩:=dC.isLast hi (by rw[gI];decide);simp only[gI]at jL;obtain⟨g',hgo,m₂,hk⟩:=hx (by simpa using jL);refine book hgo (.refl φ.Wg w) jL (by intro e he;simp at he;subst he;exact bk_cell _ _ rfl) (by intro jx e he;match jx,he with|0,_=>exact .inr (by simp[deafBehind])|jx+1,he=>simp at he) (.d3 hk) rfl (by decide) (by decide) (by decide) (λtag' ht _=>py ?_ ht) (λe=>absurd e (nr (by decide))) (.inl (by decide));have:=Go.ConcN.Mode.last (j:=j) (D:=upd (jQ S) i ⟨3,m₂,1⟩) (tag:=tag) i hW3 hi (by rw[upd_same];simp) (λy hy e=>by rw[upd_ne _ _ e];exact OM y hy e);rw[upd_same]at this;simpa using this
  ·obtain⟨g',w',es,hgo,⟨rfl,rfl⟩,ll⟩:=eD w (RW.refl w);exact idle hgo (.d2 ll) (by omega) (by decide) (by decide)
 |d3 h=>
  rcases Goes.cases h with ft|⟨m',rfl,eD⟩
  ·obtain⟨_,hx⟩:=ft w (RW.refl w);obtain⟨hW3,OM,rfl,rfl⟩:=dC.isLast hi (by rw[gI];decide);simp only[gI]at jL;obtain⟨g',hgo,m₂,hk⟩:=hx (by simpa using jL);refine book hgo (aside_setCell w (stA φ.Wg) _) (jL.setSt 0) (by intro e he;simp at he;subst he;exact bk_cell _ _ rfl) (by intro jx e he;match jx,he with|0,_=>exact .inr (by simp[deafBehind])|jx+1,he=>simp at he) (.d4 hk) rfl (by decide) (by decide) (by decide) (λtag' ht _=>py ?_ ht) (λe=>absurd e (nr (by decide))) (.inl (by decide));have:=Go.ConcN.Mode.last (j:=j) (D:=upd (jQ S) i ⟨2,m₂,1⟩) (tag:=tag) i hW3 hi (by rw[upd_same];simp) (λy hy e=>by rw[upd_ne _ _ e];exact OM y hy e);rw[upd_same]at this;simpa using this
  ·obtain⟨g',w',es,hgo,⟨rfl,rfl⟩,ll⟩:=eD w (RW.refl w);exact idle hgo (.d3 ll) (by omega) (by decide) (by decide)
 |d4 h=>
  rcases Goes.cases h with ft|⟨m',rfl,eD⟩
  ·obtain⟨_,hmw,hx⟩:=ft w (RW.refl w);obtain⟨hW3,OM,rfl,rfl⟩:=dC.isLast hi (by rw[gI];decide);simp only[gI]at jL;obtain⟨g',hgo,x,hq⟩:=hx (by simpa using jL);have GM:g'.status=.running:=by
    cases x with
    |zero=>exact absurd hq.2 (by decide)
    |succ x=>exact hq.elim (λx=>absurd x.2 (by decide)) (λx=>x.1)
   refine book hgo (aside_setCell w (smA φ.Wg) _) (jL.setSm 1) (es:=semEvents (smA φ.Wg)) ?_ ?_ (.quit hq) (by simp[deafBehind,semEvents]) (by decide) (by decide) (by decide) ?_ (λe=>absurd e (nr (by decide))) (.inl (by decide))
   ·intro e he;simp[semEvents]at he;rcases he with rfl|rfl|rfl|rfl
    ·exact .inl rfl
    ·exact bk_cell _ _ rfl
    ·exact bk_cell _ _ rfl
    ·exact .inr (.inl rfl)
   ·intro jx e he
    match jx,he with
    |0,he=>simp[semEvents]at he;subst he;exact .inl rfl
    |1,_=>exact .inr (by simp[deafBehind,semEvents])
    |2,_=>exact .inr (by simp[deafBehind,semEvents])
    |3,he=>simp[semEvents]at he;subst he;exact .inl rfl
    |jx+4,he=>simp[semEvents]at he
   ·intro tag' ht hw;have hnb:=hw hmw GM;have e3:tag'=.w3:=by
     rcases ht with rfl|⟨_,rfl⟩
     ·cases tag'<;>first|rfl|exact hW3.elim|exact absurd rfl hnb
     ·rfl
    subst e3;simp only[if_true];exact .sema λy hy=>by
     by_cases e:y=i
     ·subst e;rw[upd_same]
     ·rw[upd_ne _ _ e];exact OM y hy e
  ·obtain⟨g',w',es,hgo,⟨rfl,rfl⟩,ll⟩:=eD w (RW.refl w);exact idle hgo (.d4 ll) (by omega) (by decide) (by decide)
 |quit h=>
  cases df with
  |zero=>rw[h.1]at cG;cases cG
  |succ x=>
   rcases h with⟨hf,_⟩|⟨_,g',es,acB,eD,hq⟩
   ·rw[hf]at cG;cases cG
   ·have BM: ∀e∈es,Bk φ.Wg e:=λe he=>bk_of_mute (acB e he)
    have wM: ∀jx e,es[jx]? =ae e->(cN e).touch? =ai\/0<deafBehind dd (es.extract 0 jx):=λjx e he=>.inl (touch_mute (acB e (th he)))
    refine book (eD w) (.refl φ.Wg w) jL BM wM (.quit hq) rfl (by decide) (by decide) (by decide) (λtag' ht _=>same x (deafBehind dd es) tag' ht) (λe=>tq.app (rU e) λi' r gj hr=> ?_) (.inr ⟨rfl,by omega⟩);by_cases e':i'=i
    ·subst e';exact hr.book hdk _ _ BM wM
    ·exact hr.appNot λop hop=>by obtain⟨e,_,rfl⟩:=bh hop;simp;omega
end
end Rel
namespace Rel
open Go.Conc Go.ConcN
open Go.ConcR (KK WgAt rd wr Payload DC0 stA smA Bk)
section
variable [Payload] {φ:Ph} {Goal:ay->ah->Prop} {AnchW:(Nat->Prop)->ay->ah->Prop} {B0:Nat} {t0:Trace} {gs sH:Array ay} {w w':ah} {sl:Option (Nat×Nat)} {t:Trace} {j:Nat} {γ γ':Nat->Gh} {S:Nat->tC} {μ:Nat->Prop} {q:Nat->Nat} {k k':Nat} {tag:CTag} {f0 d0:Nat} {a:ay} {st sm Au Aq:Int}
theorem RX {α:Type}(f:Nat->α)(i:Nat)(x y:α):upd (upd f i x) i y=upd f i y:=by
 funext a;by_cases e:a=i
 ·subst e;rw[upd_same,upd_same]
 ·rw[upd_ne _ _ e,upd_ne _ _ e,upd_ne _ _ e]
theorem Ph.kF.offers {a:ay}(yd: ∀μ g w,AnchW μ g w->g.status=.running)(h:φ.kF Goal AnchW tag f0 d0 μ a w):a.status≠ .blocked\/a.offers=ai:=by
 rcases h.status yd with⟨hs,_⟩|⟨hs,rfl⟩
 ·left;rw[hs];simp
 ·cases h with
  |blk hb=>exact .inr (hb w (.refl μ w)).2.1
theorem Np (O:φ.Ok)(yd: ∀μ g w,AnchW μ g w->g.status=.running)(ha:gs[0]? =ae a)(sJ:φ.kF Goal AnchW tag f0 d0 μ a w)(mY:Deaf t 0=d0)(cg:φ.Com B0 t0 gs w t j γ S μ q k)(jL:WgAt φ.ty φ.Wg w st sm)(dC:fg j (jQ S) tag st sm)(mJ:CK φ.n j tag)(rU:tag=.ret->φ.tq t0 j t)(fi: ∀i,i<φ.n->_root_.Acc φ.KB (S i)){i:Nat}(hi:i<j){g:ay}(hg:gs[φ.lo+i]? =ae g)(cG:g.status=.running): ∃m' nA rZ,runT φ.P (crowd gs w sl) (φ.lo+i)=(.next m',nA)/\φ.Tv rZ (φ.mu S q j tag f0)/\φ.Inv Goal AnchW B0 t0 rZ m' (t++nA):=by
 obtain⟨adt,LL,OQ⟩:=cg.wk i hi;obtain rfl:g=adt:=by rw[hg]at LL;exact aY LL
 have yQ:=O.yQ;cases hS:S i with
 |lG=>rw[hS]at OQ;exact OQ.elim
 |tail d=>obtain⟨g',w',es,d',Au,Aq,hgo,hMR,wN,bE,ve,LD,lY⟩:=Ii O yd ha sJ mY cg jL dC mJ rU hi hg cG hS;exact tU yd fi cg.jn mY mJ hi yQ ha sJ hg hgo hMR lY wN (λtag' h1 h2=>by rw[wF];exact ve tag' h1 h2) LD (by rw[hS];exact bE)
 |tree x=>
  obtain⟨γx,gx,w0⟩:=x;rw[hS]at OQ;obtain⟨h1,h2,QO,hrel⟩:=OQ;simp only at h1 h2 QO hrel;subst h1;subst h2;have XF:jQ S i=⟨7,0,0⟩:=by show(S i).wd=_;rw[hS];rfl
  have nr:tag≠ .ret:=dC.not_ret hi (by rw[XF];decide);have keep: ∀y,jQ (upd S i (.tree y))=jQ S:=λy=>by rw[wF];show upd (jQ S) i ⟨7,0,0⟩=_;rw[<-XF,j7]
  by_cases hT:φ.Sj (γ i) gx w0
  ·obtain⟨C,v,m,hO,hC,hJ,hP,hG⟩:=hT.rely O hrel;have afF:φ.Com B0 t0 gs w t j γ (upd S i (.tail ⟨7,m,0⟩)) μ q k:=by
    refine⟨cg.size,cg.jn,cg.old,λi' gj=> ?_,λi' gj=> ?_,λi' gj=> ?_,cg.et,cg.gok,cg.norel,λi' gj hs=> ?_,cg.pre,cg.atm,cg.mute,cg.seen,cg.chan,cg.done,cg.todo,cg.over,cg.free⟩
    ·by_cases e:i'=i
     ·subst e;exact⟨gx,hg,by rw[upd_same];exact⟨C,v,hO,hC,hP,hJ,by simp,by simp,.r0 hG⟩⟩
     ·rw[upd_ne _ _ e];exact cg.wk i' gj
    ·rw[upd_ne _ _ (by omega)];exact cg.un i' gj
    ·by_cases e:i'=i
     ·subst e;rw[upd_same,cg.deaf i' gj,hS];rfl
     ·rw[upd_ne _ _ e];exact cg.deaf i' gj
    ·by_cases e:i'=i
     ·subst e;rw[upd_same]at hs;simp[tC.wd]at hs
     ·rw[upd_ne _ _ e]at hs;exact cg.rel i' gj hs
   have adL:fg j (jQ (upd S i (.tail ⟨7,m,0⟩))) tag st sm:=by
    refine dC.congr λy hy=> ?_
    rw[wF];by_cases e:y=i
    ·subst e;rw[upd_same,XF];rfl
    ·rw[upd_ne _ _ e]
   obtain⟨g',w',es,d',Au,Aq,hgo,hMR,wN,bE,ve,LD,lY⟩:=Ii O yd ha sJ mY afF jL adL mJ rU hi hg cG (upd_same _ _ _);rw[wF,RX]at ve;exact tU yd fi cg.jn mY mJ hi yQ ha sJ hg hgo hMR (λf hf=>by have:=lY f hf;rwa[RX]at this) wN (λtag' h1 h2=>by rw[wF];exact ve tag' h1 h2) LD (by rw[hS];trivial)
  ·cases QO with
   |tail h=>exact absurd h hT
   |step g' w' es hr gI oB=>
    obtain⟨hgo,hgu⟩:=gI w hrel;have ahk:=oB w hrel;have wN:WgAt φ.ty φ.Wg (w' w) st sm:=by have hs:=cg.gok.sz;have hW:=cg.gok.B.1;exact(hgu.rest φ.Wg (by omega) (cg.R4 hi) O.UW).trans jL
    exact tU yd fi cg.jn mY mJ hi yQ ha sJ hg hgo (hgu.mr O cg.gok hi) (λf hf=>cg.Zc O hi hS hgu ahk _ _ f hf) wN (λtag' h1 _=>by rw[keep];exact dC.retag h1) (λe=>absurd e nr) (by rw[hS];exact⟨hT,w,hrel,.inl ⟨_,hgo,rfl⟩⟩)
   |recv hr gI LN rh=>
    have hcm:=gI w hrel;obtain⟨hk,cap,s,r,tm,tk⟩:=cg.chan;have dQ:(φ.lo+i==0)=aw:=by simp;omega
    have noP: ∀b,partners (gs.setIfInBounds (φ.lo+i) Go.Conc.ph) φ.Ch b=[]:=λb=>My (λy gy hy hgy=>by
     rcases nR y with rfl|xI
     ·rw[ha]at hgy;cases hgy;exact sJ.offers yd
     ·rcases dM y φ.lo with bE|va
      ·left;rcases(cg.old y gy xI bE hgy).status with h|h<;>rw[h]<;>simp
      ·obtain⟨i',rfl⟩: ∃i',y=φ.lo+i':=⟨y-φ.lo,by omega⟩;have bE:i'<j:=by have:=(aL.1 hgy).1;rw[cg.size]at this;omega
       obtain⟨g2,Ku,xJ⟩:=cg.wk i' bE;rw[hgy]at Ku;cases Ku;left;rcases xJ.status with h|h<;>rw[h]<;>simp) b
    have IX: ∀fn pos,bW (φ.lo+i) fn pos #[]= #[]:=λfn pos=>by rw[ofEvents_eq];simp
    rcases dM k φ.nj with bE|va
    ·obtain⟨n,hn⟩: ∃n,φ.nj-k=n+1:=⟨φ.nj-k-1,by omega⟩;have yO:=crowd_recv_buf (P:=φ.P) (sl:=sl) hg (by rw[dQ];exact hcm) tk (by simp;omega) (noP aA);have e1:((fP k (φ.nj-k)).map φ.jv).toArray.getD 0 undef=φ.jv k:=by rw[hn];simp[List.range'_succ]
     have e2:((fP k (φ.nj-k)).map φ.jv).toArray.extract 1 ((fP k (φ.nj-k)).map φ.jv).toArray.size=((fP (k+1) (φ.nj-(k+1))).map φ.jv).toArray:=by rw[hn,show φ.nj-(k+1)=n by omega];simp[List.range'_succ];exact cI (by simp)
     rw[e1,e2,IX,kq,finishComm_recv]at yO;have hnh: ¬(γ i).held k:=cg.todo k i (az _) hi;have lY:=cg.abA O hi (g:=gx) hS bE tk (LN w k hrel bE hnh (cg.free k (az _) bE)) gx.frame.fn gx.frame.place;refine xK fi cg.jn mY mJ hi yQ lY (a':=a) (tag':=tag) (f':=f0) (by rw[aO (by omega)];exact ha) (sJ.rely (aa' O cg.adf _ _ _ _ _ _)) (.inl rfl) (λop hop=>by simp only[pz,cy,jo,or_false]at hop;rcases hop with rfl|rfl<;>rfl) yO ?_ (by rw[keep];exact dC) (λe=>absurd e nr) (by rw[hS];exact⟨hT,w,hrel,.inr ⟨_,_,_,_,hcm,rfl,.inl ⟨k,bE,hnh,cg.free k (az _) bE,rfl,rfl⟩⟩⟩)
     exact jL.of_block (by show(w.heap.setIfInBounds φ.Ch _)[φ.Wg]? =_;rw[aO O.hCW])
    ·have Fg:k=φ.nj:=by omega
     rw[show φ.nj-k=0 by omega]at tk;have yO:=crowd_recv_closed (P:=φ.P) (sl:=sl) hg (by rw[dQ];exact hcm) tk (noP aA);rw[IX,kq,finishComm_recv]at yO;have lY:=cg.YE O hi (g:=gx) hS Fg (rh w hrel) gx.frame.fn gx.frame.place;exact xK fi cg.jn mY mJ hi yQ lY (a':=a) (tag':=tag) (f':=f0) (by rw[aO (by omega)];exact ha) sJ (.inl rfl) (λop hop=>by simp only[pz,cy,jo,or_false]at hop;rcases hop with rfl;rfl) yO jL (by rw[keep];exact dC) (λe=>absurd e nr) (by rw[hS];exact⟨hT,w,hrel,.inr ⟨_,_,_,_,hcm,rfl,.inr ⟨rfl,rfl⟩⟩⟩)
end
end Rel
namespace Rel
open Go.Conc Go.ConcN
open Go.ConcR (KK WgAt rd wr Payload DC0 stA smA Bk)
section
variable [Payload] {φ:Ph} {Goal:ay->ah->Prop} {AnchW:(Nat->Prop)->ay->ah->Prop} {B0:Nat} {t0:Trace} {gs sH:Array ay} {w w':ah} {sl:Option (Nat×Nat)} {t:Trace} {j:Nat} {γ γ':Nat->Gh} {S:Nat->tC} {μ rZ:Nat->Prop} {q:Nat->Nat} {k k':Nat} {tag tag':CTag} {f0 f' d0:Nat} {a a':ay} {st sm Au Aq:Int} {es:Array Event}
theorem Ph.Com.main (O:φ.Ok)(h:φ.Com B0 t0 gs w t j γ S μ q k){ops:Trace}(f:ay->ay)(hf: ∀o,o.status=.running\/o.status=.finished->f o=o)(gY: ∀op∈ops,op.g=0)(hrel: ∀i,i<j->φ.eP (γ i) w w')(het:ET (φ.rS γ j rZ) φ.lo (φ.lo+j) (t++ops))(adC:φ.UO B0 γ j rZ w'.heap.size)(hnr: ∀op∈ops,op.act≠ .mark (.release (stA φ.Wg)))(LX: ∀op∈ops,∀x,op.act.touch? =ae x->x.loc.low w'.heap.size)(km:w.heap.size<=w'.heap.size)(tk:w'.heap[φ.Ch]? =w.heap[φ.Ch]?)(mZ: ∀p a,φ.jl p a->w'.heap[a.block]? =w.heap[a.block]?):φ.Com B0 t0 ((gs.map f).setIfInBounds 0 a') w' (t++ops) j γ S rZ q k:=by
 have yQ:=O.yQ;refine⟨by simp[h.size],h.jn,λi' x h0 hl hx=> ?_,λi' gj=> ?_,h.un,λi' gj=> ?_,het,adC,λp hp I5=> ?_,λi' gj gI=> ?_,?_,λp op x hp hop hg hx hk=> ?_,λp op hp hop hg bE=> ?_,λop hop x hx=> ?_,?_,h.done,h.todo,h.over,λp hp LU=>O.j0 _ _ p (λa ha=>by unfold c8;rw[mZ p a ha]) (h.free p hp LU)⟩
 ·rw[get_map_set _ _ _ _ (by omega)]at hx;obtain⟨y,hy,rfl⟩:=aK.1 hx;have hq:=h.old i' y h0 hl hy;rw[hf y hq.status,Deaf_other t (g':=0) (by omega) _ gY];exact hq
 ·obtain⟨x,hx,Q5⟩:=h.wk i' gj;exact⟨x,by rw[get_map_set _ _ _ _ (by omega),hx,eY,hf x Q5.status],Q5.rely O (hrel i' gj)⟩
 ·rw[Deaf_other t (g':=0) (by omega) _ gY];exact h.deaf i' gj
 ·obtain⟨op,hop,ha⟩:=aK.1 I5;rcases getElem?_append_cases hop with⟨_,qx⟩|⟨_,qy⟩
  ·exact h.norel p hp (by rw[act?_of qx,ha])
  ·exact hnr op qy ha
 ·obtain⟨r,hr⟩:=h.rel i' gj gI;exact⟨r,hr.appNot λop hop=>by rw[gY op hop];omega⟩
 ·obtain⟨u,rfl⟩:=h.pre;exact⟨u++ops,by rw[Array.append_assoc]⟩
 ·rcases getElem?_append_cases hop with⟨_,qx⟩|⟨_,qy⟩
  ·exact h.atm p op x hp qx hg hx hk
  ·exact absurd (gY op qy) hg
 ·rcases getElem?_append_cases hop with⟨_,qx⟩|⟨_,qy⟩
  ·exact h.mute p op hp qx hg bE
  ·exact absurd (gY op qy) hg
 ·rcases ot.1 hop with y|y
  ·exact Loc.low_mono km (h.seen op y x hx)
  ·exact LX op y x hx
 ·obtain⟨hk,cap,s,r,tm,hc⟩:=h.chan;exact⟨hk,cap,s,r,tm,tk.trans hc⟩
theorem sQ (fi: ∀i,i<φ.n->_root_.Acc φ.KB (S i))(mY:Deaf t 0=d0)(mJ:CK φ.n j tag')(ha:gs[0]? =ae a)(hgo:stepG φ.P aA a w=.go a' w' es)(Kw:0<φ.lo)(cg:φ.Com B0 t0 gs w t j γ S μ q k)(lY: ∀f:ay->ay,(∀o,o.status=.running\/o.status=.finished->f o=o)->φ.Com B0 t0 ((gs.map f).setIfInBounds 0 a') w' (t++bW 0 a.frame.fn a.frame.place es) j γ S rZ q k)(uA:φ.kF Goal AnchW tag' f' (deafBehind d0 es) rZ a' w')(jL:WgAt φ.ty φ.Wg w' Au Aq)(dC:fg j (jQ S) tag' Au Aq)(rU:tag'=.ret->φ.tq t0 j (t++bW 0 a.frame.fn a.frame.place es))(bE:jk (Vc j (jQ S)) tag'<jk (Vc j (jQ S)) tag\/(jk (Vc j (jQ S)) tag'=jk (Vc j (jQ S)) tag/\f'<f0)): ∃m' nA rZ,runT φ.P (crowd gs w sl) 0=(.next m',nA)/\φ.Tv rZ (φ.mu S q j tag f0)/\φ.Inv Goal AnchW B0 t0 rZ m' (t++nA):=by
 refine⟨_,_,φ.mu S q j tag' f',runT_crowd_go (P:=φ.P) (sl:=sl) (i:=0) ha (by simpa using hgo),?_,_,w',sl,j,γ,S,rZ,q,k,tag',f',deafBehind d0 es,a',Au,Aq,rfl,get_map_set_same _ _ _ (by rw[cg.size];omega),uA,by rw[Deaf_own,mY],lY _ λo ho=> ?_,jL,dC,mJ,rU,fi,rfl⟩
 ·refine Prod.Lex.right _ (Prod.Lex.right _ ?_);rcases bE with h|⟨h1,h2⟩
  ·exact Prod.Lex.left _ _ h
  ·rw[h1];exact Prod.Lex.right _ h2
 ·unfold Go.Conc.woken
  split
  ·exact again_running _ ho
  ·rfl
theorem nW {e:Event}(h:φ.EvM μ e):(e.loc≠ .mark .disable/\e.loc≠ .mark .enable)/\cN e≠ .mark (.release (stA φ.Wg))/\ ∀x,(cN e).touch? =ae x->(ShN φ.Wg x.loc/\x.kind≠ .plain)\/(∃b,vn x.loc=ae b/\μ b)\/(x.write=aw/\ ∃b,vn x.loc=ae b/\φ.od b):=by
 rcases h with rfl|⟨a,ha,rfl|rfl⟩|⟨hs,b,hb,h⟩
 ·exact⟨⟨by simp,by simp⟩,by simp[cN],λx hx=>by cases hx⟩
 ·refine⟨⟨by simp,by simp⟩,by simp[cN],λx hx=>.inl ?_⟩;simp only[cN,r6,dz]at hx;subst hx;exact⟨⟨a,rfl,ha⟩,by simp⟩
 ·refine⟨⟨by simp,by simp⟩,by simp[cN],λx hx=>.inl ?_⟩;simp only[cN,r6,dz]at hx;subst hx;exact⟨⟨a,rfl,ha⟩,by simp⟩
 ·obtain⟨h1,h2⟩:=vr hb hs;refine⟨⟨λx=>(by rw[x]at hb;cases hb),λx=>by rw[x]at hb;cases hb⟩,by rw[h1];simp,λx hx=> ?_⟩;rw[h2]at hx;cases hx;rcases h with h|⟨hw,hr⟩
  ·exact .inr (.inl ⟨b,hb,h⟩)
  ·exact .inr (.inr ⟨hw,b,hb,hr⟩)
theorem abB (O:φ.Ok)(hg:φ.UO B0 γ j μ w.heap.size)(h:Ph.Al w w'){i:Nat}(hi:i<j):φ.eP (γ i) w w':=by
 obtain⟨hW,hC,hR,vY⟩:=hg.B;have hs:=hg.sz;refine⟨λb hb=>h.rest b (hg.Cr i b hi hb).2,λb hb=>h.rest b (by have:=hR b hb;omega),λp ad _ tP=> ?_,λb hb=> ?_,λ⟨st,sm,hl⟩=>⟨st,sm,(h.rest φ.Wg (by omega)).trans hl⟩,h.size,h.tape,h.os,h.output⟩
 ·unfold c8;rw[h.rest _ (by have:=vY _ (O.mK p ad tP);omega)]
 ·unfold fz;rw[h.rest _ (by have:=vY b hb;omega)]
omit [Payload]in
theorem Qt (w:ah):Ph.Al w w:=⟨λ_ _=>rfl,az _,rfl,rfl,rfl⟩
theorem Ph.Com.Ji (O:φ.Ok)(h:φ.Com B0 t0 gs w t j γ S μ q k)(I6:Ph.Al w w')(jq: ∀e∈es,φ.EvM (uk μ w w') e)(fn:bQ)(pos:String)(f:ay->ay)(hf: ∀o,o.status=.running\/o.status=.finished->f o=o):φ.Com B0 t0 ((gs.map f).setIfInBounds 0 a') w' (t++bW 0 fn pos es) j γ S (uk μ w w') q k:=by
 obtain⟨hW,hC,hR,vY⟩:=h.gok.B;have hs:=h.gok.sz;have hz:=I6.size;have OA:φ.UO B0 γ j (uk μ w w') w'.heap.size:=by
  refine⟨h.gok.La,λi b hi hb hm=> ?_,λi b hi hb=> ?_,λb hb=> ?_,h.gok.C9,h.gok.bE,by omega,h.gok.B,h.gok.st⟩
  ·rcases hm with hm|⟨h1,_⟩
   ·exact h.gok.mine i b hi hb hm
   ·have:=(h.gok.Cr i b hi hb).2;omega
  ·have:=h.gok.Cr i b hi hb;omega
  ·rcases hb with hb|⟨h1,h2⟩
   ·have:=h.gok.xQ b hb;omega
   ·omega
 have gY: ∀op∈bW 0 fn pos es,op.g=0:=λop hop=>by obtain⟨e,_,rfl⟩:=bh hop;rfl
 refine h.main O f hf gY (λi hi=>abB O h.gok I6 hi) ?_ OA (λop hop=> ?_) (λop hop x hx=> ?_) hz (I6.rest φ.Ch (by omega)) (λp a ha=>I6.rest _ (by have:=vY _ (O.mK p a ha);omega))
 ·refine ET.afa (OA.apart O) O.yQ (Nat.le_add_right _ _) (h.et.rS rfl (λkk _ _ l hl=>.inl hl) (λl hl=>hl) (λl hl=>hl) λl hl=> ?_) λop hop=>⟨gY op hop,λx hx=> ?_⟩
  ·obtain⟨b,hb,hm|⟨h1,_⟩⟩:=hl
   ·exact .inl ⟨b,hb,hm⟩
   ·exact .inr (xw h.seen hb h1)
  ·obtain⟨e,he,rfl⟩:=bh hop;rcases(nW (jq e he)).2.2 x hx with h1|⟨b,hb,hm⟩|⟨hw,b,hb,hr⟩
   ·exact .inl h1
   ·exact .inr (.inl ⟨b,hb,hm⟩)
   ·exact .inr (.inr ⟨⟨b,hb,hr⟩,hw⟩)
 ·obtain⟨e,he,rfl⟩:=bh hop;exact(nW (jq e he)).2.1
 ·obtain⟨e,he,rfl⟩:=bh hop;rcases(nW (jq e he)).2.2 x hx with⟨⟨ad,h1,h2⟩,_⟩|⟨b,hb,hm⟩|⟨hw,b,hb,hr⟩
  ·rw[h1];exact(by rw[h2];omega:ad.block<w'.heap.size)
  ·refine Dl λb' jN=> ?_
   rw[hb]at jN;cases jN;exact(OA.xQ b hm).2
  ·refine Dl λb' jN=> ?_
   rw[hb]at jN;cases jN;have:=hR b hr;omega
omit [Payload]in
theorem tO (μ:Nat->Prop)(w:ah):uk μ w w=μ:=by funext b;apply propext;exact⟨λh=>h.elim id λ⟨h1,h2⟩=>absurd h2 (by omega),.inl⟩
theorem rB (O:φ.Ok)(fi: ∀i,i<φ.n->_root_.Acc φ.KB (S i))(mY:Deaf t 0=d0)(mJ:CK φ.n j tag)(ha:gs[0]? =ae a)(cg:φ.Com B0 t0 gs w t j γ S μ q k)(jL:WgAt φ.ty φ.Wg w st sm)(dC:fg j (jQ S) tag st sm)(rU:tag=.ret->φ.tq t0 j t)(hgo:stepG φ.P aA a w=.go a' w' es)(hD:φ.DM μ w w' es)(uA:φ.kF Goal AnchW tag f' d0 μ a' w')(bE:f'<f0): ∃m' nA rZ,runT φ.P (crowd gs w sl) 0=(.next m',nA)/\φ.Tv rZ (φ.mu S q j tag f0)/\φ.Inv Goal AnchW B0 t0 rZ m' (t++nA):=by obtain⟨rfl,jq⟩:=hD;have SZ:deafBehind d0 es=d0:=deafBehind_idle (λe he=>(nW (jq e he)).1) d0;refine sQ fi mY mJ ha hgo O.yQ cg (λf hf=> ?_) (by rw[SZ];exact uA) jL dC (λe=>tq.app (rU e) λi r _ hr=>hr.appNot λop hop=>by obtain⟨e,_,rfl⟩:=bh hop;have:=O.yQ;simp;omega) (.inr ⟨rfl,bE⟩);have:=cg.Ji (a':=a') O (Qt w') (es:=es) (by rw[tO];exact jq) a.frame.fn a.frame.place f hf;rwa[tO]at this
theorem sr (O:φ.Ok)(fi: ∀i,i<φ.n->_root_.Acc φ.KB (S i))(mY:Deaf t 0=d0)(mJ:CK φ.n j tag')(ha:gs[0]? =ae a)(cg:φ.Com B0 t0 gs w t j γ S μ q k)(hgo:stepG φ.P aA a w=.go a' w' es)(sI:Go.Conc.Aside φ.Wg w w')(wN:WgAt φ.ty φ.Wg w' Au Aq)(BM: ∀e∈es,Bk φ.Wg e)(uA:φ.kF Goal AnchW tag' f' (deafBehind d0 es) μ a' w')(ve:fg j (jQ S) tag' Au Aq)(dQ:tag'≠ .ret)(bE:jk (Vc j (jQ S)) tag'<jk (Vc j (jQ S)) tag\/(jk (Vc j (jQ S)) tag'=jk (Vc j (jQ S)) tag/\f'<f0)): ∃m' nA rZ,runT φ.P (crowd gs w sl) 0=(.next m',nA)/\φ.Tv rZ (φ.mu S q j tag f0)/\φ.Inv Goal AnchW B0 t0 rZ m' (t++nA):=by
 have gY: ∀op∈bW 0 a.frame.fn a.frame.place es,op.g=0:=λop hop=>by obtain⟨e,_,rfl⟩:=bh hop;rfl
 have aaQ:φ.Wg<w'.heap.size:=by have:=cg.gok.B.1;have:=cg.gok.sz;rw[sI.size];omega
 refine sQ fi mY mJ ha hgo O.yQ cg (λf hf=>cg.main O f hf gY (λi hi=>RD O (cg.R4 hi) sI ⟨_,_,wN⟩) ?_ (by rw[sI.size];exact cg.gok) (λop hop=> ?_) (λop hop x hx=> ?_) (by rw[sI.size];exact az _) (sI.block φ.Ch O.hCW) λp a ha=>sI.block _ λe=>O.UW (e▸O.mK p a ha)) uA wN ve (λe=>absurd e dQ) bE
 ·refine ET.afa (cg.gok.apart O) O.yQ (Nat.le_add_right _ _) cg.et λop hop=>⟨gY op hop,λx hx=> ?_⟩
  obtain⟨e,he,rfl⟩:=bh hop;obtain⟨h1,h2⟩:=(CP (BM e he)).1 x hx;exact .inl ⟨h2,by rw[h1];simp⟩
 ·obtain⟨e,he,rfl⟩:=bh hop;exact(CP (BM e he)).2.1
 ·obtain⟨e,he,rfl⟩:=bh hop;obtain⟨ad,h1,h2⟩:=((CP (BM e he)).1 x hx).2;rw[h1];exact(by rw[h2];exact aaQ:ad.block<w'.heap.size)
end
end Rel
namespace Rel
open Go.Conc Go.ConcN
open Go.ConcR (KK WgAt rd wr Payload DC0 stA smA Bk)
section
variable [Payload] {φ:Ph} {Goal:ay->ah->Prop} {AnchW:(Nat->Prop)->ay->ah->Prop} {B0:Nat} {t0:Trace} {gs sH:Array ay} {w w':ah} {sl:Option (Nat×Nat)} {t:Trace} {j:Nat} {γ γ':Nat->Gh} {S:Nat->tC} {μ rZ:Nat->Prop} {q:Nat->Nat} {k k':Nat} {tag tag':CTag} {f0 f' d0:Nat} {a a':ay} {st sm Au Aq:Int} {es:Array Event}
theorem Ph.Com.spawn (O:φ.Ok)(h:φ.Com B0 t0 gs w t j γ S μ q k)(hj:j<φ.n)(hd:Deaf t 0=0){child:ay}{hb:Nat->Prop}(hhb: ∀b,hb b->μ b)(QO:φ.WT ⟨hb,λ_=>False,False⟩ child w){x y:MemOp}(hx:x.g=0/\x.act=.go (φ.lo+j))(hy:y.g=φ.lo+j/\y.act=.start):φ.Com B0 t0 ((gs.setIfInBounds 0 a').push child) w (t++ #[x,y]) (j+1) (upd γ j ⟨hb,λ_=>False,False⟩) (upd S j (.tree (⟨hb,λ_=>False,False⟩,child,w))) (λb=>μ b/\ ¬hb b) q k:=by
 have yQ:=O.yQ;have hm: ∀op∈(#[x,y]:Trace),(op=x\/op=y):=by intro op hop;simpa using hop
 have U8: ∀op∈(#[x,y]:Trace),∀m,op.act≠ .mark m:=by
  intro op hop m;rcases hm op hop with rfl|rfl
  ·rw[hx.2];simp
  ·rw[hy.2];simp
 have yf: ∀op∈(#[x,y]:Trace),op.act.touch? =ai:=by
  intro op hop;rcases hm op hop with rfl|rfl
  ·rw[hx.2];rfl
  ·rw[hy.2];rfl
 have hgk: ∀op∈(#[x,y]:Trace),op.g=0\/op.g=φ.lo+j:=by
  intro op hop;rcases hm op hop with rfl|rfl
  ·exact .inl hx.1
  ·exact .inr hy.1
 have gI: ∀g,Deaf (t++ #[x,y]) g=Deaf t g:=λg=>Deaf_still t g _ λop hop=>⟨U8 op hop _,U8 op hop _⟩
 have own: ∀{i b:Nat},i<j+1->(upd γ j ⟨hb,λ_=>False,False⟩ i).own b->(i<j/\(γ i).own b)\/(i=j/\hb b):=by
  intro i b hi ho;by_cases e:i=j
  ·subst e;rw[upd_same]at ho;exact .inr ⟨rfl,ho⟩
  ·rw[upd_ne _ _ e]at ho;exact .inl ⟨by omega,ho⟩
 have held: ∀{i p:Nat},i<j+1->(upd γ j ⟨hb,λ_=>False,False⟩ i).held p->i<j/\(γ i).held p:=by
  intro i p hi ho;by_cases e:i=j
  ·subst e;rw[upd_same]at ho;exact ho.elim
  ·rw[upd_ne _ _ e]at ho;exact⟨by omega,ho⟩
 refine⟨by simp[h.size];omega,hj,λi z h0 hl hz=> ?_,λi hi=> ?_,λi hi=> ?_,λi hi=> ?_,?_,?_,λp hp I5=> ?_,λi hi hs=> ?_,?_,λp op z hp hop hg hz hk=> ?_,λp op hp hop hg bE=> ?_,λop hop z hz=> ?_,h.chan,λp hp=> ?_,λp i hp hi hh=> ?_,λi hi ho=> ?_,h.free⟩
 ·rw[gI];refine h.old i z h0 hl ?_;rw[Array.getElem?_push_lt (by simp[h.size];omega),<-aX,aO (by omega)]at hz;exact hz
 ·rcases dM i j with bE|va
  ·obtain⟨g,hg,hsg⟩:=h.wk i bE;refine⟨g,?_,by rw[upd_ne _ _ (by omega),upd_ne _ _ (by omega)];exact hsg⟩;rw[Array.getElem?_push_lt (by simp[h.size];omega),<-aX,aO (by omega)];exact hg
  ·obtain rfl:i=j:=by omega
   refine⟨child,?_,by rw[upd_same,upd_same];exact⟨rfl,rfl,QO,.refl _ _⟩⟩;rw[show φ.lo+i=(gs.setIfInBounds 0 a').size by simp[h.size],Array.getElem?_push_size]
 ·rw[upd_ne _ _ (by omega)];exact h.un i (by omega)
 ·rw[gI];rcases dM i j with bE|va
  ·rw[upd_ne _ _ (by omega)];exact h.deaf i bE
  ·obtain rfl:i=j:=by omega
   rw[upd_same];exact Deaf_absent λz op hz e=>by have:=h.et.gs z op hz;omega
 ·have e:φ.lo+(j+1)=φ.lo+j+1:=by omega
  rw[e];refine ET.fork (F:=φ.rS γ j μ) (F':=φ.rS (upd γ j ⟨hb,λ_=>False,False⟩) (j+1) (λb=>μ b/\ ¬hb b)) (Nat.le_add_right _ _) h.et rfl (λkk h1 h2 l hl=> ?_) (λl hl=> ?_) (λl hl=> ?_) (λl hl=>hl) (λl hl=> ?_) (by omega) hx hy hd
  ·obtain⟨i,hi,rfl,hl⟩:=hl;rcases hl with⟨b,jN,ho⟩|⟨p,ad,hp,tP,rfl⟩
   ·rcases own hi ho with⟨bE,ho⟩|⟨rfl,_⟩
    ·exact⟨i,bE,rfl,.inl ⟨b,jN,ho⟩⟩
    ·omega
   ·obtain⟨bE,hp⟩:=held hi hp;exact⟨i,bE,rfl,.inr ⟨p,ad,hp,tP,rfl⟩⟩
  ·obtain⟨i,hi,e,hl⟩:=hl;obtain rfl:i=j:=by omega
   rcases hl with⟨b,jN,ho⟩|⟨p,ad,hp,tP,rfl⟩
   ·rw[upd_same]at ho;exact⟨b,jN,hhb b ho⟩
   ·exact absurd (held hi hp).1 (by omega)
  ·obtain⟨p,ad,hn,tP,rfl⟩:=hl;exact⟨p,ad,λi hi hp=>hn i (by omega) (by rw[upd_ne _ _ (by omega)];exact hp),tP,rfl⟩
  ·obtain⟨b,jN,hm⟩:=hl;exact⟨b,jN,hm.1⟩
 ·refine⟨λi i' b hi gj h1 h2=> ?_,λi b hi h1 hm=> ?_,λi b hi h1=> ?_,λb hm=>h.gok.xQ b hm.1,λi i' p hi gj h1 h2=> ?_,λi p hi h1=>h.gok.bE i p (held hi h1).1 (held hi h1).2,h.gok.sz,h.gok.B,h.gok.st⟩
  ·rcases own hi h1 with⟨l1,o1⟩|⟨rfl,o1⟩<;>rcases own gj h2 with⟨l2,o2⟩|⟨e,o2⟩
   ·exact h.gok.La i i' b l1 l2 o1 o2
   ·exact absurd (hhb b o2) (h.gok.mine i b l1 o1)
   ·exact absurd (hhb b o1) (h.gok.mine i' b l2 o2)
   ·exact e.symm
  ·rcases own hi h1 with⟨l1,o1⟩|⟨rfl,o1⟩
   ·exact h.gok.mine i b l1 o1 hm.1
   ·exact hm.2 o1
  ·rcases own hi h1 with⟨l1,o1⟩|⟨rfl,o1⟩
   ·exact h.gok.Cr i b l1 o1
   ·exact h.gok.xQ b (hhb b o1)
  ·exact h.gok.C9 i i' p (held hi h1).1 (held gj h2).1 (held hi h1).2 (held gj h2).2
 ·obtain⟨op,hop,ha⟩:=aK.1 I5;rcases getElem?_append_cases hop with⟨_,qx⟩|⟨_,qy⟩
  ·exact h.norel p hp (by rw[act?_of qx,ha])
  ·exact U8 op qy _ ha
 ·rcases dM i j with bE|va
  ·rw[upd_ne _ _ (by omega)]at hs;obtain⟨r,hr⟩:=h.rel i bE hs;refine⟨r,hr.appNot λop hop=> ?_⟩;rcases hgk op hop with e|e<;>omega
  ·obtain rfl:i=j:=by omega
   rw[upd_same]at hs;simp[tC.wd]at hs
 ·obtain⟨u,rfl⟩:=h.pre;exact⟨u++ #[x,y],by rw[Array.append_assoc]⟩
 ·rcases getElem?_append_cases hop with⟨_,qx⟩|⟨_,qy⟩
  ·exact h.atm p op z hp qx hg hz hk
  ·rw[yf op qy]at hz;cases hz
 ·rcases getElem?_append_cases hop with⟨_,qx⟩|⟨_,qy⟩
  ·exact h.mute p op hp qx hg bE
  ·exact yf op qy
 ·rcases ot.1 hop with z'|z'
  ·exact h.seen op z' z hz
  ·rw[yf op z']at hz;cases hz
 ·obtain⟨i,hi,hh⟩:=h.done p hp;exact⟨i,by omega,by rw[upd_ne _ _ (by omega)];exact hh⟩
 ·obtain⟨bE,hh⟩:=held hi hh;exact h.todo p i hp bE hh
 ·by_cases e:i=j
  ·subst e;rw[upd_same]at ho;exact ho.elim
  ·rw[upd_ne _ _ e]at ho;exact h.over i (by omega) ho
theorem Qw: ∀e∈ #[ig .disable],Bk φ.Wg e:=by intro e he;simp at he;subst he;exact .inl rfl
theorem Wa: ∀e∈ #[ig .enable],Bk φ.Wg e:=by intro e he;simp at he;subst he;exact .inr (.inl rfl)
theorem IJ: ∀e∈ #[rd (stA φ.Wg)],Bk φ.Wg e:=by intro e he;simp at he;subst he;exact bk_cell _ _ rfl
theorem Wb: ∀e∈ #[rd (stA φ.Wg),wr (stA φ.Wg)],Bk φ.Wg e:=by intro e he;simp at he;rcases he with rfl|rfl<;>exact bk_cell _ _ rfl
theorem aao: ∀e∈semEvents (smA φ.Wg),Bk φ.Wg e:=by
 intro e he;simp[semEvents]at he;rcases he with rfl|rfl|rfl|rfl
 ·exact .inl rfl
 ·exact bk_cell _ _ rfl
 ·exact bk_cell _ _ rfl
 ·exact .inr (.inl rfl)
def Ph.VB (φ:Ph)(Goal:ay->ah->Prop)(B0:Nat)(t0:Trace)(mc:Machine)(t:Trace):Prop:=
 ∃(gs:Array ay) (w:ah) (sl:Option (Nat×Nat)) (γ:Nat->Gh) (S:Nat->tC) (μ:Nat->Prop) (q:Nat->Nat) (k:Nat) (a:ay),
  mc=crowd gs w sl/\gs[0]? =ae a/\a.status=.running/\Goal a w/\Deaf t 0=0/\φ.Com B0 t0 gs w t φ.n γ S μ q k/\WgAt φ.ty φ.Wg w 0 0/\AllQuit φ.n (jQ S)/\φ.tq t0 φ.n t
theorem Um (O:φ.Ok)(hT0: ∀(i:Nat) (op:MemOp),t0[i]? =ae op->op.g<φ.lo)(hAn: ∀μ g w,AnchW μ g w-> ∃m,φ.GP μ (φ.AtW1 μ Goal (AnchW μ)) m g w)(ha:gs[0]? =ae a)(sJ:φ.kF Goal AnchW tag f0 d0 μ a w)(mY:Deaf t 0=d0)(cg:φ.Com B0 t0 gs w t j γ S μ q k)(jL:WgAt φ.ty φ.Wg w st sm)(dC:fg j (jQ S) tag st sm)(mJ:CK φ.n j tag)(rU:tag=.ret->φ.tq t0 j t)(fi: ∀i,i<φ.n->_root_.Acc φ.KB (S i))(cG:a.status=.running):(tag=.ret/\ ∀aD,φ.MR μ w aD->Ph.AtRet Goal a aD)\/ ∃m' nA rZ,runT φ.P (crowd gs w sl) 0=(.next m',nA)/\φ.Tv rZ (φ.mu S q j tag f0)/\φ.Inv Goal AnchW B0 t0 rZ m' (t++nA):=by
 have hVj:=Vc_le j (jQ S);have hjn:=cg.jn;have hn:=O.n31;have w1: ∀{tag:CTag} {f0 f1:Nat},CK φ.n j .w1->fg j (jQ S) .w1 st sm->φ.GP μ (φ.AtW1 μ Goal (AnchW μ)) f1 a w->Deaf t 0=1->(jk (Vc j (jQ S)) .w1<jk (Vc j (jQ S)) tag\/(tag=.w1/\f1=f0))->
  ∃m' nA rZ,runT φ.P (crowd gs w sl) 0=(.next m',nA)/\φ.Tv rZ (φ.mu S q j tag f0)/\φ.Inv Goal AnchW B0 t0 rZ m' (t++nA):=by
  intro tag f0 f1 mJ dC h Cj bE;rcases Goes.cases h with ft|⟨m',rfl,eD⟩
  ·obtain⟨_,wJ⟩:=ft w (.refl μ w);obtain⟨ho,rfl,rfl,_⟩:=dC.open_inv trivial;obtain⟨a',hgo,h0,dQ⟩:=wJ (Vc j (jQ S)) (by omega) (by simpa[pend]using jL);have Cl: ∀{tg:CTag},jk (Vc j (jQ S)) tg<jk (Vc j (jQ S)) .w1->jk (Vc j (jQ S)) tg<jk (Vc j (jQ S)) tag:=λh=>by rcases bE with h'|⟨rfl,_⟩<;>omega
   by_cases hv:Vc j (jQ S)=0
   ·obtain⟨m₂,hk⟩:=h0 hv;refine sr O fi Cj (tag':=.ke) mJ ha cg hgo (.refl φ.Wg w) jL IJ (.ke hk) ?_ (by simp) (.inl (Cl (by simp[jk])));have e:((Vc j (jQ S)+pend .w1:Nat):Int)*KK=0:=by rw[hv];simp[pend]
    rw[e];exact .fin trivial (allQuit_of ho hv)
   ·obtain⟨m₂,hk⟩:=dQ hv;exact sr O fi Cj (tag':=.w2 (Vc j (jQ S))) mJ ha cg hgo (.refl φ.Wg w) jL IJ (.w2 hk) (dC.reopen trivial trivial rfl (λvs e=>by cases e;omega)) (by simp) (.inl (Cl (by simp[jk])))
  ·obtain⟨a',w',es,hgo,hD,ll⟩:=eD w (.refl μ w);obtain⟨rfl,jq⟩:=hD;have SZ:deafBehind 1 es=1:=deafBehind_idle (λe he=>(nW (jq e he)).1) 1;refine sQ fi Cj (tag':=.w1) (f':=m') mJ ha hgo O.yQ cg (λf hf=> ?_) (by rw[SZ];exact .w1 ll) jL dC (by simp) ?_
   ·have:=cg.Ji (a':=a') O (Qt w') (es:=es) (by rw[tO];exact jq) a.frame.fn a.frame.place f hf;rwa[tO]at this
   ·rcases bE with h'|⟨rfl,rfl⟩
    ·exact .inl h'
    ·exact .inr ⟨rfl,by omega⟩
 cases sJ with
 |Kr hr h=>
  refine .inr ?_;rcases Goes.cases h with ft|⟨m',rfl,eD⟩
  ·obtain⟨_,a',w',es,hgo,I6,jq,m₂,hk⟩:=ft w (.refl μ w);have SZ:deafBehind 0 es=0:=deafBehind_idle (λe he=>(nW (jq e he)).1) 0;exact sQ fi mY (tag':=.sp _ 6) mJ ha hgo O.yQ cg (λf hf=>cg.Ji O I6 jq _ _ f hf) (by rw[SZ];exact .al2 hr hk) (jL.of_block (I6.rest φ.Wg (by have:=cg.gok.B.1;have:=cg.gok.sz;omega))) (dC.reopen trivial trivial rfl (by simp)) (by simp) (.inl (by simp[jk]))
  ·obtain⟨a',w',es,hgo,hD,ll⟩:=eD w (.refl μ w);exact rB O fi mY mJ ha cg jL dC (by simp) hgo hD (.Kr hr ll) (by omega)
 |al2 hr h=>
  refine .inr ?_;rcases Goes.cases h with ft|⟨m',rfl,eD⟩
  ·obtain⟨_,a',w',es,hgo,I6,jq,m₂,hk⟩:=ft w (.refl μ w);have SZ:deafBehind 0 es=0:=deafBehind_idle (λe he=>(nW (jq e he)).1) 0;exact sQ fi mY (tag':=.sp _ 5) mJ ha hgo O.yQ cg (λf hf=>cg.Ji O I6 jq _ _ f hf) (by rw[SZ];exact .skd hr hk) (jL.of_block (I6.rest φ.Wg (by have:=cg.gok.B.1;have:=cg.gok.sz;omega))) (dC.reopen trivial trivial rfl (by simp)) (by simp) (.inl (by simp[jk]))
  ·obtain⟨a',w',es,hgo,hD,ll⟩:=eD w (.refl μ w);exact rB O fi mY mJ ha cg jL dC (by simp) hgo hD (.al2 hr ll) (by omega)
 |skd hr h=>
  refine .inr ?_;rcases Goes.cases h with ft|⟨m',rfl,eD⟩
  ·obtain⟨_,a',hgo,m₂,hk⟩:=ft w (.refl μ w);exact sr O fi mY (tag':=.sp _ 4) mJ ha cg hgo (.refl φ.Wg w) jL Qw (.sa1 hr hk) (dC.reopen trivial trivial rfl (by simp)) (by simp) (.inl (by simp[jk]))
  ·obtain⟨a',w',es,hgo,hD,ll⟩:=eD w (.refl μ w);exact rB O fi mY mJ ha cg jL dC (by simp) hgo hD (.skd hr ll) (by omega)
 |sa1 hr h=>
  rename_i r
  refine .inr ?_;rcases Goes.cases h with ft|⟨m',rfl,eD⟩
  ·obtain⟨_,wJ⟩:=ft w (.refl μ w);obtain⟨ho,rfl,rfl,_⟩:=dC.open_inv trivial;have ahR:j+(r+1)=φ.n:=mJ;obtain⟨a',hgo,m₂,hk⟩:=wJ (Vc j (jQ S)) (by omega) (by simpa[pend]using jL);refine sr O fi mY (tag':=.sp r 3) mJ ha cg hgo (aside_setCell w (stA φ.Wg) _) (jL.setSt _) Wb (.ske hr hk) ?_ (by simp) (.inl (by simp[jk]));have e:(((Vc j (jQ S):Nat):Int)+1)*KK=((Vc j (jQ S)+pend (.sp r 3):Nat):Int)*KK:=by simp[pend]
   rw[e];exact .opn trivial ho (by simp)
  ·obtain⟨a',w',es,hgo,hD,ll⟩:=eD w (.refl μ w);exact rB O fi mY mJ ha cg jL dC (by simp) hgo hD (.sa1 hr ll) (by omega)
 |ske hr h=>
  refine .inr ?_;rcases Goes.cases h with ft|⟨m',rfl,eD⟩
  ·obtain⟨_,a',hgo,m₂,hk⟩:=ft w (.refl μ w);exact sr O fi mY (tag':=.sp _ 2) mJ ha cg hgo (.refl φ.Wg w) jL Wa (.sgo hr hk) (dC.reopen trivial trivial rfl (by simp)) (by simp) (.inl (by simp[jk]))
  ·obtain⟨a',w',es,hgo,hD,ll⟩:=eD w (.refl μ w);exact rB O fi mY mJ ha cg jL dC (by simp) hgo hD (.ske hr ll) (by omega)
 |sgo hr h=>
  rename_i r
  refine .inr ?_;rcases Goes.cases h with ft|⟨m',rfl,eD⟩
  ·obtain⟨_,a',child,hb,NP,hhb,QO,rz⟩:=ft w (.refl μ w);obtain⟨ho,rfl,rfl,_⟩:=dC.open_inv trivial;have ahR:j+(r+1)=φ.n:=mJ;have GM:=runT_crowd_spawn (P:=φ.P) (sl:=sl) (i:=0) ha (by simpa using NP);rw[cg.size]at GM;have lY:=cg.spawn O (a':=a') (by omega) mY hhb QO (x:={g:=0,fn:=a.frame.fn,pos:=a.frame.place,act:=.go (φ.lo+j)}) (y:={g:=φ.lo+j,fn:=child.frame.fn,pos:=a.frame.place,act:=.start}) ⟨rfl,rfl⟩ ⟨rfl,rfl⟩;have ye:((gs.setIfInBounds 0 a').push child)[0]? =ae a':=by have:=O.yQ;rw[Array.getElem?_push_lt (by simp[cg.size];omega),<-aX];exact aW (by simp[cg.size];omega)
   have eW:jQ (upd S j (.tree (⟨hb,λ_=>False,False⟩,child,w)))=upd (jQ S) j ⟨7,0,0⟩:=wF _ _ _;have eV:Vc (j+1) (upd (jQ S) j ⟨7,0,0⟩)=Vc j (jQ S)+1:=by simp only[Vc,sumTo,upd_same];rw[sumTo_upd_out _ _ cnt (az _)];rfl
   have U9:OpenSt (j+1) (upd (jQ S) j ⟨7,0,0⟩):=λi hi=>by
    by_cases e:i=j
    ·subst e;rw[upd_same];simp
    ·rw[upd_ne _ _ e];exact ho i (by omega)
   have est: ∀tag',pend tag'=0->((Vc j (jQ S)+pend (.sp r 2):Nat):Int)*KK=((Vc (j+1) (upd (jQ S) j ⟨7,0,0⟩)+pend tag':Nat):Int)*KK:=λtag' hp=>by rw[eV,hp];simp[pend]
   have acv: ∀i,i<φ.n->_root_.Acc φ.KB (upd S j (.tree (⟨hb,λ_=>False,False⟩,child,w)) i):=λi hi=>by
    by_cases e:i=j
    ·subst e;rw[upd_same];exact KS QO.acc
    ·rw[upd_ne _ _ e];exact fi i hi
   have afH: ∀p,φ.Tv (upd S j (.tree (⟨hb,λ_=>False,False⟩,child,w)),p) (φ.mu S q j (.sp r 2) f0):=λp=>Prod.Lex.left _ _ ⟨j,by omega,by rw[upd_same,cg.un j (az _)];exact QO.acc,λx hx=>upd_ne _ _ hx⟩
   have QR:Deaf (t++ #[{g:=0,fn:=a.frame.fn,pos:=a.frame.place,act:=.go (φ.lo+j)},{g:=φ.lo+j,fn:=child.frame.fn,pos:=a.frame.place,act:=.start}]) 0=0:=by rw[Deaf_still t 0 _ λop hop=> ?_,mY];simp only[pz,cy,jo,or_false]at hop;rcases hop with rfl|rfl<;>simp
   have gY:(((bW 0 a.frame.fn a.frame.place #[]).push {g:=0,fn:=a.frame.fn,pos:=a.frame.place,act:=.go (φ.lo+j)}).push {g:=φ.lo+j,fn:=child.frame.fn,pos:=a.frame.place,act:=.start}:Trace)= #[{g:=0,fn:=a.frame.fn,pos:=a.frame.place,act:=.go (φ.lo+j)},{g:=φ.lo+j,fn:=child.frame.fn,pos:=a.frame.place,act:=.start}]:=by rw[ofEvents_eq];simp
   rw[gY]at GM;cases r with
   |zero=>obtain⟨X7,hk⟩:=rz;refine⟨_,_,φ.mu _ q (j+1) .kd X7,GM,afH _,_,w,sl,j+1,_,_,_,q,k,.kd,X7,0,a',_,_,rfl,ye,.kd hk,QR,lY,jL,?_,by show j+1=φ.n;omega,by simp,acv,rfl⟩;rw[eW,est .kd rfl];exact .opn trivial U9 (by simp)
   |succ r'=>obtain⟨X7,hk⟩:=rz;refine⟨_,_,φ.mu _ q (j+1) (.sp r' 7) X7,GM,afH _,_,w,sl,j+1,_,_,_,q,k,.sp r' 7,X7,0,a',_,_,rfl,ye,.Kr (by omega) hk,QR,lY,jL,?_,by show j+1+(r'+1)=φ.n;omega,by simp,acv,rfl⟩;rw[eW,est (.sp r' 7) rfl];exact .opn trivial U9 (by simp)
  ·obtain⟨a',w',es,hgo,hD,ll⟩:=eD w (.refl μ w);exact rB O fi mY mJ ha cg jL dC (by simp) hgo hD (.sgo hr ll) (by omega)
 |kd h=>
  refine .inr ?_;rcases Goes.cases h with ft|⟨m',rfl,eD⟩
  ·obtain⟨_,a',hgo,m₂,hk⟩:=ft w (.refl μ w);exact sr O fi mY (tag':=.anch) mJ ha cg hgo (.refl φ.Wg w) jL Qw (.anch hk) (dC.reopen trivial trivial rfl (by simp)) (by simp) (.inl (by simp[jk]))
  ·obtain⟨a',w',es,hgo,hD,ll⟩:=eD w (.refl μ w);exact rB O fi mY mJ ha cg jL dC (by simp) hgo hD (.kd ll) (by omega)
 |anch h=>
  refine .inr ?_;rcases Goes.cases h with ft|⟨m',rfl,eD⟩
  ·obtain⟨m₂,hk⟩:=hAn μ a w (ft w (.refl μ w));exact w1 mJ (dC.reopen trivial trivial rfl (by simp)) hk mY (.inl (by simp[jk]))
  ·obtain⟨a',w',es,hgo,hD,ll⟩:=eD w (.refl μ w);exact rB O fi mY mJ ha cg jL dC (by simp) hgo hD (.anch ll) (by omega)
 |w1 h=>exact .inr (w1 mJ dC h mY (.inr ⟨rfl,rfl⟩))
 |w2 h=>
  rename_i vs
  refine .inr ?_;rcases Goes.cases h with ft|⟨m',rfl,eD⟩
  ·obtain⟨_,wJ⟩:=ft w (.refl μ w);obtain⟨ho,rfl,rfl,OU⟩:=dC.open_inv trivial;obtain⟨hle,h1⟩:=OU vs rfl;obtain⟨ahD,afV⟩:=wJ (Vc j (jQ S)) (by omega) (by simpa[pend]using jL);by_cases e:Vc j (jQ S)=vs
   ·obtain⟨a',hgo,m₂,hk⟩:=ahD e;exact sr O fi mY (tag':=.w3) mJ ha cg hgo (aside_setCell w (stA φ.Wg) _) (jL.setSt _) Wb (.w3 hk) (.reg trivial ho (by omega)) (by simp) (.inl (by simp[jk,e]))
   ·obtain⟨a',hgo,m₂,hk⟩:=afV e;exact sr O fi mY (tag':=.anch) mJ ha cg hgo (.refl φ.Wg w) jL IJ (.anch hk) (dC.reopen trivial trivial rfl (by simp)) (by simp) (.inl (by simp[jk,e]))
  ·obtain⟨a',w',es,hgo,hD,ll⟩:=eD w (.refl μ w);exact rB O fi mY mJ ha cg jL dC (by simp) hgo hD (.w2 ll) (by omega)
 |w3 h=>
  refine .inr ?_;rcases Goes.cases h with ft|⟨m',rfl,eD⟩
  ·obtain⟨_,OL,hblk,af9⟩:=ft w (.refl μ w);cases dC with
   |opn h1 _ _=>exact h1.elim
   |reg h1 h2 h3=>exact sr O fi mY (tag':=.blk) mJ ha cg (hblk ⟨_,jL⟩) (.refl φ.Wg w) jL (by simp) (.blk ft) (.reg trivial h2 h3) (by simp) (.inr ⟨rfl,by omega⟩)
   |last L h1 h2 h3 h4=>exact sr O fi mY (tag':=.blk) mJ ha cg (hblk ⟨_,jL⟩) (.refl φ.Wg w) jL (by simp) (.blk ft) (.last L trivial h2 h3 h4) (by simp) (.inr ⟨rfl,by omega⟩)
   |sema h2=>obtain⟨a',hgo,m₂,hk⟩:=af9 jL;exact sr O fi mY (tag':=.w4) mJ ha cg hgo (aside_setCell w (smA φ.Wg) _) (jL.setSm 0) aao (.w4 hk) (.fin trivial h2) (by simp) (.inl (by simp[jk]))
   |fin h1 _=>exact h1.elim
  ·obtain⟨a',w',es,hgo,hD,ll⟩:=eD w (.refl μ w);exact rB O fi mY mJ ha cg jL dC (by simp) hgo hD (.w3 ll) (by omega)
 |blk h=>simp at cG
 |w4 h=>
  refine .inr ?_;rcases Goes.cases h with ft|⟨m',rfl,eD⟩
  ·obtain⟨_,hx⟩:=ft w (.refl μ w);obtain⟨hq,rfl,rfl⟩:=dC.fin_inv trivial;obtain⟨a',hgo,m₂,hk⟩:=hx jL;exact sr O fi mY (tag':=.ke) mJ ha cg hgo (.refl φ.Wg w) jL IJ (.ke hk) (.fin trivial hq) (by simp) (.inl (by simp[jk]))
  ·obtain⟨a',w',es,hgo,hD,ll⟩:=eD w (.refl μ w);exact rB O fi mY mJ ha cg jL dC (by simp) hgo hD (.w4 ll) (by omega)
 |ke h=>
  refine .inr ?_;rcases Goes.cases h with ft|⟨m',rfl,eD⟩
  ·obtain⟨_,a',hgo,m₂,hk⟩:=ft w (.refl μ w);obtain⟨hq,rfl,rfl⟩:=dC.fin_inv trivial;exact sr O fi mY (tag':=.acq) mJ ha cg hgo (.refl φ.Wg w) jL Wa (.acq hk) (.fin trivial hq) (by simp) (.inl (by simp[jk]))
  ·obtain⟨a',w',es,hgo,hD,ll⟩:=eD w (.refl μ w);exact rB O fi mY mJ ha cg jL dC (by simp) hgo hD (.ke ll) (by omega)
 |acq h=>
  refine .inr ?_;rcases Goes.cases h with ft|⟨m',rfl,eD⟩
  ·obtain⟨_,a',hgo,m₂,hk⟩:=ft w (.refl μ w);obtain⟨hq,rfl,rfl⟩:=dC.fin_inv trivial;have gY: ∀op∈bW 0 a.frame.fn a.frame.place #[ig (.acquire (stA φ.Wg))],op.g=0/\op.act=.mark (.acquire (stA φ.Wg)):=λop hop=>by obtain⟨e,he,rfl⟩:=bh hop;simp at he;subst he;exact⟨rfl,Go.ConcR.ofEvent_mk _⟩
   refine sQ fi mY (tag':=.ret) (f':=m₂) mJ ha hgo O.yQ cg (λf hf=>cg.main O f hf (λop hop=>(gY op hop).1) (λi hi=>.refl _ _) ?_ cg.gok (λop hop=>by rw[(gY op hop).2];simp) (λop hop x hx=>by rw[(gY op hop).2]at hx;cases hx) (az _) rfl λ_ _ _=>rfl) (.ret hk) jL (.fin trivial hq) (λ_=> ?_) (.inl (by simp[jk]))
   ·exact cg.et.mute (g:=0) (by have:=O.yQ;omega) (λop hop=>(gY op hop).1) λop hop=>by rw[(gY op hop).2];rfl
   ·have e1:bW 0 a.frame.fn a.frame.place #[ig (.acquire (stA φ.Wg))]= #[{g:=0,fn:=a.frame.fn,pos:=a.frame.place,act:=.mark (.acquire (stA φ.Wg))}]:=by rw[ofEvents_eq];simp[Go.ConcR.ofEvent_mk]
    have hy:(t++ #[({g:=0,fn:=a.frame.fn,pos:=a.frame.place,act:=.mark (.acquire (stA φ.Wg))}:MemOp)])[t.size]? =ae {g:=0,fn:=a.frame.fn,pos:=a.frame.place,act:=.mark (.acquire (stA φ.Wg))}:=by simp
    have hts:t0.size<=t.size:=by obtain⟨u,hu⟩:=cg.pre;rw[hu];simp
    refine⟨t.size,hts,by rw[e1,act?_of hy],by rw[e1];simp[Trace.g?],by rw[e1];exact⟨0,by simp[Trace.g?],by rw[deaf_old (az _)];exact mY⟩,λi hi=> ?_⟩;obtain⟨r,hr⟩:=cg.rel i hi (by have:(jQ S i).stage=1:=hq i hi;show(jQ S i).stage<=6;omega);refine⟨r,hr.appNot λop hop=>by rw[(gY op hop).1];have:=O.yQ;omega,lt_of_act? hr.act,Nat.le_of_not_lt λbE=> ?_⟩;obtain⟨u,hu⟩:=cg.pre;obtain⟨op,hop,hg⟩:=aK.1 hr.g;rw[hu,getElem?_append_old bE]at hop;have:=hT0 r op hop;omega
  ·obtain⟨a',w',es,hgo,hD,ll⟩:=eD w (.refl μ w);exact rB O fi mY mJ ha cg jL dC (by simp) hgo hD (.acq ll) (by omega)
 |ret h=>
  rcases Goes.cases h with ft|⟨m',rfl,eD⟩
  ·exact .inl ⟨rfl,ft⟩
  ·obtain⟨a',w',es,hgo,hD,ll⟩:=eD w (.refl μ w);exact .inr (rB O fi mY mJ ha cg jL dC rU hgo hD (.ret ll) (by omega))
end
end Rel
namespace Rel
section
variable {P:aS} {c:fR}
theorem Mm {kR:List Item}(h:oE kR=aA):KOk [sent] kR:=⟨rfl,h,λ_=>rfl,λe=>by cases e⟩
def VS (Q:Exit->Act->ah->Prop)(b:bm)(g:ay)(w:ah):Prop:=g.callers=[fC]/\ ∃(a:Act) (t:Tape) (d:Nat),(g.frame=b.at a [sent]/\Q .normal a (dB w t d))\/(∃todo,g.frame={b.at a todo with mode:=.returning}/\Q .ret a (dB w t d))
theorem TE (Q:Exit->Act->ah->Prop)(b:bm):HOk (VS Q b):=by
 refine⟨λg w t d h=> ?_,λg w h=> ?_⟩
 ·obtain⟨h1,a,t',d',h2⟩:=h;exact⟨h1,a,t',d',h2⟩
 ·obtain⟨h1,a,t',d',⟨h2,_⟩|⟨todo,h2,_⟩⟩:=h
  ·exact⟨h1,.inl (by rw[h2];rfl)⟩
  ·exact⟨h1,.inr (by rw[h2])⟩
theorem C3 {kL kR:List Item}{π:Ren}{b:bm}(hb:b.kind=.normal){a:Act}(ht:se c π a.tmps a.tmps)(hd:a.defers=[]){x y:List Item}(hk:KO c kL kR π x y)(ks:KOk kL kR):r8 c kL kR π (b.at a x) (b.at a y):=⟨rfl,ht,hk,by show dj (mE π) a.defers a.defers;rw[hd];exact .nil,rfl,.inl rfl,hb,hb,.none,ks,λh=>absurd rfl h⟩
theorem Ga (hc:c.Fits P){its:List Item}{b:bm}(hb:b.kind=.normal){a:Act}{Q:Exit->Act->ah->Prop}{w:ah}{π:Ren}(s:Sub π)(hw:ck P c.sig π w w)(ht:se c π a.tmps a.tmps)(hd:a.defers=[])(hk:KO c [sent] [sent] π (its++[sent]) (its++[sent]))(hQ: ∀e a w,Q e a w->e=.normal\/e=.ret)(hT: ∀t,∃e a' w',Q e a' w'/\Arrives P (lone (b.at a (its++[sent])) [fC] (dB w t 0)) b [sent] [fC] e a' w'):LT P [sent] (VS Q b) (jG (b.at a (its++[sent])) [fC]) w:=by
 refine xk hc (.inr rfl) s hw ⟨rfl,rfl,.one (C3 hb ht hd hk (Mm rfl)) rfl⟩ (TE Q b) λt=> ?_
 obtain⟨e,a',w',hq,aaR⟩:=hT t;rcases hQ _ _ _ hq with rfl|rfl
 ·exact⟨jG (b.at a' [sent]) [fC],w',aaR,rfl,rfl,a',w'.tape,w'.drawn,.inl ⟨rfl,hq⟩⟩
 ·obtain⟨todo,aaR⟩:=aaR;exact⟨jG {b.at a' todo with mode:=.returning} [fC],w',aaR,rfl,rfl,a',w'.tape,w'.drawn,.inr ⟨todo,rfl,hq⟩⟩
def ach (P:aS)(f:bQ)(R:Ending->ah->Prop)(g:ay)(w:ah):Prop:=g.callers=[fC]/\g.frame.fn=f/\ ∃(v:aq) (t:Tape) (d:Nat),R (.returned v) (dB w t d)/\g.frame.leaving P (dB w t d) (.returned v)
theorem Wd (P:aS)(f:bQ)(R:Ending->ah->Prop):HOk (ach P f R):=⟨λ_ _ _ _ ⟨h1,hf,v,t',d',h2⟩=>⟨h1,hf,v,t',d',h2⟩,λ_ _ ⟨h1,_,_,_,_,_,h2⟩=>⟨h1,.inr h2.1⟩⟩
theorem xj (hc:c.Fits P){f:bQ}(hf:c.fn f=aA){args:Array aq}{R:Ending->ah->Prop}{w:ah}{π:Ren}(s:Sub π)(hw:ck P c.sig π w w)(ha:uI c f π args args)(hR: ∀e w,R e w-> ∃v,e=.returned v)(hT: ∀t d,Calls P f args (dB w t d) R):LT P [] (ach P f R) (jG (fu P f args .normal) [fC]) w:=by
 refine xk (hc.at f) (.inl rfl) s hw ⟨rfl,rfl,.one (r8.enter hc hf ha) rfl⟩ (Wd P f R) λt=> ?_
 obtain⟨e,w',fr,hr,hs,NO,hl⟩:=hT t 0 [fC];obtain⟨v,rfl⟩:=hR e w' hr;exact⟨jG fr [fC],w',hs,rfl,rfl,NO,v,w'.tape,w'.drawn,hr,hl⟩
theorem Ni (hc:c.Fits P){k kR:List Item}{bot':List bm}{g g':ay}{L R:ah}{gs:Tape->Nat->ay}{ws:Tape->Nat->ah}{es:Tape->Nat->Array Event}(hs: ¬uJ k [fC] g)(gI: ∀t d,stepG P aA g (dB L t d)=.go (gs t d) (ws t d) (es t d)/\((gs t d).frame.mode=.run\/(gs t d).frame.mode=.returning)){π:Ren}(hw:ck P c.sig π L R)(hg:GR c k kR [fC] bot' π g g')(m:Bool): ∃gR R2 ev bO,stepG P m g' R=.go gR R2 ev/\Ext P π bO/\GR c k kR [fC] bot' bO (gs R.tape R.drawn) gR/\ck P c.sig bO (ws R.tape R.drawn) R2/\yh π bO L R (ws R.tape R.drawn) R2/\ ∀e∈ev,Ey c.sig bO e:=by
 have jI:ck P c.sig π (dB L R.tape R.drawn) R:=⟨hw.ok,hw.obj,hw.ox,hw.uz,hw.old⟩;obtain⟨hgo,hmo⟩:=gI R.tape R.drawn;rcases Eg hc jI hg hs aA m with⟨_,_,_,h1⟩|⟨_,_,_,h1,h2⟩|⟨g2,L2,es2,Xf,_,_,hA⟩
 ·rw[hgo]at h1;cases h1
 ·rw[hgo]at h1;cases h1;obtain⟨a,cl,ch,jJ,R2,ds,hga,hm,_⟩:=h2;rw[hga]at hmo;rcases hmo with x|x<;>rw[hm]at x<;>cases x
 ·rw[hgo]at Xf;cases Xf;obtain⟨bO,gR,R2,ev,e,hr,Ku,OU,hd,_,jq⟩:=hA λ_ _ _=>rfl
  exact⟨gR,R2,ev,bO,hr,e,Ku,OU,⟨hd.tape,hd.os,hd.output,hd.osL,hd.wy,hd.size,hd.Ec,hd.sizes,hd.rest,hd.M3,hd.new,hd.all,hd.le⟩,jq⟩
end
end Rel
namespace Rel
open Go.Conc Go.ConcN
open Go.ConcR (KK WgAt rd wr Payload DC0 stA smA Bk)
section
variable [Payload] {φ:Ph} {Goal:ay->ah->Prop} {AnchW:(Nat->Prop)->ay->ah->Prop} {B0:Nat} {t0:Trace} {gs sH:Array ay} {w w':ah} {sl:Option (Nat×Nat)} {t:Trace} {j:Nat} {γ γ':Nat->Gh} {S:Nat->tC} {μ rZ:Nat->Prop} {q:Nat->Nat} {k k':Nat} {tag tag':CTag} {f0 f' d0:Nat} {a a':ay} {st sm Au Aq:Int} {es:Array Event}
theorem Jo {e:Event}(h:e.mute=aA)(a:Addr):cN e≠ .mark (.release a):=by
 obtain⟨loc,wr,sy⟩:=e;cases loc<;>simp_all[Event.mute]
 rename_i m
 cases m<;>simp_all[cN]
theorem Ph.Com.ad0 (O:φ.Ok)(h:φ.Com B0 t0 gs w t j γ S μ q k){i:Nat}(qX:0<i)(hi:i<φ.lo){g':ay}{fn:bQ}{pos:String}(hm: ∀e∈es,Event.mute e=aA){n':Nat}(um:QuitsD φ.P n' (deafBehind (Deaf t i) es) g')(f:ay->ay)(hf: ∀o,o.status=.running\/o.status=.finished->f o=o):φ.Com B0 t0 ((gs.map f).setIfInBounds i g') w (t++bW i fn pos es) j γ S μ (upd q i n') k:=by
 have yQ:=O.yQ;have gY: ∀op∈bW i fn pos es,op.g=i/\op.act.touch? =ai/\op.act≠ .mark (.release (stA φ.Wg)):=by intro op hop;obtain⟨e,he,rfl⟩:=bh hop;exact⟨rfl,touch_mute (hm e he),Jo (hm e he) _⟩
 have hg: ∀op∈bW i fn pos es,op.g=i:=λop hop=>(gY op hop).1
 refine⟨by simp[h.size],h.jn,λi' x h0 hl hx=> ?_,λi' gj=> ?_,h.un,λi' gj=> ?_,?_,h.gok,λp hp I5=> ?_,λi' gj gI=> ?_,?_,λp op x hp hop ll hx hk=> ?_,λp op hp hop ll bE=> ?_,λop hop x hx=> ?_,h.chan,h.done,h.todo,h.over,h.free⟩
 ·by_cases e:i=i'
  ·subst e;rw[aW (by simp[h.size];omega)]at hx;obtain rfl:=aY hx;rw[upd_same,Deaf_own];exact um
  ·rw[aO e,gq]at hx;obtain⟨y,hy,rfl⟩:=aK.1 hx;have hq:=h.old i' y h0 hl hy;rw[hf y hq.status,Deaf_other t (g':=i) (by omega) _ hg,upd_ne _ _ (by omega)];exact hq
 ·obtain⟨x,hx,Q5⟩:=h.wk i' gj;exact⟨x,by rw[aO (by omega),gq,hx,eY,hf x Q5.status],Q5⟩
 ·rw[Deaf_other t (g':=i) (by omega) _ hg];exact h.deaf i' gj
 ·exact h.et.mute (g:=i) (by omega) hg λop hop=>(gY op hop).2.1
 ·obtain⟨op,hop,ha⟩:=aK.1 I5;rcases getElem?_append_cases hop with⟨_,qx⟩|⟨_,qy⟩
  ·exact h.norel p hp (by rw[act?_of qx,ha])
  ·exact(gY op qy).2.2 ha
 ·obtain⟨r,hr⟩:=h.rel i' gj gI;exact⟨r,hr.appNot λop hop=>by rw[hg op hop];omega⟩
 ·obtain⟨u,rfl⟩:=h.pre;exact⟨u++_,by rw[Array.append_assoc]⟩
 ·rcases getElem?_append_cases hop with⟨_,qx⟩|⟨_,qy⟩
  ·exact h.atm p op x hp qx ll hx hk
  ·rw[(gY op qy).2.1]at hx;cases hx
 ·rcases getElem?_append_cases hop with⟨_,qx⟩|⟨_,qy⟩
  ·exact h.mute p op hp qx ll bE
  ·exact(gY op qy).2.1
 ·rcases ot.1 hop with y|y
  ·exact h.seen op y x hx
  ·rw[(gY op y).2.1]at hx;cases hx
theorem abC (φ:Ph)(γ:Gh)(w:ah)(d:Nat):φ.eP γ w (w.at d):=⟨λ_ _=>rfl,λ_ _=>rfl,λ_ _ _ _=>rfl,λ_ _=>rfl,id,az _,rfl,rfl,rfl⟩
theorem ago (φ:Ph)(μ:Nat->Prop)(w:ah)(d:Nat):φ.MR μ w (w.at d):=⟨λ_ _=>rfl,λ_ _=>rfl,λ_ _=>rfl,λ_ _=>rfl,id,az _,rfl,rfl,rfl⟩
theorem Ph.Com.at (O:φ.Ok)(h:φ.Com B0 t0 gs w t j γ S μ q k)(d:Nat):φ.Com B0 t0 gs (w.at d) t j γ S μ q k:=⟨h.size,h.jn,h.old,λi hi=>let⟨g,hg,hs⟩:=h.wk i hi;⟨g,hg,hs.rely O (abC φ _ w d)⟩,h.un,h.deaf,h.et,h.gok,h.norel,h.rel,h.pre,h.atm,h.mute,h.seen,h.chan,h.done,h.todo,h.over,λp hp LU=>O.j0 w (w.at d) p (λ_ _=>rfl) (h.free p hp LU)⟩
theorem No (O:φ.Ok)(yd: ∀μ g w,AnchW μ g w->g.status=.running)(ha:gs[0]? =ae a)(sJ:φ.kF Goal AnchW tag f0 d0 μ a w)(mY:Deaf t 0=d0)(cg:φ.Com B0 t0 gs w t j γ S μ q k)(jL:WgAt φ.ty φ.Wg w st sm)(dC:fg j (jQ S) tag st sm)(mJ:CK φ.n j tag)(rU:tag=.ret->φ.tq t0 j t)(fi: ∀i,i<φ.n->_root_.Acc φ.KB (S i)){i:Nat}(qX:0<i)(hi:i<φ.lo){g:ay}(hg:gs[i]? =ae g)(cG:g.status=.running): ∃m' nA rZ,runT φ.P (crowd gs w sl) i=(.next m',nA)/\φ.Tv rZ (φ.mu S q j tag f0)/\φ.Inv Goal AnchW B0 t0 rZ m' (t++nA):=by
 have hq:=cg.old i g qX hi hg;cases hqi:q i with
 |zero=>rw[hqi]at hq;rw[hq.1]at cG;cases cG
 |succ n'=>
  rw[hqi]at hq;rcases hq with⟨hf,_⟩|⟨_,g',es,hm,gI,um⟩
  ·rw[hf]at cG;cases cG
  have dQ:(i==0)=aw:=by simp;omega
  have hgo:=gI w;obtain⟨tag',f',uA,Jb,hwk⟩:=sJ.wokenBy yd (.refl μ w) g g';have ll: ∀op∈bW i g.frame.fn g.frame.place es,op.g=i:=λop hop=>by obtain⟨e,_,rfl⟩:=bh hop;rfl
  have lY:=cg.ad0 O qX hi (fn:=g.frame.fn) (pos:=g.frame.place) hm um (woken φ.P g g' w) λo ho=>by
   unfold Go.Conc.woken
   split
   ·exact again_running _ ho
   ·rfl
  have LZ:sumTo φ.lo (upd q i n')<sumTo φ.lo q:=by have:=sumTo_upd q n' id hi;simp only[id,hqi]at this;change sumTo φ.lo (upd q i n')+(n'+1)=sumTo φ.lo q+n' at this;omega
  refine⟨_,_,φ.mu S (upd q i n') j tag' f',runT_crowd_go hg (by rw[dQ];exact hgo),Prod.Lex.right _ (Prod.Lex.left _ _ LZ),_,w,sl,j,γ,S,μ,upd q i n',k,tag',f',d0,_,st,sm,rfl,?_,uA,?_,lY,jL,dC.retag Jb,?_,?_,fi,rfl⟩
  ·rw[aO (by omega),gq,ha];rfl
  ·rw[Deaf_other t (g':=i) (by omega) _ ll,mY]
  ·rcases Jb with rfl|⟨rfl,rfl⟩<;>exact mJ
  ·intro e;rcases Jb with rfl|⟨_,rfl⟩
   ·exact tq.app (rU e) λi' r gj hr=>hr.appNot λop hop=>by rw[ll op hop];omega
   ·cases e
theorem IV (yd: ∀μ g w,AnchW μ g w->g.status=.running)(ha:gs[0]? =ae a)(sJ:φ.kF Goal AnchW tag f0 d0 μ a w)(cg:φ.Com B0 t0 gs w t j γ S μ q k)(dC:fg j (jQ S) tag st sm): ∃(i:Nat) (g:ay),gs[i]? =ae g/\g.status=.running:=by
 have run: ∀i,i<j->(jQ S i).stage≠1-> ∃g,gs[φ.lo+i]? =ae g/\g.status=.running:=by
  intro i hi h1;obtain⟨g,hg,hs⟩:=cg.wk i hi;refine⟨g,hg,?_⟩;change (S i).wd.stage≠1 at h1;cases hS:S i with
  |lG=>rw[hS]at hs;exact hs.elim
  |tree x=>rw[hS]at hs;obtain⟨h2,h3,h4,_⟩:=hs;exact h4.status
  |tail d=>rw[hS]at hs h1;obtain⟨C,v,_,_,_,_,_,_,h⟩:=hs;exact h.running_of h1
 rcases sJ.status yd with⟨hs,_⟩|⟨_,rfl⟩
 ·exact⟨0,a,ha,hs⟩
 ·cases dC with
  |opn h1 _ _=>exact h1.elim
  |reg _ _ h3=>obtain⟨i,hi,h5⟩:=exists_counted h3;obtain⟨g,hg⟩:=run i hi (by omega);exact⟨_,g,hg⟩
  |last L _ h2 h3 _=>obtain⟨g,hg⟩:=run L h2 (by omega);exact⟨_,g,hg⟩
  |fin h1 _=>exact h1.elim
theorem Oo (yd: ∀μ g w,AnchW μ g w->g.status=.running)(ha:gs[0]? =ae a)(sJ:φ.kF Goal AnchW tag f0 d0 μ a w)(cg:φ.Com B0 t0 gs w t j γ S μ q k): ∀g∈gs,awake g:=by
 intro g hg tm;obtain⟨i,hi⟩:=Array.mem_iff_getElem?.1 hg;rcases nR i with rfl|xI
 ·rw[ha]at hi;cases hi;rcases sJ.status yd with⟨hs,_⟩|⟨hs,_⟩<;>rw[hs]<;>simp
 ·rcases dM i φ.lo with bE|va
  ·rcases(cg.old i g xI bE hi).status with h|h<;>rw[h]<;>simp
  ·obtain⟨i',rfl⟩: ∃i',i=φ.lo+i':=⟨i-φ.lo,by omega⟩;have bE:i'<j:=by have:=(aL.1 hi).1;rw[cg.size]at this;omega
   obtain⟨g',ll,hs⟩:=cg.wk i' bE;rw[hi]at ll;cases ll;rcases hs.status with h|h<;>rw[h]<;>simp
theorem SG (O:φ.Ok)(hT0: ∀(i:Nat) (op:MemOp),t0[i]? =ae op->op.g<φ.lo)(yd: ∀μ g w,AnchW μ g w->g.status=.running)(hAn: ∀μ g w,AnchW μ g w-> ∃m,φ.GP μ (φ.AtW1 μ Goal (AnchW μ)) m g w): ∀m mc t,φ.Inv Goal AnchW B0 t0 m mc t->φ.VB Goal B0 t0 mc t\/ ∃m' nA rZ,stepT φ.P mc=(.next m',nA)/\φ.Tv rZ m/\φ.Inv Goal AnchW B0 t0 rZ m' (t++nA):=by
 rintro m mc t ⟨gs,w,sl,j,γ,S,μ,q,k,tag,f0,d0,a,st,sm,rfl,ha,sJ,mY,cg,jL,dC,mJ,rU,fi,rfl⟩;by_cases af1:tag=.ret/\ ∀aD,φ.MR μ w aD->Ph.AtRet Goal a aD
 ·obtain⟨rfl,ft⟩:=af1;obtain⟨cG,Xg⟩:=ft w (.refl μ w);obtain⟨hq,rfl,rfl⟩:=dC.fin_inv trivial;obtain rfl:j=φ.n:=mJ;have hd:d0=0:=by cases sJ;rfl
  exact .inl ⟨gs,w,sl,γ,S,μ,q,k,a,rfl,ha,cG,Xg,mY.trans hd,cg,jL,hq,rU rfl⟩
 ·refine .inr ?_;obtain⟨i,g,d,yg,hg,cG,eD⟩:=crowd_pick (P:=φ.P) (w:=w) (sl:=sl) (Oo yd ha sJ cg) (IV yd ha sJ cg dC);rw[eD];have uA:=sJ.rely (ago φ μ w d);have lY:=cg.at O d;have wN:WgAt φ.ty φ.Wg (w.at d) st sm:=jL;rcases nR i with rfl|xI
  ·obtain rfl:a=g:=by rw[ha]at hg;exact aY hg
   rcases Um (sl:=yg) O hT0 hAn ha uA mY lY wN dC mJ rU fi cG with⟨h1,h2⟩|h
   ·exact absurd ⟨h1,λaD h=>h2 aD (Ph.MR.trans (b:=w) ⟨λ_ _=>rfl,λ_ _=>rfl,λ_ _=>rfl,λ_ _=>rfl,id,az _,rfl,rfl,rfl⟩ h)⟩ af1
   ·exact h
  ·rcases dM i φ.lo with bE|va
   ·exact No O yd ha uA mY lY wN dC mJ rU fi xI bE hg cG
   ·obtain⟨i',rfl⟩: ∃i',i=φ.lo+i':=⟨i-φ.lo,by omega⟩;have gj:i'<j:=by have:=(aL.1 hg).1;rw[cg.size]at this;omega
    exact Np O yd ha uA mY lY wN dC mJ rU fi gj hg cG
theorem SF (O:φ.Ok)(hT0: ∀(i:Nat) (op:MemOp),t0[i]? =ae op->op.g<φ.lo)(yd: ∀μ g w,AnchW μ g w->g.status=.running)(hAn: ∀μ g w,AnchW μ g w-> ∃m,φ.GP μ (φ.AtW1 μ Goal (AnchW μ)) m g w){m:Mu}{mc:Machine}{t:Trace}(h:φ.Inv Goal AnchW B0 t0 m mc t): ∃N mc' t',runNT φ.P N mc t=(.next mc',t')/\φ.VB Goal B0 t0 mc' t':=by refine abH (r:=φ.Tv) (φ.Inv Goal AnchW B0 t0) (φ.VB Goal B0 t0) (SG O hT0 yd hAn) m ?_ mc t h;obtain⟨gs,w,sl,j,γ,S,μ,q,k,tag,f0,d0,a,st,sm,_,_,_,_,_,_,_,_,_,fi,rfl⟩:=h;exact aai S fi _
end
end Rel
namespace Rel
open Go.Conc Go.ConcN
open Go.ConcR (KK WgAt rd wr Payload DC0 stA smA Bk)
def ShL (Shun:Nat->Prop)(l:Loc):Prop:= ∃b,vn l=ae b/\Shun b
structure wT (Shun:Nat->Prop) (B lo:Nat) (t:Trace):Prop where
 clean: ∀said,¬Race said t
 known: ∀i a,touchAt t i=ae a->a.loc.isMemory=aA->Knows t 0 i\/(ShL Shun a.loc/\a.kind=.atomic)
 over:t.HandedOver
 hears:Deaf t 0=0
 seen: ∀op∈t,∀x,op.act.touch? =ae x->x.loc.low B
 gs: ∀(i:Nat) (op:MemOp),t[i]? =ae op->op.g<lo
structure Co (P:aS) (Shun:Nat->Prop) (B:Nat) (gs:Array ay) (q:Nat->Nat) (t:Trace):Prop where
 old: ∀i g,0<i->gs[i]? =ae g->QuitsD P (q i) (Deaf t i) g
 past:wT Shun B gs.size t
 pos:0<gs.size
 Uh: ∀b,Shun b->b<B
section
variable [Payload] {φ:Ph} {Goal:ay->ah->Prop} {AnchW:(Nat->Prop)->ay->ah->Prop} {B0:Nat} {t0:Trace} {Shun:Nat->Prop} {gs gs0:Array ay} {w w':ah} {sl:Option (Nat×Nat)} {t:Trace} {q q0:Nat->Nat} {a:ay}
theorem Co.enter (O:φ.Ok){B:Nat}(hB:B<=φ.Wg)(h:Co φ.P Shun B gs q t)(Kw:φ.lo=gs.size)(OP: ∀b,φ.od b->b<w.heap.size/\ ¬Shun b)(adT: ∀b,φ.Std b->b<w.heap.size)(tj: ∀b,φ.CB b->b<w.heap.size/\ ¬Shun b)(hWg:φ.Wg<w.heap.size)(hCh:φ.Ch<w.heap.size)(jL:WgAt φ.ty φ.Wg w 0 0)(tk:φ.Qk 0 w)(QW: ∀p,p<φ.nj->φ.J0 p w)(ha:gs[0]? =ae a)(hn:0<φ.n)(NP:φ.Spawns (φ.Fin AnchW) φ.n (λ_=>False) a w): ∃m,φ.Inv Goal AnchW w.heap.size t m (crowd gs w sl) t:=by
 obtain⟨r,hr⟩: ∃r,φ.n=r+1:=⟨φ.n-1,by omega⟩;rw[hr]at NP;obtain⟨m,hk⟩:=NP;have kn: ∀{l:Loc} {b:Nat},vn l=ae b-> ¬Shun b->Perm t 0 l:=by
  intro l b hb hs i x hx e;have hm:x.loc.isMemory=aA:=by rw[e];cases l<;>first|rfl|cases hb
  rcases h.past.known i x hx hm with h1|⟨⟨b',jN,GN⟩,_⟩
  ·exact h1
  ·rw[e,hb]at jN;cases jN;exact absurd GN hs
 have cg:φ.Com w.heap.size t gs w t 0 (λ_=>⟨λ_=>False,λ_=>False,False⟩) (λ_=>.lG) (λ_=>False) q 0:=by
  refine⟨by rw[Kw];rfl,bS _,λi g h0 _ hg=>h.old i g h0 hg,λi hi=>by omega,λ_ _=>rfl,λi hi=>by omega,?_,?_,λi hi I5=> ?_,λi hi=>by omega,⟨#[],by simp⟩,λi op x hi hop=> ?_,λi op hi hop=> ?_,λop hop x hx=>Loc.low_mono (by omega) (h.past.seen op hop x hx),tk,λp hp=>by omega,λp i _ hi=>by omega,λi hi=>by omega,λp _ LU=>QW p LU⟩
  ·refine⟨h.past.clean,λi op x hi hx hs=> ?_,λk k1 k2=>by omega,λl hl=> ?_,λk k1 k2=>by omega,λl hl=> ?_,λk k1 k2=>by omega,λl hl=> ?_,λi op hi=>by have:=h.past.gs i op hi;omega⟩
   ·obtain⟨ad,hl,BM⟩:=hs;have Xn:=h.past.seen op (th hi) x hx;rw[hl]at Xn;change ad.block<B at Xn;omega
   ·obtain⟨p,ad,_,tP,rfl⟩:=hl;exact kn (b:=ad.block) rfl (tj _ (O.mK p ad tP)).2
   ·obtain⟨b,hb,hr⟩:=hl;exact PermW.of (kn hb (OP b hr).2)
   ·obtain⟨b,hb,hr⟩:=hl;exact hr.elim
  ·exact⟨λi i' b hi=>by omega,λi b hi=>by omega,λi b hi=>by omega,λb hb=>hb.elim,λi i' q hi=>by omega,λi q hi=>by omega,az _,⟨hWg,hCh,λb hb=>(OP b hb).1,λb hb=>(tj b hb).1⟩,adT⟩
  ·have:=lt_of_act? I5;omega
  ·have:=lt_size_of_getElem? hop;omega
  ·have:=lt_size_of_getElem? hop;omega
 refine⟨φ.mu (λ_=>.lG) q 0 (.sp r 7) m,gs,w,sl,0,_,_,_,q,0,.sp r 7,m,0,a,0,0,rfl,ha,.Kr (by omega) hk,h.past.hears,cg,jL,?_,by show 0+(r+1)=φ.n;omega,by simp,λi _=>N3,rfl⟩;have:=Mode.opn (j:=0) (D:=jQ (λ_=>.lG)) (tag:=.sp r 7) trivial (λi hi=>by omega) (by simp);simpa[Vc,sumTo,pend]using this
theorem Ph.VB.leave (O:φ.Ok)(hn:0<φ.n)(h0:Co φ.P Shun B0 gs0 q0 t0)(Kw:φ.lo=gs0.size){mc:Machine}(h:φ.VB Goal B0 t0 mc t): ∃(gs:Array ay) (w:ah) (sl:Option (Nat×Nat)) (q:Nat->Nat) (a:ay),mc=crowd gs w sl/\gs[0]? =ae a/\a.status=.running/\Goal a w/\Co φ.P (λb=>Shun b\/b=φ.Wg) w.heap.size gs q t/\B0<=w.heap.size/\ ∀p,p<φ.nj-> ∃o:Nat->Prop,(∀b,o b->B0<=b/\b<w.heap.size)/\φ.JP o p w:=by
 obtain⟨gs,w,sl,γ,S,μ,q,k,a,rfl,ha,cG,Xg,mY,cg,jL,hq,p,hp0,hpa,hpg,hph,hrel⟩:=h;have yQ:=O.yQ;obtain⟨u,hu⟩:=cg.pre;have stay: ∀i,i<φ.n-> ∃g d,gs[φ.lo+i]? =ae g/\S i=.tail d/\QuitsD φ.P d.fuel d.deaf g/\(γ i).over/\ ∃C,(γ i).own C/\ ∀p,(γ i).held p->φ.JP (λb=>(γ i).own b/\b≠C) p w:=by
  intro i hi;obtain⟨g,hg,hs⟩:=cg.wk i hi;have h1:(S i).wd.stage=1:=hq i hi;cases hS:S i with
  |lG=>rw[hS]at hs;exact hs.elim
  |tree x=>rw[hS]at h1;simp[tC.wd]at h1
  |tail d=>rw[hS]at hs h1;obtain⟨C,v,hO,hC,_,hJ,_,_,hW⟩:=hs;exact⟨g,d,hg,rfl,hW.quits h1,hO,C,hC,hJ⟩
 have hk:k=φ.nj:=by obtain⟨g,d,_,_,_,hO,_⟩:=stay 0 hn;exact cg.over 0 hn hO
 have new: ∀i op,t[i]? =ae op->φ.lo<=op.g->(t.counts i-> ∃j,t.g? j=ae 0/\HappensBefore t i j):=by
  intro i op hi hg hc;have bE:=cg.et.gs i op hi;obtain⟨r,hr,hrp,hr0⟩:=hrel (op.g-φ.lo) (by omega);rw[show φ.lo+(op.g-φ.lo)=op.g by omega]at hr;have hgi:t.g? i=ae op.g:=by simp[Trace.g?,hi]
  have edge:HappensBefore t r p:=.single (.inr ⟨.marked hrp (.inr hr.act) hpa (λk hk _=>cg.norel k (by omega)),hr.heard,hph⟩);have hle:i<=r:=Nat.le_of_not_lt λbE=>hr.after i bE hgi hc
  rcases dM i r with bE|va
  ·exact⟨p,hpg,.trans (.single (.inl ⟨bE,op.g,hgi,hr.g⟩)) edge⟩
  ·obtain rfl:i=r:=by omega
   exact⟨p,hpg,edge⟩
 refine⟨gs,w,sl,λi=>if i<φ.lo then q i else(S (i-φ.lo)).wd.fuel,a,rfl,ha,cG,Xg,⟨λi g hi hg=> ?_,⟨cg.et.nr,λi x hx hm=> ?_,λi g hgi dQ hc=> ?_,mY,cg.seen,λi op hi=>by rw[cg.size];exact cg.et.gs i op hi⟩,by rw[cg.size];omega,λb hb=> ?_⟩,cg.gok.sz,λx hx=> ?_⟩
 ·show QuitsD φ.P (if i<φ.lo then q i else(S (i-φ.lo)).wd.fuel) _ g
  split
  ·rename_i bE
   exact cg.old i g hi bE hg
  ·obtain⟨i',rfl⟩: ∃i',i=φ.lo+i':=⟨i-φ.lo,by omega⟩;have bE:i'<φ.n:=by have:=(aL.1 hg).1;rw[cg.size]at this;omega
   obtain⟨g',d,ll,hS,hQ,_⟩:=stay i' bE;rw[hg]at ll;cases ll;rw[cg.deaf i' bE,show φ.lo+i'-φ.lo=i' by omega,hS];exact hQ
 ·obtain⟨op,hop,Va⟩:=touch_of hx;by_cases hz:op.g=0
  ·left;have:=knows_own hop;rwa[hz]at this
  ·rcases dM i t0.size with bE|va
   ·have adO:t0[i]? =ae op:=by rw[hu,getElem?_append_old bE]at hop;exact hop
    rcases h0.past.known i x (by rw[touchAt_of adO];exact Va) hm with h1|⟨⟨b,hb,hs⟩,hk⟩
    ·left;rw[hu];exact h1.app u
    ·exact .inr ⟨⟨b,hb,.inl hs⟩,hk⟩
   ·rcases dM op.g φ.lo with bE|adB
    ·rw[cg.mute i op va hop hz bE]at Va;cases Va
    ·by_cases hc:t.counts i
     ·obtain⟨j,hj,hb⟩:=new i op hop adB hc;left;unfold Trace.g? at hj;obtain⟨z,hz,hzg⟩:=aK.1 hj;exact⟨j,z,hz,hzg,.inr hb⟩
     ·right;have ru:x.kind=.atomic:=Classical.byContradiction λdQ=>hc ⟨x,by simpa[touchAt]using hx,hm,.inl dQ⟩
      obtain⟨ad,hl,BM⟩:=cg.atm i op x va hop hz Va (by rw[ru];decide);exact⟨⟨ad.block,by rw[hl];rfl,.inr BM⟩,ru⟩
 ·unfold Trace.g? at hgi;obtain⟨op,hop,rfl⟩:=aK.1 hgi;rcases dM op.g φ.lo with bE|adB
  ·rcases dM i t0.size with hl|va
   ·have adO:t0[i]? =ae op:=by rw[hu,getElem?_append_old hl]at hop;exact hop
    obtain⟨j,hj,hb⟩:=h0.past.over i op.g (by simp[Trace.g?,adO]) dQ ((counts_old (u:=u) hl).1 (by rw[<-hu];exact hc));have ry:j<t0.size:=by unfold Trace.g? at hj;obtain⟨z,hz,_⟩:=aK.1 hj;exact lt_size_of_getElem? hz
    exact⟨j,by rw[hu];simpa[Trace.g?,getElem?_append_old ry]using hj,by rw[hu];exact hb_app u hb⟩
   ·obtain⟨x,hx,_⟩:=hc;have L4:op.act.touch? =ae x:=by simpa[Trace.act?,hop]using hx
    rw[cg.mute i op va hop dQ bE]at L4;cases L4
  ·exact new i op hop adB hc
 ·rcases hb with hb|rfl
  ·have:=h0.Uh b hb;have:=cg.gok.sz;omega
  ·have:=cg.gok.B.1;have:=cg.gok.sz;omega
 ·subst hk;obtain⟨i,hi,hh⟩:=cg.done x hx;obtain⟨g,d,_,_,_,_,C,_,hJ⟩:=stay i hi;exact⟨_,λb hb=>cg.gok.Cr i b hi hb.1,hJ x hh⟩
end
end Rel
section
open Go.RowKit
theorem eF {k:IntKind}{a b:Int}(h:a=b):Ending.returned (.int k a)=.returned (.int k b):=by rw[h]
theorem dv {a b:Bool}(h:a=b):Ending.returned (.bool a)=.returned (.bool b):=by rw[h]
def dq (w:ah)(g:Nat)(t:aF)(cs:Array aq):Prop:=w.heap[g]? =ae (.cells cs t (0,0))
section
variable {w w':ah} {g:Nat} {t:aF} {cs:Array aq}
theorem dq.lt (h:dq w g t cs):g<w.heap.size:=(aL.1 h).1
theorem dq.cell (h:dq w g t cs)(i:Nat):w.cell? ⟨g,i,ai⟩=cs[i]?:=cell_of_row w g i cs t (0,0) h
theorem dq.frozen (h:dq w g t cs)(i:Nat):w.frozen? ⟨g,i,ai⟩=aw:=by unfold dq at h;simp[World.frozen?,h]
theorem dq.new (w:ah)(t:aF)(cs:Array aq):dq (w.alloc (.cells cs t)) w.heap.size t cs:=heap_alloc_new w _
theorem dq.drew (h:dq w g t cs):dq w.drew g t cs:=h
theorem dq.alloc (h:dq w g t cs)(o:Obj):dq (w.alloc o) g t cs:=(Below.heap_alloc w o g h.lt).trans h
theorem dq.below {B:Nat}(h:dq w g t cs)(hb:Below B w w')(hg:g<B):dq w' g t cs:=(hb.block g hg).trans h
theorem dq.after (h:dq w g t cs)(hb:Below w.heap.size w w'):dq w' g t cs:=h.below hb h.lt
theorem aha (w:ah)(t1 t2 t3:aF)(c1 c2 c3:Array aq):dq (((w.alloc (.cells c1 t1)).alloc (.cells c2 t2)).alloc (.cells c3 t3)) w.heap.size t1 c1/\dq (((w.alloc (.cells c1 t1)).alloc (.cells c2 t2)).alloc (.cells c3 t3)) (w.heap.size+1) t2 c2/\dq (((w.alloc (.cells c1 t1)).alloc (.cells c2 t2)).alloc (.cells c3 t3)) (w.heap.size+1+1) t3 c3:=
 ⟨((dq.new w t1 c1).alloc _).alloc _,by have:=(dq.new (w.alloc (.cells c1 t1)) t2 c2).alloc (.cells c3 t3);simpa using this,
   by have:=dq.new ((w.alloc (.cells c1 t1)).alloc (.cells c2 t2)) t3 c3;simpa using this⟩
theorem ag' (w:ah)(t1 t2:aF)(c1 c2:Array aq):dq ((w.alloc (.cells c1 t1)).alloc (.cells c2 t2)) w.heap.size t1 c1/\dq ((w.alloc (.cells c1 t1)).alloc (.cells c2 t2)) (w.heap.size+1) t2 c2:=⟨(dq.new w t1 c1).alloc _,by have:=dq.new (w.alloc (.cells c1 t1)) t2 c2;simpa using this⟩
end
theorem Ep {P:aS}{w:ah}{ops:Array Oper}{rest:List Oper}{o:Oper}{a:Act}{Q:Exit->Act->ah->Prop}(qv:o.guard=ai)(s x:cw)(t:aF)(ho:o.op=.call {callee:=.builtin .append,args:= #[s,x],argTypes:= #[t,t]})(base:Nat)(e:aF)(i:TypeInfo)(z:aq)(size bytes:Nat)(ht:P.underlying t=ae (.slice e))(hi:P.info? e=ae i)(hz:i.zero=ae z)(vg:i.size=size)(LH:i.bytes=bytes)(Q8:z.cells.size=size)(km:0<size)(v:aq)(n:Nat)(xs:List aq)(hs:a.eval s=v)(gZ:w.ownsRow base e size v n xs)(news:List aq)(hx:a.eval x=.slice (ae ⟨w.heap.size,0,ai⟩) 1 1)(hl:news.length=size)(h1: ∀u∈news,u.oneCell'=aA)(W1:n+1<=maxLen)(qu:(n+1)*bytes<=140737488355328)(GK:base<=w.heap.size)(h: ∀v' w',w'.ownsRow base e size v' (n+1) (xs++news)->(w.alloc (.cells news.toArray e)).grownBy w' v.ownBlock->Below base w w'->wpList P ops Q rest (a.put o.dst v') w'):wpList P ops Q (o::rest) a (w.alloc (.cells news.toArray e)):=by
 refine wpList_append_own _ qv s x t ho base e i z size bytes ht hi hz vg LH Q8 km v n xs hs (gZ.alloc _) ⟨w.heap.size,0,ai⟩ 1 1 news hx (by rw[hl,jR]) ?_ h1 W1 qu (by simp;omega) ?_
 ·intro j u hu;rw[show(⟨w.heap.size,0,ai⟩:Addr).add j=⟨w.heap.size,j,ai⟩from by unfold Addr.add;split<;>simp_all];rw[cell_of_row _ w.heap.size j news.toArray e (0,0) (heap_alloc_new w _)];simpa using hu
 ·intro v' w' Ba hg _;refine h v' w' Ba hg (((Below.refl base w).alloc GK _).grown hg (by simp;omega) ?_);intro k hk;exact(gZ.lt k hk).1
def Reads (w:ah)(B size:Nat)(A:Option Addr)(n:Nat)(xs:List aq):Prop:=xs.length=n*size/\(0<n-> ∃b o,A=ae ⟨b,o,ai⟩/\b<B/\ ∀j u,xs[j]? =ae u->w.cell? ⟨b,o+j,ai⟩=ae u)
section
variable {w w':ah} {B B' size n:Nat} {A:Option Addr} {xs:List aq}
theorem Reads.keep (h:Reads w B size A n xs)(hk: ∀b o,b<B->w'.cell? ⟨b,o,ai⟩=w.cell? ⟨b,o,ai⟩):Reads w' B size A n xs:=⟨h.1,λhn=>by obtain⟨b,o,e,hb,hc⟩:=h.2 hn;exact⟨b,o,e,hb,λj u hu=>(hk _ _ hb).trans (hc j u hu)⟩⟩
theorem Reads.below (h:Reads w B size A n xs)(hb:Below B w w'):Reads w' B size A n xs:=h.keep λb o hp=>hb.cell (p:=⟨b,o,ai⟩) hp
theorem Reads.more (h:Reads w B size A n xs)(hB:B<=B'):Reads w B' size A n xs:=⟨h.1,λhn=>by obtain⟨b,o,e,hb,hc⟩:=h.2 hn;exact⟨b,o,e,by omega,hc⟩⟩
theorem Reads.Ya {base:Nat}{e:aF}{c:Nat}(h:w.ownsRow base e size (.slice A n c) n xs):Reads w w.heap.size size A n xs:=by
 refine⟨h.1,λhn=> ?_⟩;rcases h.2 with⟨_,h0⟩|⟨g,cap,cur,hv,hbg,hg,_⟩
 ·omega
 ·have bE:=(aL.1 hg).1;have hA:A=ae ⟨g,0,ai⟩:=by injection hv
  refine⟨g,0,hA,bE,λj u hu=> ?_⟩;have:=h.cells (g:=g) (by rw[hA];rfl) j u hu;rwa[Addr.add_lit]at this
theorem Reads.at1 {k:Nat}(h:Reads w B 1 A n xs)(hk:k<n): ∃b o u,A=ae ⟨b,o,ai⟩/\b<B/\xs[k]? =ae u/\w.cell? ⟨b,o+k,ai⟩=ae u:=by
 obtain⟨b,o,e,hb,hc⟩:=h.2 (by omega);have hl:k<xs.length:=by have:=h.1;omega
 exact⟨b,o,xs[k],e,hb,ao hl,hc k _ (ao hl)⟩
end
def gQ (w:ah)(B:Nat)(A:Option Addr)(n:Nat)(zs:List Int):Prop:=Reads w B 1 A n (zs.map (aZ .i64))
theorem gQ.len {w:ah}{B:Nat}{A:Option Addr}{n:Nat}{zs:List Int}(h:gQ w B A n zs):zs.length=n:=by have:=h.1;simpa using this
theorem gQ.at_ {w:ah}{B:Nat}{A:Option Addr}{n k:Nat}{zs:List Int}(h:gQ w B A n zs)(hk:k<n): ∃b o,A=ae ⟨b,o,ai⟩/\b<B/\ ∃h:k<zs.length,w.cell? ⟨b,o+k,ai⟩=ae (.int .i64 zs[k]):=by obtain⟨b,o,u,e,hb,hu,hc⟩:=Reads.at1 h hk;have hl:=h.len;refine⟨b,o,e,hb,by omega,?_⟩;rw[dK,ao (by omega)]at hu;simp at hu;rw[hc,hu]
theorem gQ.below {w w':ah}{B:Nat}{A:Option Addr}{n:Nat}{zs:List Int}(h:gQ w B A n zs)(hb:Below B w w'):gQ w' B A n zs:=Reads.below h hb
theorem gQ.more {w:ah}{B B':Nat}{A:Option Addr}{n:Nat}{zs:List Int}(h:gQ w B A n zs)(hB:B<=B'):gQ w B' A n zs:=Reads.more h hB
def pC (w:ah)(B:Nat)(v:aq)(zs:List Int):Prop:=w.ownsRow B 3 1 v zs.length (zs.map (aZ .i64))
theorem pC.nil (w:ah)(B:Nat):pC w B (.slice ai 0 0) []:=World.ownsRow_nil _ _ _ _
theorem pC.form {w:ah}{B:Nat}{v:aq}{zs:List Int}(h:pC w B v zs): ∃A c,v=.slice A zs.length c/\gQ w w.heap.size A zs.length zs:=by
 rcases h.2 with⟨rfl,h0⟩|⟨g,cap,cur,rfl,r⟩
 ·have:zs=[]:=gg h0;subst this;exact⟨ai,0,rfl,by simp,by simp⟩
 ·exact⟨_,_,rfl,Reads.Ya (c:=cap) h⟩
theorem pC.kept {w w':ah}{B:Nat}{v:aq}{zs:List Int}(h:pC w B v zs)(hb:Below w.heap.size w w'):pC w' B v zs:=World.ownsRow.kept (row:=ai) h ⟨hb.os,hb.tape,hb.output,hb.size,λk hk _=>hb.block k hk⟩ (by cases v.ownBlock<;>simp)
def VP (w:ah)(zs:List Int)(e:Ending)(w':ah):Prop:= ∃v,e=.returned v/\pC w' w.heap.size v zs/\Below w.heap.size w w'
theorem Ma:(Tryz.prog.info? 3).map (λi=>(i.zero,i.size,i.bytes))=ae (ae (.int .i64 0),1,8):=by kernel_rfl
theorem ur {w:ah}{ops:Array Oper}{rest:List Oper}{o:Oper}{a:Act}{Q:Exit->Act->ah->Prop}(qv:o.guard=ai)(s x:cw)(ho:o.op=.call {callee:=.builtin .append,args:= #[s,x],argTypes:= #[32,32]})(base:Nat)(v:aq)(zs:List Int)(hs:a.eval s=v)(gZ:pC w base v zs)(y:Int)(hx:a.eval x=.slice (ae ⟨w.heap.size,0,ai⟩) 1 1)(hlen:zs.length+1<=17592186044416)(GK:base<=w.heap.size)(h: ∀v' w',pC w' base v' (zs++[y])->(w.alloc (.cells #[.int .i64 y] 3)).grownBy w' v.ownBlock->Below base w w'->wpList Tryz.prog ops Q rest (a.put o.dst v') w'):wpList Tryz.prog ops Q (o::rest) a (w.alloc (.cells #[.int .i64 y] 3)):=by obtain⟨i0,qX,uH,vi,uC⟩:=info_parts Ma;refine Ep qv s x 32 ho base 3 i0 (.int .i64 0) 1 8 Tryz.underlying32 qX uH vi uC rfl (by decide) v zs.length _ hs gZ [.int .i64 y] hx rfl (by simp[jm]) (by unfold maxLen;omega) (by omega) GK ?_;intro v' w' h1 h2 h3;exact h v' w' (by unfold pC;rw[bM,dX];exact h1) h2 h3
end
section
open Go.RowKit
structure After (W:ah)where
 w:ah
 below:Below W.heap.size W w
instance (W:ah):Nonempty (After W):=⟨⟨W,Below.refl _ _⟩⟩
theorem After.cell {W:ah}{b o:Nat}{v:aq}(h:W.cell? ⟨b,o,ai⟩=ae v)(n:After W):n.w.cell? ⟨b,o,ai⟩=ae v:=(n.below.cell (p:=⟨b,o,ai⟩) (qV W _ h)).trans h
theorem gT {P:aS}{f:bQ}{args:Array aq}{W:ah}{n:After W}{v:aq}(h:Calls P f args n.w λe w'=>e=.returned v/\Below n.w.heap.size n.w w'):Calls P f args n.w λe w''=>e=.returned v/\ ∃m:After W,w''=m.w:=h.mono λ_ w' ⟨he,hb⟩=>⟨he,⟨w',n.below.trans (hb.mono n.below.size)⟩,rfl⟩
theorem bU {P:aS}{id:Nat}{Q:Exit->Act->ah->Prop}{a:Act}{w:ah}{l:List Oper}(hm:P.follows .mixedOrders=aA)(hB:Region.lexB .any l.toArray=aA)(h:wpQuiet P l.toArray (λw'=> ∃n:After w,w'=n.w) (λa'=> ∀w',(∃n:After w,w'=n.w)->Q .normal a' w') l a):(Code.region id l.toArray aA).wp P Q a w:=wp_region_quiet (C:=λw'=> ∃n:After w,w'=n.w) hm hB ⟨⟨_,(Below.refl _ _).drew⟩,rfl⟩ (by simpa using h)
end
section
open Go.RowKit
theorem Mt (m a b c:Int)(w:ah):Calls Tryz.prog 89 #[.int .i64 m,.agg #[.int .i64 a,.int .i64 b,.int .i64 c]] w λe w'=>e=.returned (.bool (lz m a b c))/\Below w.heap.size w w':=by
 by_cases ha:bits .and .i64 m a=a
 ·by_cases hb:bits .and .i64 m b=0
  ·by_cases hc:c=0
   ·have hv:Hid (lz m a b c=aA):=by simp[Hid,lz,ha,hb,hc]
    subst hc
    go_enter Tryz.func89,Tryz.ntmps89
    go_wp2
    all_goals go_ret
    all_goals exact⟨dv hv.out.symm,(Below.refl _ _).alloc (az _) _⟩
   ·have hv:Hid (lz m a b c=(c==0||bits .and .i64 m c !=0)):=by simp[Hid,lz,ha,hb]
    go_enter Tryz.func89,Tryz.ntmps89
    go_wp2
    all_goals go_ret
    all_goals exact⟨dv hv.out.symm,(Below.refl _ _).alloc (az _) _⟩
  ·have hv:Hid (lz m a b c=aw):=by simp[Hid,lz,ha,hb]
   go_enter Tryz.func89,Tryz.ntmps89
   go_wp2
   all_goals go_ret
   all_goals exact⟨dv hv.out.symm,(Below.refl _ _).alloc (az _) _⟩
 ·have hv:Hid (lz m a b c=aw):=by simp[Hid,lz,ha]
  go_enter Tryz.func89,Tryz.ntmps89
  go_wp2
  all_goals go_ret
  all_goals exact⟨dv hv.out.symm,(Below.refl _ _).alloc (az _) _⟩
theorem MC:Lib.ntz8tab.size=256:=by decide+kernel
theorem abf: ∀b:Fin 256,(Lib.ntz8tab[b.val]'(by rw[MC];exact b.isLt)).toNat=tz8 b.val:=by decide+kernel
theorem aeq: ∀b:Fin 256,tz8 b.val<=8:=by decide+kernel
theorem aer (b:Nat)(w:ah)(hb:b<256):Calls Tryz.prog 145 #[.int .u8 b] w λe w'=>e=.returned (.int .i64 (tz8 b))/\w=w':=by
 have hs:b<Lib.ntz8tab.size:=by rw[MC];exact hb
 have h:Hid (Lib.ntz8tab[b].toNat=tz8 b/\tz8 b<=8):=⟨abf ⟨b,hb⟩,aeq ⟨b,hb⟩⟩;clear hb
 go_enter Tryz.func145,Tryz.ntmps145
 go_wp2
 go_ret;refine⟨eF ?_,rfl⟩;rw[h.out.1];have:=h.out.2;unfold wrap64;omega
def m8 (m:Int):Nat:=(m % 256).toNat
theorem agm (m:Int):m8 m<256:=by unfold m8;omega
theorem aa5 (m:Int):((m8 m:Nat):Int)=m % 256:=by unfold m8;omega
theorem aes: ∀n:Fin 256,n.val≠0->bits .and .u8 (n.val:Int) ((n.val:Int)-1)=((low n.val:Nat):Int):=by decide+kernel
def eE (m:Nat):List Int:=(kinds m).map Int.ofNat
theorem O4 (m:Nat):(eE m).length<=8:=by unfold eE;rw[List.length_map];exact pQ m
theorem vm (m:Int)(w:ah):Calls Tryz.prog 88 #[.int .i64 m] w (VP w (eE (m8 m))):=by
 have hm:Hid (((m8 m:Nat):Int)=m % 256):=aa5 m;have bE:=agm m
 go_enter Tryz.func88,Tryz.ntmps88
 go_wp2_with fail
 go_loopw [3,4] (λout b wr=> ∃(n:Nat) (xs:List Int),n<256/\b=.int .u8 n/\xs++eE n=eE (m8 m)/\pC wr w.heap.size out xs/\Below w.heap.size w wr) (λ_ b _=>(intOf b).toNat)
 case atStart=>exact⟨m8 m,[],bE,by rw[hm.out],rfl,pC.nil _ _,Below.refl _ _⟩
 case round=>
  obtain⟨n,xs,hn,rfl,Q7,gZ,hb⟩:=hrel;have XH:xs.length+(eE n).length<=8:=by have:=congrArg List.length Q7;have h2:=O4 (m8 m);simp at this;omega
  have HX:=af Q7;clear Q7;by_cases h0:n=0
  ·subst h0
   go_wp2_with fail
   go_ret;have Q7:=HX.out;rw[show eE 0=[]from by rw[eE,O6];rfl,eN]at Q7;subst Q7;exact⟨_,rfl,gZ,hb⟩
  ·have dQ:((n:Int)==0)=aw:=by simp;omega
   have hu:=af (aes ⟨n,hn⟩ h0);obtain⟨hk,hl⟩:=O5 n hn h0;have HK:=af hk;clear hk
   go_wp2_with fail
   refine(aer n _ hn).mono ?_;rintro e w' ⟨rfl,rfl⟩
   go_wp2_with (at_builtin;refine ur rfl _ _ rfl w.heap.size _ xs rfl gZ _ rfl ?_ ?_ ?_)
   case refine_1=>omega
   case refine_2=>exact hb.size
   intro v' w1 LP _ lf
   go_wp2_with fail
   go_roundw
   case rel=>
    refine⟨low n,xs++[Int.ofNat (tz8 n)],by omega,?_,?_,LP,hb.trans lf⟩
    ·rw[hu.out]
    ·rw[<-HX.out];show _=xs++(kinds n).map Int.ofNat;rw[HK.out];simp[eE]
   case measure=>rw[hu.out];simp[intOf];omega
theorem aay (A A':Option Addr)(n n' c c':Nat)(zs ys:List Int)(w:ah)(B B':Nat)(h:gQ w B A n zs)(h':gQ w B' A' n' ys)(hn:n<=maxLen)(Q0:n'<=maxLen):Calls Tryz.prog 17 #[.slice A n c,.slice A' n' c'] w λe w'=>e=.returned (.bool (decide (zs=ys)))/\w=w':=by
 unfold maxLen at hn Q0;have hl:=af h.len;have OH:=af h'.len;have H:=af h;have H':=af h';clear h h';by_cases hnn:n=n'
 ·subst hnn
  go_enter Tryz.func17,Tryz.ntmps17
  go_wp2_with fail
  go_loop [14] (λi=> ∃k:Nat,k<=n/\i=.int .i64 k/\zs.take k=ys.take k) (λi=>n-(intOf i).toNat)
  case atStart=>exact⟨0,bS _,rfl,by simp⟩
  case round=>
   obtain⟨k,hk,rfl,wM⟩:=hrel;have HN:=af wM;clear wM;by_cases bE:k<n
   ·obtain⟨b,o,rfl,_,QY,hc⟩:=H.out.at_ bE;obtain⟨b',o',rfl,_,ahH,OC⟩:=H'.out.at_ bE;by_cases hx:zs[k]=ys[k]
    ·have hxe:(zs[k] !=ys[k])=aw:=by simpa using hx
     have HF:Hid (zs.take (k+1)=ys.take (k+1)):=by unfold Hid;rw[aR QY,aR ahH,HN.out,hx]
     clear hx
     go_wp2
     go_round
     case rel=>exact⟨k+1,by omega,by go_num,HF.out⟩
     case measure=>simp[intOf];omega
    ·have hxe:(zs[k] !=ys[k])=aA:=by simpa using hx
     have HF:Hid (decide (zs=ys)=aw):=by unfold Hid;rw[decide_eq_false_iff_not];rintro rfl;exact hx rfl
     clear hx
     go_wp2
     go_ret;exact⟨dv HF.out.symm,rfl⟩
   ·have zF:k=n:=by omega
    subst zF;have HF:Hid (decide (zs=ys)=aA):=by have h1:=HN.out;rw[cI (by rw[hl.out];omega),cI (by rw[OH.out];omega)]at h1;unfold Hid;rw[h1];simp
    go_wp2
    go_ret;exact⟨dv HF.out.symm,rfl⟩
 ·have dQ:((n:Int) !=n')=aA:=by simp;omega
  have HF:Hid (decide (zs=ys)=aw):=by unfold Hid;rw[decide_eq_false_iff_not];rintro rfl;exact hnn (hl.out.symm.trans OH.out)
  go_enter Tryz.func17,Tryz.ntmps17
  go_wp2
  go_ret;exact⟨dv HF.out.symm,rfl⟩
end
section
open Go.RowKit
def XK (x:Int)(zs:List Int):Int:=if x∈zs then(zs.idxOf x:Int)else-1
theorem adX {x:Int}{zs:List Int}{k:Nat}(hk:k<zs.length)(h: ∀j,j<k->zs.getD j 0≠x)(e:zs.getD k 0=x):XK x zs=k:=by
 have hm:x∈zs:=by rw[<-e];simp[bp,hk]
 unfold XK;rw[if_pos hm];congr 1;have h1:zs.idxOf x<zs.length:=List.idxOf_lt_length_of_mem hm;have h2:zs[zs.idxOf x]=x:=List.getElem_idxOf h1;have e':zs[k]=x:=by rw[<-e];simp[bp,hk]
 rcases Nat.lt_trichotomy (zs.idxOf x) k with bE|heq|hgt
 ·exact absurd (by rw[show zs.getD (zs.idxOf x) 0=zs[zs.idxOf x]by simp[bp,h1]];exact h2) (h _ bE)
 ·exact heq
 ·exfalso;have:=List.not_of_lt_findIdx (p:=(· ==x)) (xs:=zs) (i:=k) hgt;simp[e']at this
theorem XL {x:Int}{zs:List Int}(h: ∀j,j<zs.length->zs.getD j 0≠x):XK x zs= -1:=by unfold XK;rw[if_neg];intro hm;obtain⟨i,hi,e⟩:=dp.1 hm;exact h i hi (by simp[bp,hi,e])
theorem OV (A:Option Addr)(c:Nat)(zs:List Int)(x:Int)(w:ah)(h:gQ w w.heap.size A zs.length zs)(hn:zs.length<=maxLen):Calls Tryz.prog 91 #[.slice A zs.length c,.int .i64 x] w λe w'=>e=.returned (.int .i64 (XK x zs))/\w=w':=by
 have H:=af h;have ZK:(zs.length:Int)<=9223372036854775807:=by unfold maxLen at hn;omega
 clear h
 go_enter Tryz.func91,Tryz.ntmps91
 go_wp2_with fail
 go_loopw [8] (λi w'=> ∃k:Nat,k<=zs.length/\i=.int .i64 k/\(∀j,j<k->zs.getD j 0≠x)/\w=w') (λi _=>zs.length-(intOf i).toNat)
 case atStart=>exact⟨0,by omega,rfl,λj hj=>by omega,rfl⟩
 case round=>
  obtain⟨k,hk,rfl,qq,rfl⟩:=hrel;have mW:=af qq;clear qq;by_cases bE:k<zs.length
  ·have xH:(k:Int)<zs.length:=by omega
   obtain⟨g,o,rfl,I8,yM,rh⟩:=H.out.at_ bE;have qv:Hid (zs.getD k 0=zs[k]):=by simp[Hid,bp,ao bE]
   have SU:Hid (zs[k]=x->XK x zs=k):=λh=>adX bE mW.out (qv.out.trans h)
   generalize zs[k]=y at*;by_cases hx:x=y
   ·have Ix:Hid (XK x zs=k):=SU.out hx.symm;have hxe:(x==y)=aA:=by simpa using hx
    clear hx SU
    go_wp2_with fail
    go_ret;exact⟨eF Ix.out.symm,rfl⟩
   ·have hxe:(x==y)=aw:=by simpa using hx
    have HP:Hid (y≠x):=λe=>hx e.symm
    clear hx SU
    go_wp2_with fail
    go_roundw
    case rel=>
     refine⟨k+1,by omega,by go_num,λj hj=> ?_,trivial⟩;by_cases tQ:j=k
     ·rw[tQ,qv.out];exact HP.out
     ·exact mW.out j (by omega)
    case measure=>simp[intOf];omega
  ·have Fg:k=zs.length:=by omega
   subst Fg;have Ix:Hid (XK x zs= -1):=XL mW.out
   go_wp2_with fail
   go_ret;exact⟨eF Ix.out.symm,rfl⟩
theorem FB (A:Option Addr)(c:Nat)(zs:List Int)(x:Int)(w:ah)(h:gQ w w.heap.size A zs.length zs)(hn:zs.length<=maxLen):Calls Tryz.prog 40 #[.slice A zs.length c,.int .i64 x] w λe w'=>e=.returned (.bool (decide (x∈zs)))/\w=w':=by
 have HI:=af (OV A c zs x w h hn);have hd:Hid (decide (0<=XK x zs)=decide (x∈zs)):=by
  unfold Hid XK
  split<;>rename_i hm<;>simp[hm]
 clear h;generalize XK x zs=y at*
 go_enter Tryz.func40,Tryz.ntmps40
 go_wp2_with fail
 refine HI.out.mono ?_;rintro e w' ⟨rfl,rfl⟩
 go_wp2_with fail
 go_ret;exact⟨dv hd.out,rfl⟩
end
section
open Go.RowKit
def ints (xs:List Int):Array aq:=(xs.map (aZ .i64)).toArray
theorem bJ (xs:List Int):(ints xs).size=xs.length:=by simp[ints]
theorem kM (xs:List Int)(i:Nat):(ints xs)[i]? =xs[i]?.map (aZ .i64):=by simp[ints]
theorem ints_at {xs:List Int}{i:Nat}(h:i<xs.length):(ints xs)[i]? =ae (.int .i64 xs[i]):=by rw[kM,ao h];rfl
theorem ints_set (xs:List Int)(i:Nat)(x:Int):(ints xs).setIfInBounds i (.int .i64 x)=ints (xs.set i x):=by unfold ints;rw[List.setIfInBounds_toArray,List.map_set]
theorem Mb {xs ys:List Int}(h:ints xs=ints ys):xs=ys:=by have h2:=List.map_inj_right (f:=aZ .i64) (l:=xs) (l':=ys) (λa b e=>by injection e);exact h2.1 (by simpa[ints]using h)
theorem iH (xs:List Int):(ints xs).toList=xs.map (aZ .i64):=by simp[ints]
def row? (w:ah)(g o n:Nat):Option (Array aq):=
 match w.heap[g]? with
 |some (.cells cs _ _)=>if o+n<=cs.size then ae (cs.extract o (o+n))else ai
 |_=>ai
theorem dq.row {w:ah}{g:Nat}{t:aF}{cs:Array aq}(h:dq w g t cs)(o n:Nat)(hn:o+n<=cs.size):row? w g o n=ae (cs.extract o (o+n)):=by unfold dq at h;simp[row?,h,hn]
theorem dq.bt {w:ah}{g:Nat}{t:aF}{xs:List Int}(h:dq w g t (ints xs)){n:Nat}(hn:xs.length=n):row? w g 0 n=ae (ints xs):=by rw[dq.row h 0 n (by rw[bJ];omega),aC,<-hn,<-bJ,Array.extract_size]
theorem dq.eb {w:ah}{g:Nat}{t:aF}{xs:List Int}(h:dq w g t (ints xs))(o n:Nat)(hn:o+n<=xs.length):row? w g o n=ae (ints ((xs.drop o).take n)):=by rw[dq.row h o n (by rw[bJ];omega)];congr 1;apply Array.ext';rw[Array.toList_extract,iH,iH,List.extract_eq_take_drop,ki,List.map_take,List.map_drop]
theorem dq.set {w:ah}{g:Nat}{t:aF}{cs:Array aq}(h:dq w g t cs)(i:Nat)(v:aq):dq (w.setCell ⟨g,i,ai⟩ v) g t (cs.setIfInBounds i v):=by unfold dq at h⊢;simp[dA,bw,h]
theorem dq.FD {w:ah}{g g':Nat}{t:aF}{cs:Array aq}(h:dq w g t cs)(dQ:g≠g')(i:Nat)(v:aq):dq (w.setCell ⟨g',i,ai⟩ v) g t cs:=(Below.heap_setCell w ⟨g',i,ai⟩ v g dQ).trans h
def jb (t:aF)(a:Addr):Sem aq:=loadVar t a
section
variable {P:aS}
theorem Ag (w:ah)(g o:Nat)(cs:Array aq)(t:aF)(fr:Nat×Nat)(hg:w.heap[g]? =ae (.cells cs t fr))(n:Nat)(hn:o+n<=cs.size):(loadCells ⟨g,o,ai⟩ n).run P w=.ok (cs.extract o (o+n)) w:=by
 have h:=run_loadCells_list (P:=P) w ⟨g,o,ai⟩ (cs.extract o (o+n)).toList (λj v hv=>by
  rw[Addr.add_lit,cell_of_row w g (o+j) cs t fr hg];rw[Array.getElem?_toList]at hv;rw[Array.getElem?_extract]at hv
  split at hv
  ·exact hv
  ·cases hv)
 have hs:(cs.extract o (o+n)).toList.length=n:=by simp;omega
 rw[hs,Array.toArray_toList]at h;exact h
theorem BV (w:ah)(ty:aF)(g o n:Nat)(d:TypeDesc)(hu:P.underlying ty=ae d)(hd:(match d with| .struct _| .array _ _=>aA|_=>aw)=aA)(hi:(P.info? ty).map (·.size)=ae n):(loadVar ty ⟨g,o,ai⟩).run P w=match row? w g o n with|some cs=>.ok (.agg cs) w|none=>(jb ty ⟨g,o,ai⟩).run P w:=by
 split
 ·rename_i cs hr
  unfold row? at hr
  split at hr
  ·rename_i cs' t fr hg
   split at hr
   ·rename_i hn
    have hl:=Ag (P:=P) w g o cs' t fr hg n hn;cases hq:P.info? ty with
    |none=>simp[hq]at hi
    |some i=>
     have hs:i.size=n:=by simpa[hq]using hi
     have Xc:(isAgg ty).run P w=.ok aA w:=by unfold isAgg;rw[eo,run_underlying hu w];cases d<;>simp_all
     simp only[dz]at hr;simp[loadVar,eo,Xc,sizeOf,typeInfo,hq,hs,hl,hr]
   ·cases hr
  ·cases hr
 ·rfl
end
def fe (t:aF)(v:aq):Sem aq:=dN t v
def fits (w:ah)(g o n:Nat):Bool:=
 match w.heap[g]? with
 |some (.cells cs _ (0,0))=>decide (o+n<=cs.size)
 |_=>aw
def putRow (w:ah)(g o:Nat)(xs:List Int):ah:=
 {w with heap:=w.heap.modify g λ
    | .cells cs e fr=>.cells (cs.toList.take o++xs.map (aZ .i64)++cs.toList.drop (o+xs.length)).toArray e fr
    |o=>o}
def de (t:aF)(p v:aq):Sem Unit:=eM t p v
def dT (t:aF)(g o:Nat)(v:aq):Sem Unit:=storeVar t ⟨g,o,ai⟩ v
theorem dq.fits {w:ah}{g:Nat}{t:aF}{cs:Array aq}(h:dq w g t cs)(o n:Nat)(hn:o+n<=cs.size):fits w g o n=aA:=by unfold dq at h;unfold Go.Proofs.YtknejlcijdngoaaGreat.fits;rw[h];simpa using hn
theorem dq.put {w:ah}{g:Nat}{t:aF}{ys:List Int}(h:dq w g t (ints ys))(o:Nat)(xs:List Int):dq (putRow w g o xs) g t (ints (ys.take o++xs++ys.drop (o+xs.length))):=by unfold dq at h⊢;simp[putRow,bw,h,iH];simp[ints]
theorem dq.fc {w:ah}{g:Nat}{t:aF}{ys:List Int}(h:dq w g t (ints ys))(xs:List Int)(hl:xs.length=ys.length):dq (putRow w g 0 xs) g t (ints xs):=by have:=h.put 0 xs;rwa[List.take_zero,cL,aC,hl,List.drop_length,eN]at this
@[go_sem] theorem WH (w:ah)(cs:Array aq)(t:aF)(o n:Nat):Go.Proofs.YtknejlcijdngoaaGreat.fits (w.alloc (.cells cs t)) w.heap.size o n=decide (o+n<=cs.size):=by
  have h:(w.alloc (.cells cs t)).heap[w.heap.size]? =ae (.cells cs t (0,0)):=heap_alloc_new w _;unfold Go.Proofs.YtknejlcijdngoaaGreat.fits;rw[h]
  rfl
attribute [go_sem] bJ
@[go_sem] theorem agC (w:ah)(g o n:Nat):row? w.drew g o n=row? w g o n:=rfl
@[go_sem] theorem aeI (w:ah)(g o n:Nat):Go.Proofs.YtknejlcijdngoaaGreat.fits w.drew g o n=Go.Proofs.YtknejlcijdngoaaGreat.fits w g o n:=rfl
@[go_sem] theorem putRow_drew (w:ah)(g o:Nat)(xs:List Int):putRow w.drew g o xs=(putRow w g o xs).drew:=rfl
theorem fH (w:ah)(g o:Nat)(xs:List Int)(k:Nat)(h:k≠g):(putRow w g o xs).heap[k]? =w.heap[k]?:=by simp[putRow,bw,Ne.symm h]
theorem dq.yZ {w:ah}{g g':Nat}{t:aF}{cs:Array aq}(h:dq w g t cs)(o:Nat)(xs:List Int)(dQ:g≠g'):dq (putRow w g' o xs) g t cs:=(fH w g' o xs g dQ).trans h
theorem kp (w:ah)(g o:Nat)(xs:List Int):(putRow w g o xs).heap.size=w.heap.size:=by simp[putRow]
theorem lM {B:Nat}{a w:ah}(h:Below B a w){g:Nat}(hg:B<=g)(o:Nat)(xs:List Int):Below B a (putRow w g o xs):=h.trans ⟨rfl,rfl,rfl,by rw[kp];exact az _,λk hk=>fH w g o xs k (by omega)⟩
section
variable {P:aS}
theorem fO (w:ah)(ty:aF)(g o n:Nat)(d:TypeDesc)(hu:P.underlying ty=ae d)(hd:(match d with| .struct _| .array _ _=>aA|_=>aw)=aA)(hi:(P.info? ty).map (·.size)=ae n):(fe ty (.pointer (ae ⟨g,o,ai⟩))).run P w=match row? w g o n with|some cs=>.ok (.agg cs) w|none=>(jb ty ⟨g,o,ai⟩).run P w:=BV w ty g o n d hu hd hi
theorem gK (w:ah)(ty:aF)(g o n:Nat)(xs:List Int)(hi:(P.info? ty).map (·.size)=ae n):(de ty (.pointer (ae ⟨g,o,ai⟩)) (.agg (ints xs))).run P w=if fits w g o n=aA/\xs.length=n then .ok () (putRow w g o xs)else(dT ty g o (.agg (ints xs))).run P w:=by
 split
 ·rename_i h
  obtain⟨hf,hl⟩:=h;unfold fits at hf
  split at hf
  ·rename_i cs e hg
   have hn:o+n<=cs.size:=by simpa using hf
   cases hq:P.info? ty with
   |none=>simp[hq]at hi
   |some i=>
    have hs:i.size=n:=by simpa[hq]using hi
    have gI:=run_storeCells_at P g o e (xs.map (aZ .i64)) 0 cs w hg (by simp;omega) (by intro v hv;obtain⟨x,_,rfl⟩:=aN.1 hv;rfl);have hlen:(ints xs).size=i.size:=by rw[bJ];omega
    simp only[de,eM,Instr.sureAddr,storeVar,eo,sizeOf,typeInfo,run_program,gP,hq,Sem.run_pure,iy,hlen,ne_eq,not_true_eq_false,if_false,iH,gI];congr 1;unfold putRow World.setRow;congr 1;apply Array.ext_getElem?;intro k;rw[bw,bw]
    split
    ·rename_i hk
     subst hk;rw[hg];simp
    ·rfl
  ·cases hf
 ·rfl
end
theorem kl (w:ah)(t:aF)(ys xs:List Int)(hl:xs.length=ys.length):dq (putRow (w.alloc (.cells (ints ys) t)) w.heap.size 0 xs) w.heap.size t (ints xs):=(dq.new w t (ints ys)).fc xs hl
theorem eZ (w:ah)(t:aF)(ys xs:List Int):Below w.heap.size w (putRow (w.alloc (.cells (ints ys) t)) w.heap.size 0 xs):=lM ((Below.refl _ _).alloc (az _) _) (az _) _ _
theorem pd {P:aS}{fn:Func}{p u:Tmp}{ty:aF}(h:fn.results= #[.cell p ty,.tmp u])(tmps:Array aq)(w:ah)(g:Nat)(t:aF)(cs:Array aq)(fr:Nat×Nat)(d:TypeDesc)(hp:tmps.getD p undef=.pointer (ae ⟨g,0,ai⟩))(hg:w.heap[g]? =ae (.cells cs t fr))(hu:P.underlying ty=ae d)(hd:(match d with| .struct _| .array _ _=>aA|_=>aw)=aA)(hi:(P.info? ty).map (·.size)=ae cs.size):(results fn tmps).run P w=.ok (.tuple #[.agg cs,tmps.getD u undef]) w:=by rw[results_cell_tmp h,hp];simp[asAddr,run_loadVar_row w g t ty cs fr d hg hu hd hi]
theorem cA {P:aS}{fn:Func}{R:Ending->ah->Prop}{a:Act}{w:ah}{p u:Tmp}{ty:aF}(h:fn.results= #[.cell p ty,.tmp u])(g:Nat)(t:aF)(cs:Array aq)(x:aq)(d:TypeDesc)(hp:a.tmps.getD p undef=.pointer (ae ⟨g,0,ai⟩))(hx:a.tmps.getD u undef=x)(hg:dq w g t cs)(hu:P.underlying ty=ae d)(hd:(match d with| .struct _| .array _ _=>aA|_=>aw)=aA)(hi:(P.info? ty).map (·.size)=ae cs.size)(SZ:a.defers=[])(hR:R (.returned (.tuple #[.agg cs,x])) w):bodyPost P fn R .ret a w:=bodyPost_ret (by rw[pd h a.tmps w g t cs (0,0) d hp hg hu hd hi,hx]) SZ hR
theorem tF {P:aS}{fn:Func}{R:Ending->ah->Prop}{a:Act}{w:ah}{p:Tmp}{ty:aF}(h:fn.results= #[.cell p ty])(g:Nat)(t:aF)(cs:Array aq)(d:TypeDesc)(hp:a.tmps.getD p undef=.pointer (ae ⟨g,0,ai⟩))(hg:dq w g t cs)(hu:P.underlying ty=ae d)(hd:(match d with| .struct _| .array _ _=>aA|_=>aw)=aA)(hi:(P.info? ty).map (·.size)=ae cs.size)(SZ:a.defers=[])(hR:R (.returned (.agg cs)) w):bodyPost P fn R .ret a w:=bodyPost_ret (results_cell_row h a.tmps w g t cs (0,0) d hp hg hu hd hi) SZ hR
theorem cc {P:aS}{c:Code}{Q:Exit->Act->ah->Prop}{a:Act}{w:ah}(R:ah->Prop)(hR:R w)(h: ∀w',R w'->c.wp P Q a w'):c.wp P Q a w:=h w hR
end
section
open Go.RowKit
def yC (P:aS)(ok:aF->Bool):List Field->Nat->Option Nat
 | [],acc=>ae acc
 |f::fs,acc=>if(f.name != "_" &&decide (f.offset=acc)&&ok f.type)=aA then yC P ok fs (acc+P.cellsOf f.type)else ai
def sC (P:aS):Nat->aF->Bool
 |0,_=>aw
 |n+1,t=>match P.underlying t with
  |some (.int .i64)=>decide (P.cellsOf t=1)
  |some (.struct fs)=> !P.stoodInHeld t&&(P.info? t).isSome&&decide (yC P (sC P n) fs.toList 0=ae (P.cellsOf t))
  |some (.array m e)=>(P.info? e).isSome&&(P.info? t).isSome&&sC P n e&&decide (P.cellsOf t=m*P.cellsOf e)
  |_=>aw
def valOf (P:aS)(t:aF)(xs:List Int):aq:=match P.underlying t with
 |some (.int _)=>.int .i64 (xs.getD 0 0)
 |_=>.agg (ints xs)
def rp (xs:List Int)(a n:Nat):List Int:=(xs.drop a).take n
theorem wE {xs:List Int}{a n:Nat}(h:a+n<=xs.length):(rp xs a n).length=n:=by simp[rp];omega
theorem RM (xs:List Int)(a n m:Nat):rp xs a (n+m)=rp xs a n++rp xs (a+n) m:=by unfold rp;rw[List.take_add,List.drop_drop]
theorem D9 {xs ys:List Int}{a n m:Nat}(hx:a+n<=xs.length)(hy:a+n<=ys.length):rp xs a (n+m)=rp ys a (n+m)↔rp xs a n=rp ys a n/\rp xs (a+n) m=rp ys (a+n) m:=by
 rw[RM,RM];constructor
 ·intro h;exact List.append_inj h (by rw[wE hx,wE hy])
 ·rintro⟨h1,h2⟩;rw[h1,h2]
theorem Cu (xs:List Int):rp xs 0 xs.length=xs:=by simp[rp]
section
variable {P:aS}
theorem pS (w:ah)(n:Nat)(t:aF)(xs:List Int)(o:Nat)(hB:sC P n t=aA)(hl:o+P.cellsOf t<=xs.length):(part t (ints xs) o).run P w=.ok (valOf P t (rp xs o (P.cellsOf t))) w:=by
 cases n with
 |zero=>simp[sC]at hB
 |succ n=>
  have agg: ∀d,P.underlying t=ae d->(match d with| .struct _| .array _ _=>aA|_=>aw)=aA->(P.info? t).isSome=aA->(part t (ints xs) o).run P w=.ok (.agg (ints (rp xs o (P.cellsOf t)))) w:=by
   intro d hu hd hi;have Xc:(isAgg t).run P w=.ok aA w:=by unfold isAgg;rw[eo,run_underlying hu w];cases d<;>simp_all
   obtain⟨i,hq⟩:=Option.isSome_iff_exists.1 hi;have hc:P.cellsOf t=i.size:=by simp[Program.cellsOf,hq]
   simp[part,eo,Xc,sizeOf,typeInfo,hq,hc];apply Array.ext';rw[Array.toList_extract,iH,iH,List.extract_eq_take_drop,ki,rp,List.map_take,List.map_drop]
  unfold sC at hB
  split at hB
  ·rename_i hu
   have hc:P.cellsOf t=1:=by simpa using hB
   rw[hc]at hl⊢;have Xc:(isAgg t).run P w=.ok aw w:=by
    unfold isAgg;rw[eo,run_underlying hu w]
    rfl
   have ho:(ints xs)[o]? =ae (.int .i64 (xs[o]'(by omega))):=ints_at (by omega);have hs:(rp xs o 1).getD 0 0=xs[o]'(by omega):=by simp only[rp,bp,gN,Nat.zero_lt_one,if_true,List.getElem?_drop,kW];rw[ao (by omega)];rfl
   simp[part,eo,Xc,ho,valOf,hu];simpa using hs.symm
  ·rename_i fs hu
   simp only[aM]at hB;rw[agg _ hu rfl hB.1.2];simp[valOf,hu]
  ·rename_i m e hu
   simp only[aM]at hB;rw[agg _ hu rfl hB.1.1.2];simp[valOf,hu]
  ·cases hB
theorem decide_and {p q:Prop}[Decidable p][Decidable q]:decide (p/\q)=(decide p&&decide q):=by by_cases hp:p<;>by_cases hq:q<;>simp[hp,hq]
theorem wV (n d:Nat)(xs ys:List Int)(ih: ∀(t:aF) (xs ys:List Int) (w:ah),sC P n t=aA->xs.length=P.cellsOf t->ys.length=P.cellsOf t->(Op.equalIn (d+n) t (valOf P t xs) (valOf P t ys)).run P w=.ok (decide (xs=ys)) w): ∀(fs:List Field) (acc e:Nat) (w:ah),yC P (sC P n) fs acc=ae e->e<=xs.length->e<=ys.length->acc<=e/\(Op.eqFields (d+n) (ints xs) (ints ys) fs).run P w=.ok (decide (rp xs acc (e-acc)=rp ys acc (e-acc))) w
 | [],acc,e,w,h,_,_=>by simp only[yC,dz]at h;subst h;exact⟨az _,by simp[Op.eqFields,rp]⟩
 |f::fs,acc,e,w,h,hx,hy=>by
  unfold yC at h
  split at h
  ·rename_i hc
   simp only[aM,bne_iff_ne,ne_eq,decide_eq_true_eq]at hc;obtain⟨⟨hn,ho⟩,hB⟩:=hc;obtain⟨hle,hr⟩:=wV n d xs ys ih fs _ e w h hx hy;have hse:e-acc=P.cellsOf f.type+(e-(acc+P.cellsOf f.type)):=by omega
   refine⟨by omega,?_⟩;have h1:=pS (P:=P) w n f.type xs acc hB (by omega);have h2:=pS (P:=P) w n f.type ys acc hB (by omega);have h3:=ih f.type (rp xs acc (P.cellsOf f.type)) (rp ys acc (P.cellsOf f.type)) w hB (wE (by omega)) (wE (by omega));have hd:decide (rp xs acc (e-acc)=rp ys acc (e-acc))=(decide (rp xs acc (P.cellsOf f.type)=rp ys acc (P.cellsOf f.type))&&decide (rp xs (acc+P.cellsOf f.type) (e-(acc+P.cellsOf f.type))=rp ys (acc+P.cellsOf f.type) (e-(acc+P.cellsOf f.type)))):=by rw[<-decide_and,hse];exact decide_eq_decide.2 (D9 (by omega) (by omega))
   rw[hd];simp only[Op.eqFields,ho,ne_eq,hn,not_false_eq_true,if_true,eo,h1,h2,h3,gP];cases decide (rp xs acc (P.cellsOf f.type)=rp ys acc (P.cellsOf f.type))
   ·simp
   ·simpa using hr
  ·cases h
theorem vT: ∀(n d:Nat) (t:aF) (xs ys:List Int) (w:ah),sC P n t=aA->xs.length=P.cellsOf t->ys.length=P.cellsOf t->(Op.equalIn (d+n) t (valOf P t xs) (valOf P t ys)).run P w=.ok (decide (xs=ys)) w
 |0,_,_,_,_,_,h,_,_=>by simp[sC]at h
 |n+1,d,t,xs,ys,w,hB,hx,hy=>by
  have ih:=vT n d;unfold sC at hB
  split at hB
  ·rename_i hu
   have hc:P.cellsOf t=1:=by simpa using hB
   rw[hc]at hx hy
   match xs,hx,ys,hy with
   | [x],_,[y],_=>
     have hv: ∀z,valOf P t [z]=.int .i64 z:=λz=>by simp[valOf,hu]
     rw[hv,hv,<-Nat.add_assoc,run_equalIn_int w _ t .i64 .i64 x y hu];congr 1;rw[nJ];simp
  ·rename_i fs hu
   simp only[aM,oa,decide_eq_true_eq]at hB;obtain⟨⟨h1,_⟩,h2⟩:=hB;have hf:P.fieldsOf t=fs:=by simp[Program.fieldsOf,hu]
   have hv: ∀z,valOf P t z=.agg (ints z):=λz=>by simp[valOf,hu]
   rw[hv,hv,<-Nat.add_assoc,run_equalIn_struct w (d+n) t (ints xs) (ints ys) (by rw[hf];exact hu) h1,hf];obtain⟨_,hr⟩:=wV n d xs ys (λt' xs' ys' w'=>ih t' xs' ys' w') fs.toList 0 _ w h2 (by omega) (by omega);rw[hr,Nat.sub_zero];congr 1;rw[<-hx,Cu,hx,<-hy,Cu]
  ·rename_i m e hu
   simp only[aM,decide_eq_true_eq]at hB;obtain⟨⟨⟨hi,_⟩,hB⟩,hc⟩:=hB;obtain⟨i,hq⟩:=Option.isSome_iff_exists.1 hi;have hie:P.cellsOf e=i.size:=by simp[Program.cellsOf,hq]
   have hv: ∀z,valOf P t z=.agg (ints z):=λz=>by simp[valOf,hu]
   rw[hv,hv,<-Nat.add_assoc];simp only[Op.equalIn,eo,run_underlying hu,gP,sizeOf,typeInfo,run_program,hq,Sem.run_pure];simp only[Std.Legacy.Range.forIn_eq_forIn_range',Std.Legacy.Range.size,Nat.sub_zero,Nat.add_one_sub_one,Nat.div_one];have key: ∀(k a:Nat),a+k<=m->(Sem.run P (forIn (fP a k 1) ((ai,()):Option Bool×Unit) λi_1 __s=>do
                                                                                                                                                                                                                                                  let __do_lift<-part e (ints xs) (i_1*i.size)
                                                                                                                                                                                                                                                  let __do_lift_1<-part e (ints ys) (i_1*i.size)
                                                                                                                                                                                                                                                  let __do_lift<-Op.equalIn (d+n) e __do_lift __do_lift_1
                                                                                                                                                                                                                                                  if(!__do_lift)=aA then pure (ForInStep.done (ae aw,()))else pure (ForInStep.yield (ai,()))) w)=
    .ok (if rp xs (a*i.size) (k*i.size)=rp ys (a*i.size) (k*i.size)then(ai,())else(ae aw,())) w:=by
    intro k
    induction k with
    |zero=>intro a _;simp[rp]
    |succ k ihk=>
     intro a ha;have lf:a*i.size+i.size<=m*i.size:=by rw[<-Nat.succ_mul];exact il _ (by omega)
     have h1:=pS (P:=P) w n e xs (a*i.size) hB (by rw[hx,hc,hie];exact lf);have h2:=pS (P:=P) w n e ys (a*i.size) hB (by rw[hy,hc,hie];exact lf);have h3:=ih e (rp xs (a*i.size) (P.cellsOf e)) (rp ys (a*i.size) (P.cellsOf e)) w hB (wE (by rw[hx,hc,hie];exact lf)) (wE (by rw[hy,hc,hie];exact lf));have OS:=D9 (xs:=xs) (ys:=ys) (a:=a*i.size) (n:=i.size) (m:=k*i.size) (by rw[hx,hc,hie];exact lf) (by rw[hy,hc,hie];exact lf);rw[hie]at h1 h2 h3;have hmul:(k+1)*i.size=i.size+k*i.size:=by rw[Nat.succ_mul,dt]
     have BL:(a+1)*i.size=a*i.size+i.size:=Nat.succ_mul _ _;rw[List.range'_succ,List.forIn_cons,hmul];simp only[eo,h1,h2,h3,gP];by_cases um:rp xs (a*i.size) i.size=rp ys (a*i.size) i.size
     ·have hkk:=ihk (a+1) (by omega);rw[BL]at hkk;simp only[um,decide_true,Bool.not_true,e9,if_false,Sem.run_pure,gP,hkk];congr 1;by_cases hr:rp xs (a*i.size+i.size) (k*i.size)=rp ys (a*i.size+i.size) (k*i.size)
      ·rw[if_pos hr,if_pos (OS.2 ⟨um,hr⟩)]
      ·rw[if_neg hr,if_neg (λh=>hr (OS.1 h).2)]
     ·rw[if_neg (λh=>um (OS.1 h).1)];simp[um]
   rw[key m 0 (by omega),Nat.zero_mul];have hxm:m*i.size=xs.length:=by rw[hx,hc,hie]
   have hym:m*i.size=ys.length:=by rw[hy,hc,hie]
   have Q5:rp xs 0 (m*i.size)=xs:=by rw[hxm,Cu]
   have hsy:rp ys 0 (m*i.size)=ys:=by rw[hym,Cu]
   rw[Q5,hsy];by_cases he:xs=ys
   ·simp[he]
   ·simp[he]
  ·cases hB
theorem JW (n:Nat)(t:aF)(xs ys:List Int)(w:ah)(hn:n<=10000)(hB:sC P n t=aA)(ha:valOf P t []=.agg (ints []))(hx:xs.length=P.cellsOf t)(hy:ys.length=P.cellsOf t):(binOp .eql t (.agg (ints xs)) (.agg (ints ys))).run P w=.ok (.bool (decide (xs=ys))) w:=by
 have hv: ∀z,valOf P t z=.agg (ints z):=by
  intro z;unfold valOf at ha⊢;split at ha
  ·cases ha
  ·rfl
 have h:=vT (P:=P) n (10000-n) t xs ys w hB hx hy;rw[hv,hv,show 10000-n+n=10000 from by omega]at h;rw[run_eql_struct,h]
 rfl
theorem zh (n:Nat)(t:aF)(xs ys:List Int)(w:ah)(hn:n<=10000)(hB:sC P n t=aA)(ha:valOf P t []=.agg (ints []))(hx:xs.length=P.cellsOf t)(hy:ys.length=P.cellsOf t):(binOp .neq t (.agg (ints xs)) (.agg (ints ys))).run P w=.ok (.bool (!decide (xs=ys))) w:=by
 have hv: ∀z,valOf P t z=.agg (ints z):=by
  intro z;unfold valOf at ha⊢;split at ha
  ·cases ha
  ·rfl
 have h:=vT (P:=P) n (10000-n) t xs ys w hB hx hy;rw[hv,hv,show 10000-n+n=10000 from by omega]at h;rw[run_neq_struct,h]
 rfl
end
end
section
open Go.RowKit
theorem Im:(Tryz.prog.info? 46).map (·.size)=ae 8:=by kernel_rfl
@[go_sem ↓] theorem acG (v:aq):dN 46 v=fe 46 v:=rfl
@[go_sem ↓] theorem abY (p v:aq):eM 46 p v=de 46 p v:=rfl
@[go_sem] theorem ZW (w:ah)(g o:Nat):(fe 46 (.pointer (ae ⟨g,o,ai⟩))).run Tryz.prog w=match row? w g o 8 with|some cs=>.ok (.agg cs) w|none=>(jb 46 ⟨g,o,ai⟩).run Tryz.prog w:=fO w _ g o 8 _ Tryz.underlying46 rfl Im
@[go_sem] theorem D8 (w:ah)(g o:Nat)(xs:List Int):(de 46 (.pointer (ae ⟨g,o,ai⟩)) (.agg (ints xs))).run Tryz.prog w=if fits w g o 8=aA/\xs.length=8 then .ok () (putRow w g o xs)else(dT 46 g o (.agg (ints xs))).run Tryz.prog w:=gK w _ g o 8 xs Im
@[go_sem] theorem PV (w:ah)(g o:Nat)(a0 a1 a2 a3 a4 a5 a6 a7:Int):(de 46 (.pointer (ae ⟨g,o,ai⟩)) (.agg #[.int .i64 a0,.int .i64 a1,.int .i64 a2,.int .i64 a3,.int .i64 a4,.int .i64 a5,.int .i64 a6,.int .i64 a7])).run Tryz.prog w=if fits w g o 8=aA then .ok () (putRow w g o [a0,a1,a2,a3,a4,a5,a6,a7])else(dT 46 g o (.agg (ints [a0,a1,a2,a3,a4,a5,a6,a7]))).run Tryz.prog w:=by have h:=D8 w g o [a0,a1,a2,a3,a4,a5,a6,a7];simp only[aj,ax,Nat.reduceAdd,and_true]at h;exact h
theorem p9:(Tryz.prog.info? 48).map (·.size)=ae 9:=by kernel_rfl
@[go_sem ↓] theorem aa1 (v:aq):dN 48 v=fe 48 v:=rfl
@[go_sem ↓] theorem Z1 (p v:aq):eM 48 p v=de 48 p v:=rfl
@[go_sem] theorem YP (w:ah)(g o:Nat):(fe 48 (.pointer (ae ⟨g,o,ai⟩))).run Tryz.prog w=match row? w g o 9 with|some cs=>.ok (.agg cs) w|none=>(jb 48 ⟨g,o,ai⟩).run Tryz.prog w:=fO w _ g o 9 _ Tryz.underlying48 rfl p9
@[go_sem] theorem BW (w:ah)(g o:Nat)(xs:List Int):(de 48 (.pointer (ae ⟨g,o,ai⟩)) (.agg (ints xs))).run Tryz.prog w=if fits w g o 9=aA/\xs.length=9 then .ok () (putRow w g o xs)else(dT 48 g o (.agg (ints xs))).run Tryz.prog w:=gK w _ g o 9 xs p9
@[go_sem] theorem NS (w:ah)(g o:Nat)(a0 a1 a2 a3 a4 a5 a6 a7 a8:Int):(de 48 (.pointer (ae ⟨g,o,ai⟩)) (.agg #[.int .i64 a0,.int .i64 a1,.int .i64 a2,.int .i64 a3,.int .i64 a4,.int .i64 a5,.int .i64 a6,.int .i64 a7,.int .i64 a8])).run Tryz.prog w=if fits w g o 9=aA then .ok () (putRow w g o [a0,a1,a2,a3,a4,a5,a6,a7,a8])else(dT 48 g o (.agg (ints [a0,a1,a2,a3,a4,a5,a6,a7,a8]))).run Tryz.prog w:=by have h:=BW w g o [a0,a1,a2,a3,a4,a5,a6,a7,a8];simp only[aj,ax,Nat.reduceAdd,and_true]at h;exact h
theorem DC:(Tryz.prog.info? 52).map (·.size)=ae 3:=by kernel_rfl
@[go_sem ↓] theorem aa3 (v:aq):dN 52 v=fe 52 v:=rfl
@[go_sem ↓] theorem Z3 (p v:aq):eM 52 p v=de 52 p v:=rfl
@[go_sem] theorem YR (w:ah)(g o:Nat):(fe 52 (.pointer (ae ⟨g,o,ai⟩))).run Tryz.prog w=match row? w g o 3 with|some cs=>.ok (.agg cs) w|none=>(jb 52 ⟨g,o,ai⟩).run Tryz.prog w:=fO w _ g o 3 _ Tryz.underlying52 rfl DC
@[go_sem] theorem BZ (w:ah)(g o:Nat)(xs:List Int):(de 52 (.pointer (ae ⟨g,o,ai⟩)) (.agg (ints xs))).run Tryz.prog w=if fits w g o 3=aA/\xs.length=3 then .ok () (putRow w g o xs)else(dT 52 g o (.agg (ints xs))).run Tryz.prog w:=gK w _ g o 3 xs DC
@[go_sem] theorem NU (w:ah)(g o:Nat)(a0 a1 a2:Int):(de 52 (.pointer (ae ⟨g,o,ai⟩)) (.agg #[.int .i64 a0,.int .i64 a1,.int .i64 a2])).run Tryz.prog w=if fits w g o 3=aA then .ok () (putRow w g o [a0,a1,a2])else(dT 52 g o (.agg (ints [a0,a1,a2]))).run Tryz.prog w:=by have h:=BZ w g o [a0,a1,a2];simp only[aj,ax,Nat.reduceAdd,and_true]at h;exact h
theorem Ns:(Tryz.prog.info? 54).map (·.size)=ae 7:=by kernel_rfl
theorem Ik:Tryz.prog.cellsOf 54=7:=by kernel_rfl
@[go_sem ↓] theorem ad2 (v:aq):dN 54 v=fe 54 v:=rfl
@[go_sem ↓] theorem acP (p v:aq):eM 54 p v=de 54 p v:=rfl
@[go_sem] theorem abJ (w:ah)(g o:Nat):(fe 54 (.pointer (ae ⟨g,o,ai⟩))).run Tryz.prog w=match row? w g o 7 with|some cs=>.ok (.agg cs) w|none=>(jb 54 ⟨g,o,ai⟩).run Tryz.prog w:=fO w _ g o 7 _ Tryz.underlying54 rfl Ns
@[go_sem] theorem FY (w:ah)(g o:Nat)(xs:List Int):(de 54 (.pointer (ae ⟨g,o,ai⟩)) (.agg (ints xs))).run Tryz.prog w=if fits w g o 7=aA/\xs.length=7 then .ok () (putRow w g o xs)else(dT 54 g o (.agg (ints xs))).run Tryz.prog w:=gK w _ g o 7 xs Ns
@[go_sem] theorem RL (w:ah)(g o:Nat)(a0 a1 a2 a3 a4 a5 a6:Int):(de 54 (.pointer (ae ⟨g,o,ai⟩)) (.agg #[.int .i64 a0,.int .i64 a1,.int .i64 a2,.int .i64 a3,.int .i64 a4,.int .i64 a5,.int .i64 a6])).run Tryz.prog w=if fits w g o 7=aA then .ok () (putRow w g o [a0,a1,a2,a3,a4,a5,a6])else(dT 54 g o (.agg (ints [a0,a1,a2,a3,a4,a5,a6]))).run Tryz.prog w:=by have h:=FY w g o [a0,a1,a2,a3,a4,a5,a6];simp only[aj,ax,Nat.reduceAdd,and_true]at h;exact h
theorem dV:(Tryz.prog.info? 43).map (·.size)=ae 2:=by kernel_rfl
theorem yK:Tryz.prog.cellsOf 43=2:=by kernel_rfl
@[go_sem ↓] theorem ZQ (v:aq):dN 43 v=fe 43 v:=rfl
@[go_sem ↓] theorem Y3 (p v:aq):eM 43 p v=de 43 p v:=rfl
@[go_sem] theorem Vf (w:ah)(g o:Nat):(fe 43 (.pointer (ae ⟨g,o,ai⟩))).run Tryz.prog w=match row? w g o 2 with|some cs=>.ok (.agg cs) w|none=>(jb 43 ⟨g,o,ai⟩).run Tryz.prog w:=fO w _ g o 2 _ Tryz.underlying43 rfl dV
@[go_sem] theorem Aj (w:ah)(g o:Nat)(xs:List Int):(de 43 (.pointer (ae ⟨g,o,ai⟩)) (.agg (ints xs))).run Tryz.prog w=if fits w g o 2=aA/\xs.length=2 then .ok () (putRow w g o xs)else(dT 43 g o (.agg (ints xs))).run Tryz.prog w:=gK w _ g o 2 xs dV
@[go_sem] theorem Nc (w:ah)(g o:Nat)(a0 a1:Int):(de 43 (.pointer (ae ⟨g,o,ai⟩)) (.agg #[.int .i64 a0,.int .i64 a1])).run Tryz.prog w=if fits w g o 2=aA then .ok () (putRow w g o [a0,a1])else(dT 43 g o (.agg (ints [a0,a1]))).run Tryz.prog w:=by have h:=Aj w g o [a0,a1];simp only[aj,ax,Nat.reduceAdd,and_true]at h;exact h
theorem xF (xs ys:List Int)(hx:xs.length=2)(hy:ys.length=2)(w:ah):(binOp .eql 43 (.agg (ints xs)) (.agg (ints ys))).run Tryz.prog w=.ok (.bool (decide (xs=ys))) w:=JW 5 _ xs ys w (by decide) (by kernel_rfl) (by kernel_rfl) (by rw[yK];exact hx) (by rw[yK];exact hy)
theorem ta:(Tryz.prog.info? 50).map (·.size)=ae 11:=by kernel_rfl
theorem Hw:Tryz.prog.cellsOf 50=11:=by kernel_rfl
@[go_sem ↓] theorem ad1 (v:aq):dN 50 v=fe 50 v:=rfl
@[go_sem ↓] theorem acO (p v:aq):eM 50 p v=de 50 p v:=rfl
@[go_sem] theorem abI (w:ah)(g o:Nat):(fe 50 (.pointer (ae ⟨g,o,ai⟩))).run Tryz.prog w=match row? w g o 11 with|some cs=>.ok (.agg cs) w|none=>(jb 50 ⟨g,o,ai⟩).run Tryz.prog w:=fO w _ g o 11 _ Tryz.underlying50 rfl ta
@[go_sem] theorem FX (w:ah)(g o:Nat)(xs:List Int):(de 50 (.pointer (ae ⟨g,o,ai⟩)) (.agg (ints xs))).run Tryz.prog w=if fits w g o 11=aA/\xs.length=11 then .ok () (putRow w g o xs)else(dT 50 g o (.agg (ints xs))).run Tryz.prog w:=gK w _ g o 11 xs ta
@[go_sem] theorem RJ (w:ah)(g o:Nat)(a0 a1 a2 a3 a4 a5 a6 a7 a8 a9 a10:Int):(de 50 (.pointer (ae ⟨g,o,ai⟩)) (.agg #[.int .i64 a0,.int .i64 a1,.int .i64 a2,.int .i64 a3,.int .i64 a4,.int .i64 a5,.int .i64 a6,.int .i64 a7,.int .i64 a8,.int .i64 a9,.int .i64 a10])).run Tryz.prog w=if fits w g o 11=aA then .ok () (putRow w g o [a0,a1,a2,a3,a4,a5,a6,a7,a8,a9,a10])else(dT 50 g o (.agg (ints [a0,a1,a2,a3,a4,a5,a6,a7,a8,a9,a10]))).run Tryz.prog w:=by have h:=FX w g o [a0,a1,a2,a3,a4,a5,a6,a7,a8,a9,a10];simp only[aj,ax,Nat.reduceAdd,and_true]at h;exact h
theorem abb (xs ys:List Int)(hx:xs.length=11)(hy:ys.length=11)(w:ah):(binOp .neq 50 (.agg (ints xs)) (.agg (ints ys))).run Tryz.prog w=.ok (.bool (!decide (xs=ys))) w:=zh 5 _ xs ys w (by decide) (by kernel_rfl) (by kernel_rfl) (by rw[Hw];exact hx) (by rw[Hw];exact hy)
theorem Gf:(Tryz.prog.info? 45).map (·.size)=ae 4:=by kernel_rfl
theorem CQ:Tryz.prog.cellsOf 45=4:=by kernel_rfl
@[go_sem ↓] theorem acE (v:aq):dN 45 v=fe 45 v:=rfl
@[go_sem ↓] theorem abW (p v:aq):eM 45 p v=de 45 p v:=rfl
@[go_sem] theorem ZU (w:ah)(g o:Nat):(fe 45 (.pointer (ae ⟨g,o,ai⟩))).run Tryz.prog w=match row? w g o 4 with|some cs=>.ok (.agg cs) w|none=>(jb 45 ⟨g,o,ai⟩).run Tryz.prog w:=fO w _ g o 4 _ Tryz.underlying45 rfl Gf
@[go_sem] theorem D7 (w:ah)(g o:Nat)(xs:List Int):(de 45 (.pointer (ae ⟨g,o,ai⟩)) (.agg (ints xs))).run Tryz.prog w=if fits w g o 4=aA/\xs.length=4 then .ok () (putRow w g o xs)else(dT 45 g o (.agg (ints xs))).run Tryz.prog w:=gK w _ g o 4 xs Gf
@[go_sem] theorem PU (w:ah)(g o:Nat)(a0 a1 a2 a3:Int):(de 45 (.pointer (ae ⟨g,o,ai⟩)) (.agg #[.int .i64 a0,.int .i64 a1,.int .i64 a2,.int .i64 a3])).run Tryz.prog w=if fits w g o 4=aA then .ok () (putRow w g o [a0,a1,a2,a3])else(dT 45 g o (.agg (ints [a0,a1,a2,a3]))).run Tryz.prog w:=by have h:=D7 w g o [a0,a1,a2,a3];simp only[aj,ax,Nat.reduceAdd,and_true]at h;exact h
theorem X8 (xs ys:List Int)(hx:xs.length=4)(hy:ys.length=4)(w:ah):(binOp .neq 45 (.agg (ints xs)) (.agg (ints ys))).run Tryz.prog w=.ok (.bool (!decide (xs=ys))) w:=zh 5 _ xs ys w (by decide) (by kernel_rfl) (by kernel_rfl) (by rw[CQ];exact hx) (by rw[CQ];exact hy)
theorem Rp:(Tryz.prog.info? 74).map (·.size)=ae 16:=by kernel_rfl
theorem MF:Tryz.prog.cellsOf 74=16:=by kernel_rfl
@[go_sem ↓] theorem aeJ (v:aq):dN 74 v=fe 74 v:=rfl
@[go_sem ↓] theorem aem (p v:aq):eM 74 p v=de 74 p v:=rfl
@[go_sem] theorem acM (w:ah)(g o:Nat):(fe 74 (.pointer (ae ⟨g,o,ai⟩))).run Tryz.prog w=match row? w g o 16 with|some cs=>.ok (.agg cs) w|none=>(jb 74 ⟨g,o,ai⟩).run Tryz.prog w:=fO w _ g o 16 _ Tryz.underlying74 rfl Rp
@[go_sem] theorem JX (w:ah)(g o:Nat)(xs:List Int):(de 74 (.pointer (ae ⟨g,o,ai⟩)) (.agg (ints xs))).run Tryz.prog w=if fits w g o 16=aA/\xs.length=16 then .ok () (putRow w g o xs)else(dT 74 g o (.agg (ints xs))).run Tryz.prog w:=gK w _ g o 16 xs Rp
@[go_sem] theorem Uc (w:ah)(g o:Nat)(a0 a1 a2 a3 a4 a5 a6 a7 a8 a9 a10 a11 a12 a13 a14 a15:Int):(de 74 (.pointer (ae ⟨g,o,ai⟩)) (.agg #[.int .i64 a0,.int .i64 a1,.int .i64 a2,.int .i64 a3,.int .i64 a4,.int .i64 a5,.int .i64 a6,.int .i64 a7,.int .i64 a8,.int .i64 a9,.int .i64 a10,.int .i64 a11,.int .i64 a12,.int .i64 a13,.int .i64 a14,.int .i64 a15])).run Tryz.prog w=if fits w g o 16=aA then .ok () (putRow w g o [a0,a1,a2,a3,a4,a5,a6,a7,a8,a9,a10,a11,a12,a13,a14,a15])else(dT 74 g o (.agg (ints [a0,a1,a2,a3,a4,a5,a6,a7,a8,a9,a10,a11,a12,a13,a14,a15]))).run Tryz.prog w:=by have h:=JX w g o [a0,a1,a2,a3,a4,a5,a6,a7,a8,a9,a10,a11,a12,a13,a14,a15];simp only[aj,ax,Nat.reduceAdd,and_true]at h;exact h
theorem Dy:(Tryz.prog.info? 132).map (·.size)=ae 2:=by kernel_rfl
@[go_sem ↓] theorem aa2 (v:aq):dN 132 v=fe 132 v:=rfl
@[go_sem ↓] theorem Z2 (p v:aq):eM 132 p v=de 132 p v:=rfl
@[go_sem] theorem YQ (w:ah)(g o:Nat):(fe 132 (.pointer (ae ⟨g,o,ai⟩))).run Tryz.prog w=match row? w g o 2 with|some cs=>.ok (.agg cs) w|none=>(jb 132 ⟨g,o,ai⟩).run Tryz.prog w:=fO w _ g o 2 _ Tryz.underlying132 rfl Dy
@[go_sem] theorem BX (w:ah)(g o:Nat)(xs:List Int):(de 132 (.pointer (ae ⟨g,o,ai⟩)) (.agg (ints xs))).run Tryz.prog w=if fits w g o 2=aA/\xs.length=2 then .ok () (putRow w g o xs)else(dT 132 g o (.agg (ints xs))).run Tryz.prog w:=gK w _ g o 2 xs Dy
@[go_sem] theorem NT (w:ah)(g o:Nat)(a0 a1:Int):(de 132 (.pointer (ae ⟨g,o,ai⟩)) (.agg #[.int .i64 a0,.int .i64 a1])).run Tryz.prog w=if fits w g o 2=aA then .ok () (putRow w g o [a0,a1])else(dT 132 g o (.agg (ints [a0,a1]))).run Tryz.prog w:=by have h:=BX w g o [a0,a1];simp only[aj,ax,Nat.reduceAdd,and_true]at h;exact h
theorem OW (xs:List Int)(k:Nat)(hk:k<8)(hx:xs.length=8)(w:ah):(Instr.index 46 (.agg (ints xs)) (.int .i64 (k:Int))).run Tryz.prog w=.ok (.int .i64 (xs.getD k 0)) w:=by
 have h:(ints xs)[k]? =ae (.int .i64 (xs.getD k 0)):=by rw[ints_at (by omega)];simp[bp,ao (show k<xs.length by omega)]
 have hs:(sizeOf 3).run Tryz.prog w=.ok 1 w:=by kernel_rfl
 have hp:(part 3 (ints xs) k).run Tryz.prog w=.ok (.int .i64 (xs.getD k 0)) w:=by
  have ha:(isAgg 3).run Tryz.prog w=.ok aw w:=by kernel_rfl
  simp[part,eo,ha,h]
 unfold Instr.index;simp only[asIntOf,eo,Sem.run_pure,gP,run_underlying Tryz.underlying46];rw[if_pos (by omega)];simp only[eo,hs,gP,dL,Nat.mul_one,hp]
end
section
open Go.RowKit
theorem QH: ∀(cs:List aq) (off j:Nat) (base:Array aq),off+j+cs.length<=base.size->((cs.zipIdx j).foldl (λ(acc:Array aq) (x:aq×Nat)=>acc.setIfInBounds (off+x.2) x.1) base).toList=base.toList.take (off+j)++cs++base.toList.drop (off+j+cs.length)
 | [],off,j,base,_=>by simp
 |c::cs,off,j,base,h=>by
  rw[List.zipIdx_cons,List.foldl_cons];rw[aj]at h;rw[QH cs off (j+1) _ (by simp;omega)];simp only[Array.toList_setIfInBounds];have hl:(base.toList.take (off+j)).length=off+j:=by rw[dW];simp;omega
  have hd:base.toList=base.toList.take (off+j)++base.toList[off+j]'(by simp;omega)::base.toList.drop (off+j+1):=by rw[<-List.drop_eq_getElem_cons,nQ]
  have e1:(base.toList.set (off+j) c)=base.toList.take (off+j)++c::base.toList.drop (off+j+1):=by
   conv=>lhs;rw[hd]
   rw[nP _ _ (by omega),hl,Nat.sub_self,List.set_cons_zero]
  rw[e1];have e2:(base.toList.take (off+j)++c::base.toList.drop (off+j+1)).take (off+(j+1))=base.toList.take (off+j)++[c]:=by rw[List.take_append,hl,cI (by omega),show off+(j+1)-(off+j)=1 from by omega];rfl
  have e3:(base.toList.take (off+j)++c::base.toList.drop (off+j+1)).drop (off+(j+1)+cs.length)=base.toList.drop (off+j+(cs.length+1)):=by rw[List.drop_append,hl,List.drop_of_length_le (by omega),cL,show off+(j+1)+cs.length-(off+j)=cs.length+1 from by omega,List.drop_succ_cons,List.drop_drop];congr 1;omega
  rw[e2,e3,aj,dn,dn,dn]
  rfl
theorem tM (cs base:Array aq)(off:Nat)(h:off+cs.size<=base.size):(cs.zipIdx.foldl (λacc (c,j)=>acc.setIfInBounds (off+j) c) base)=(base.toList.take off++cs.toList++base.toList.drop (off+cs.size)).toArray:=by apply Array.ext';rw[<-Array.foldl_toList,Array.toList_zipIdx];have:=QH cs.toList off 0 base (by simpa using h);simpa using this
theorem pP (place:Nat->Option (Nat×Nat))(z a:Array aq)(i off m:Nat)(rest:List (Nat×aq))(hp:place i=ae (off,m))(ha:a.size=m)(hz:off+m<=z.size):fw place z ((i,.agg a)::rest)=fw place (a.zipIdx.foldl (λacc (c,j)=>acc.setIfInBounds (off+j) c) z) rest:=by
 rw[fw,hp];have h1:(decide ((Value.agg a).cells.size≠m)||decide (off+(Value.agg a).cells.size>z.size))=aw:=by show(decide (a.size≠m)||decide (off+a.size>z.size))=aw;simp;omega
 simp only[h1]
 rfl
def j4 (t:aF)(parts:Array (Nat×aq)):Sem aq:=fh t 1 parts
def pT (t:aF)(cs:Array aq):Sem aq:=fh t 1 #[(0,.agg cs)]
theorem lS {P:aS}(w:ah)(t e:aF)(n:Nat)(z cs:Array aq)(hu:P.underlying t=ae (.slice e))(hs:(sizeOf e).run P w=.ok n w)(hz:(zeroValue e).run P w=.ok (.agg z) w)(hzn:z.size=n)(hn:0<n)(hn2:n<=1000):(j4 t #[(0,.agg cs)]).run P w=if cs.size=n then .ok (.slice (ae ⟨w.heap.size,0,ai⟩) 1 1) (w.alloc (.cells cs e))else(pT t cs).run P w:=by
 split
 ·rename_i hc
  have hb:((qU (1*n)).map (z[· % z.size]!)).size=n:=by simp
  have hf:fw (λi=>ae (i*n,n)) ((qU (1*n)).map (z[· % z.size]!)) [(0,Value.agg cs)]=ae cs:=by rw[pP (λi=>ae (i*n,n)) _ cs 0 (0*n) n [] rfl hc (by rw[hb];omega),fw,Nat.zero_mul,tM cs _ 0 (by rw[hb];omega)];congr 1;apply Array.ext';simp[hc]
  unfold j4 fh;have h1: ¬(1*n>2^24):=by omega
  have h2: ¬(1*n=0):=by omega
  simp only[eo,run_underlying hu,gP,hs,if_neg h1,if_neg h2,hz,Sem.run_pure,iy,List.getElem_toArray];have hf':fw (λi=>ae (i*n,n)) ((qU (1*n)).map (z[· % z.size]!)) #[(0,Value.agg cs)].toList=ae cs:=hf;simp only[hf',eo,newRow]
  rfl
 ·rfl
@[go_sem ↓] theorem aeP (parts:Array (Nat×aq)):fh 33 1 parts=j4 33 parts:=rfl
@[go_sem] theorem ZX (w:ah)(cs:Array aq):(j4 33 #[(0,.agg cs)]).run Tryz.prog w=if cs.size=11 then .ok (.slice (ae ⟨w.heap.size,0,ai⟩) 1 1) (w.alloc (.cells cs 50))else(pT 33 cs).run Tryz.prog w:=lS w _ _ 11 (bZ 11 (aZ .i64 0)).toArray cs Tryz.underlying33 (by kernel_rfl) (by kernel_rfl) rfl (by decide) (by decide)
@[go_sem ↓] theorem ael (parts:Array (Nat×aq)):fh 34 1 parts=j4 34 parts:=rfl
@[go_sem] theorem YT (w:ah)(cs:Array aq):(j4 34 #[(0,.agg cs)]).run Tryz.prog w=if cs.size=4 then .ok (.slice (ae ⟨w.heap.size,0,ai⟩) 1 1) (w.alloc (.cells cs 45))else(pT 34 cs).run Tryz.prog w:=lS w _ _ 4 (bZ 4 (aZ .i64 0)).toArray cs Tryz.underlying34 (by kernel_rfl) (by kernel_rfl) rfl (by decide) (by decide)
@[go_sem ↓] theorem abT (parts:Array (Nat×aq)):fh 122 1 parts=j4 122 parts:=rfl
@[go_sem] theorem Ub (w:ah)(cs:Array aq):(j4 122 #[(0,.agg cs)]).run Tryz.prog w=if cs.size=2 then .ok (.slice (ae ⟨w.heap.size,0,ai⟩) 1 1) (w.alloc (.cells cs 43))else(pT 122 cs).run Tryz.prog w:=lS w _ _ 2 (bZ 2 (aZ .i64 0)).toArray cs Tryz.underlying122 (by kernel_rfl) (by kernel_rfl) rfl (by decide) (by decide)
@[go_sem] theorem acD (xs ys:List Int):ints xs++ints ys=ints (xs++ys):=by unfold ints;simp
theorem agh (z a c:Array aq)(m n:Nat)(hz:z.size=m+n)(ha:a.size=m)(hc:c.size=n)(place:Nat->Option (Nat×Nat))(h0:place 0=ae (0,m))(h1:place 1=ae (m,n)):fw place z [(0,.agg a),(1,.agg c)]=ae (a++c):=by
 rw[pP place z a 0 0 m _ h0 ha (by omega)];have hs:(a.zipIdx.foldl (λacc (c,j)=>acc.setIfInBounds (0+j) c) z).size=m+n:=by rw[tM a z 0 (by omega)];simp;omega
 rw[pP place _ c 1 m n _ h1 hc (by rw[hs];omega),fw,tM c _ m (by rw[hs];omega),tM a z 0 (by omega)];congr 1;apply Array.ext';simp only[List.take_zero,cL,aC,Array.toList_append];have I6:a.toList.length=m:=by simpa using ha
 have hzl:(z.toList.drop a.size).length=n:=by rw[List.length_drop];simp;omega
 rw[List.take_left' I6,List.drop_of_length_le (by rw[bM,I6,hzl];omega),eN]
def j3 (t:aF)(parts:Array (Nat×aq)):Sem aq:=Instr.build t parts
def td (t:aF)(parts:Array (Nat×aq)):Sem aq:=Instr.build t parts
theorem xh {P:aS}(w:ah)(t:aF)(m n:Nat)(z a c:Array aq)(f1 f2:Field)(hu:P.underlying t=ae (.struct #[f1,f2]))(h1:(sizeOf f1.type).run P w=.ok m w)(h2:(sizeOf f2.type).run P w=.ok n w)(o1:f1.offset=0)(o2:f2.offset=m)(hz:(zeroValue t).run P w=.ok (.agg z) w)(hzn:z.size=m+n):(j3 t #[(0,.agg a),(1,.agg c)]).run P w=if a.size=m/\c.size=n then .ok (.agg (a++c)) w else(td t #[(0,.agg a),(1,.agg c)]).run P w:=by
 split
 ·rename_i h
  unfold j3 Instr.build;simp[eo,hz,run_underlying hu,h1,h2,iy,o1,o2];have:=agh z a c m n hzn h.1 h.2 (λi=>[(0,m),(m,n)][i]?) rfl rfl;rw[this]
  rfl
 ·rfl
@[go_sem ↓] theorem aeH (parts:Array (Nat×aq)):Instr.build 50 parts=j3 50 parts:=rfl
@[go_sem] theorem YN (w:ah):(j3 50 #[]).run Tryz.prog w=.ok (.agg (ints [0,0,0,0,0,0,0,0,0,0,0])) w:=by kernel_rfl
@[go_sem] theorem ZT (w:ah)(a c:Array aq):(j3 50 #[(0,.agg a),(1,.agg c)]).run Tryz.prog w=if a.size=2/\c.size=9 then .ok (.agg (a++c)) w else(td 50 #[(0,.agg a),(1,.agg c)]).run Tryz.prog w:=xh w _ 2 9 (bZ 11 (aZ .i64 0)).toArray a c _ _ Tryz.underlying50 (by kernel_rfl) (by kernel_rfl) rfl rfl (by kernel_rfl) rfl
@[go_sem ↓] theorem adb (parts:Array (Nat×aq)):Instr.build 45 parts=j3 45 parts:=rfl
@[go_sem] theorem Vd (w:ah):(j3 45 #[]).run Tryz.prog w=.ok (.agg (ints [0,0,0,0])) w:=by kernel_rfl
@[go_sem] theorem YO (w:ah)(a c:Array aq):(j3 45 #[(0,.agg a),(1,.agg c)]).run Tryz.prog w=if a.size=2/\c.size=2 then .ok (.agg (a++c)) w else(td 45 #[(0,.agg a),(1,.agg c)]).run Tryz.prog w:=xh w _ 2 2 (bZ 4 (aZ .i64 0)).toArray a c _ _ Tryz.underlying45 (by kernel_rfl) (by kernel_rfl) rfl rfl (by kernel_rfl) rfl
@[go_sem] theorem aeL (w:ah)(k g o n:Nat):row? (w.drewN k) g o n=row? w g o n:=rfl
@[go_sem] theorem ado (w:ah)(k g o n:Nat):Go.Proofs.YtknejlcijdngoaaGreat.fits (w.drewN k) g o n=Go.Proofs.YtknejlcijdngoaaGreat.fits w g o n:=rfl
@[go_sem] theorem acJ (a b:Int)(xs:List Int):(#[aZ .i64 a,.int .i64 b]:Array aq)++ints xs=ints (a::b::xs):=by unfold ints;apply Array.ext';simp
end
section
open Go.RowKit
def gu (w:ah)(B size:Nat)(A:Option Addr)(rs:List (List Int)):Prop:=(∀r∈rs,r.length=size)/\(0<rs.length-> ∃b o,A=ae ⟨b,o,ai⟩/\b<B/\ ∀k r,rs[k]? =ae r->row? w b (o+k*size) size=ae (ints r))
theorem iR {w w':ah}{B g:Nat}(hb:Below B w w')(hg:g<B)(o n:Nat):row? w' g o n=row? w g o n:=by unfold row?;rw[hb.block g hg]
theorem gu.below {w w':ah}{B size:Nat}{A:Option Addr}{rs:List (List Int)}(h:gu w B size A rs)(hb:Below B w w'):gu w' B size A rs:=⟨h.1,λh0=>by obtain⟨b,o,e,bE,hc⟩:=h.2 h0;exact⟨b,o,e,bE,λk r hr=>(iR hb bE _ _).trans (hc k r hr)⟩⟩
theorem gu.more {w:ah}{B B' size:Nat}{A:Option Addr}{rs:List (List Int)}(h:gu w B size A rs)(hB:B<=B'):gu w B' size A rs:=⟨h.1,λh0=>by obtain⟨b,o,e,bE,hc⟩:=h.2 h0;exact⟨b,o,e,by omega,hc⟩⟩
theorem gu.at_ {w:ah}{B size:Nat}{A:Option Addr}{rs:List (List Int)}(h:gu w B size A rs){k:Nat}(hk:k<rs.length): ∃b o,A=ae ⟨b,o,ai⟩/\b<B/\row? w b (o+k*size) size=ae (ints rs[k]):=by obtain⟨b,o,e,bE,hc⟩:=h.2 (by omega);exact⟨b,o,e,bE,hc k _ (ao hk)⟩
def la (size:Nat)(xs:List Int)(n:Nat):List (List Int):=(aG n).map λk=>(xs.drop (k*size)).take size
theorem lr (size:Nat)(xs:List Int)(n:Nat):(la size xs n).length=n:=by simp[la]
theorem pE {size:Nat}{xs:List Int}{n:Nat}(h:xs.length=n*size): ∀r∈la size xs n,r.length=size:=by intro r hr;obtain⟨k,hk,rfl⟩:=aN.1 hr;have zF:k+1<=n:=mD.1 hk;have:=il size zF;rw[k8,jR]at this;rw[dW,List.length_drop];omega
theorem AZ {size:Nat}{xs:List Int}{n:Nat}: ∀r∈la size xs n,∀x∈r,x∈xs:=by intro r hr x hx;obtain⟨k,_,rfl⟩:=aN.1 hr;exact List.mem_of_mem_drop (oY hx)
theorem JR {w:ah}{b o n:Nat}{r:List Int}(hr:r.length=n)(hn:0<n)(h: ∀j x,r[j]? =ae x->w.cell? ⟨b,o+j,ai⟩=ae (.int .i64 x)):row? w b o n=ae (ints r):=by
 have h0:=h (n-1) _ (ao (by omega));unfold c8 at h0;unfold row?
 split at h0
 ·rename_i cs t fr hg
  simp only at hg;rw[hg];simp only at h0⊢;have km:=(aL.1 h0).1;rw[if_pos (by omega)];congr 1;apply Array.ext
  ·simp[bJ];omega
  ·intro i h1 h2;rw[bJ]at h2;have:=h i _ (ao h2);rw[cell_of_row w b (o+i) cs t fr hg]at this;obtain⟨h3,h4⟩:=aL.1 this;simp[ints,h4]
 ·cases h0
theorem Reads.chunks {w:ah}{B size:Nat}{A:Option Addr}{n:Nat}{xs:List Int}(h:Reads w B size A n (xs.map (aZ .i64)))(hs:0<size):gu w B size A (la size xs n):=by
 have hl:xs.length=n*size:=by have:=h.1;simpa using this
 refine⟨pE hl,λh0=> ?_⟩;rw[lr]at h0;obtain⟨b,o,e,hb,hc⟩:=h.2 h0;refine⟨b,o,e,hb,λk r hr=> ?_⟩;have hk:k<n:=by have:=(bH.1 hr).1;rwa[lr]at this
 have iM:=pE hl r (oX hr);refine JR iM hs λj x hx=> ?_
 have we:(xs.drop (k*size)).take size=r:=by simpa[la,hk]using hr
 rw[<-we,gN]at hx
 split at hx
 ·rw[List.getElem?_drop]at hx;have:=hc (k*size+j) (.int .i64 x) (by rw[dK,hx];rfl);rwa[Nat.add_assoc]
 ·cases hx
def iu (xs ys:List (List Int)):Bool:=decide (xs=ys)
theorem FV (n:Nat)(hn:n<=1000000)(w:ah):(Instr.makeSlice 32 (.int .i64 (n:Int)) (.int .i64 (n:Int))).run Tryz.prog w=.ok (.slice (ae ⟨w.heap.size,0,ai⟩) n n) (w.alloc (.cells (ints (bZ n 0)) 3)):=by
 obtain⟨i,hi,hz,hs,LH⟩: ∃i,Tryz.prog.info? 3=ae i/\i.zero=ae (.int .i64 0)/\i.size=1/\i.bytes=8:=by
  have:=Ma;cases h:Tryz.prog.info? 3 with
  |none=>rw[h]at this;cases this
  |some i=>rw[h]at this;simp at this;exact⟨i,rfl,this⟩
 rw[run_make w _ _ i _ Tryz.underlying32 hi hz .i64 .i64 n n (by omega) (by omega) (by rw[LH];omega) (by omega)];congr 2;have:=toList_madeCells_one (.int .i64 0) ((n:Int).toNat*i.size);congr 1;apply Array.ext';rw[iH,show(aZ .i64 0).cells= #[.int .i64 0]from rfl,this,hs];simp
theorem pC.Du {w:ah}{B g:Nat}{zs:List Int}(h:dq w g 3 (ints zs))(hB:B<=g)(hn:zs.length<=maxLen):pC w B (.slice (ae ⟨g,0,ai⟩) zs.length zs.length) zs:=⟨by simp,bR ⟨g,zs.length,ints zs,rfl,hB,h,az _,hn,by simp[bJ],by rw[iH];exact cI (by simp)⟩⟩
end
section
open Go.RowKit
def du:Sys:=⟨⟨0,0,0⟩,0,0,0,0⟩
def ui (w:ah)(B:Nat)(A:Option Addr)(ss:List Sys):Prop:=gu w B 7 A (ss.map Sys.list)
theorem ui.at_ {w:ah}{B:Nat}{A:Option Addr}{ss:List Sys}(h:ui w B A ss){k:Nat}(hk:k<ss.length): ∃b o,A=ae ⟨b,o,ai⟩/\b<B/\row? w b (o+k*7) 7=ae (ints (ss.getD k du).list):=by obtain⟨b,o,e,bE,hr⟩:=gu.at_ h (k:=k) (by simpa using hk);refine⟨b,o,e,bE,?_⟩;rw[hr,List.getElem_map];simp[bp,ao hk]
theorem ui.below {w w':ah}{B:Nat}{A:Option Addr}{ss:List Sys}(h:ui w B A ss)(hb:Below B w w'):ui w' B A ss:=gu.below h hb
def Zb (r:List Int):Sys:=⟨⟨r.getD 0 0,r.getD 1 0,r.getD 2 0⟩,r.getD 3 0,r.getD 4 0,r.getD 5 0,r.getD 6 0⟩
theorem Ei {r:List Int}(h:r.length=7):(Zb r).list=r:=by
 match r,h with
 | [_,_,_,_,_,_,_],_=>rfl
end
section
open Go.RowKit
def gF (ss:List Sys)(p:List Int)(s:Sys):Nat->Int
 |0=>0
 |k+1=>if gB s (ss.getD k du)then max (gF ss p s k) (p.getD k 0+1)else gF ss p s k
def cm (ss:List Sys):Nat->List Int
 |0=>[]
 |i+1=>cm ss i++[gF ss (cm ss i) (ss.getD i du) i]
def dF (ss:List Sys):List Int×Int:=if 20<ss.length then([],2)else if iq (ss.map eQ)=0 then(cm ss ss.length,0)else([],iq (ss.map eQ))
theorem eT (ss:List Sys): ∀i,(cm ss i).length=i
 |0=>rfl
 |i+1=>by simp[cm,eT ss i]
theorem yX {ss:List Sys}{p q:List Int}{s:Sys}: ∀i,(∀k,k<i->p.getD k 0=q.getD k 0)->gF ss p s i=gF ss q s i
 |0,_=>rfl
 |i+1,h=>by unfold gF;rw[yX i λk hk=>h k (by omega),h i (by omega)]
theorem Ad (ss:List Sys): ∀n i,i<=n-> ∀k,k<i->(cm ss n).getD k 0=(cm ss i).getD k 0
 |0,i,h,k,hk=>by omega
 |n+1,i,h,k,hk=>by
  by_cases hi:i=n+1
  ·rw[hi]
  ·rw[<-Ad ss n i (by omega) k hk];simp only[cm,bp,List.getElem?_append];rw[if_pos (by rw[eT];omega)]
theorem yY (ss:List Sys)(n i:Nat)(h:i<n):(cm ss n).getD i 0=gF ss (cm ss n) (ss.getD i du) i:=by
 rw[Ad ss n (i+1) (by omega) i (by omega)];have:(cm ss (i+1)).getD i 0=gF ss (cm ss i) (ss.getD i du) i:=by simp[cm,bp,List.getElem?_append,eT]
 rw[this];exact yX i λk hk=>(Ad ss n i (by omega) k hk).symm
theorem Ac {ss:List Sys}{p:List Int}{s:Sys}: ∀i,0<=gF ss p s i/\ ∀k,k<i->gB s (ss.getD k du)=aA->p.getD k 0+1<=gF ss p s i
 |0=>⟨by simp[gF],λk hk=>by omega⟩
 |i+1=>by
  obtain⟨h1,h2⟩:=Ac (ss:=ss) (p:=p) (s:=s) i;unfold gF
  split
  ·refine⟨by omega,λk hk hc=> ?_⟩;by_cases hi:k=i
   ·subst hi;omega
   ·have:=h2 k (by omega) hc;omega
  ·rename_i hn
   refine⟨h1,λk hk hc=> ?_⟩;by_cases hi:k=i
   ·subst hi;exact absurd hc hn
   ·exact h2 k (by omega) hc
theorem wA {ss:List Sys}{p:List Int}{s:Sys}: ∀i,gF ss p s i=0\/ ∃k,k<i/\gB s (ss.getD k du)=aA/\gF ss p s i=p.getD k 0+1
 |0=>br rfl
 |i+1=>by
  have ih:=wA (ss:=ss) (p:=p) (s:=s) i;unfold gF
  split
  ·rename_i hc
   by_cases hm:gF ss p s i<=p.getD i 0+1
   ·exact bR ⟨i,by omega,hc,by omega⟩
   ·rcases ih with h|⟨k,hk,h1,h2⟩
    ·rw[h]at hm⊢;exact br (by omega)
    ·exact bR ⟨k,by omega,h1,by omega⟩
  ·rcases ih with h|⟨k,hk,h1,h2⟩
   ·exact br h
   ·exact bR ⟨k,by omega,h1,h2⟩
theorem Cp (ss:List Sys)(n:Nat): ∀i,i<n->0<=(cm ss n).getD i 0/\(cm ss n).getD i 0<=i:=by
 intro i
 induction i using l7 with
 |ind i ih=>
  intro hi;rw[yY ss n i hi];refine⟨(Ac i).1,?_⟩;rcases wA (ss:=ss) (p:=cm ss n) (s:=ss.getD i du) i with h|⟨k,hk,_,h⟩
  ·omega
  ·have:=(ih k hk (by omega)).2;omega
def Dr (ss:List Sys)(p:List Int)(i:Nat):Nat->Bool
 |0=>p.getD i 0==0
 |k+1=>Dr ss p i k||(gB (ss.getD k du) (ss.getD i du)&&p.getD k 0==p.getD i 0-1)
theorem z6 {ss:List Sys}{p:List Int}{i:Nat}: ∀k,(p.getD i 0=0\/ ∃j,j<k/\gB (ss.getD j du) (ss.getD i du)=aA/\p.getD j 0=p.getD i 0-1)->Dr ss p i k=aA
 |0,h=>by
  rcases h with h|⟨j,hj,_⟩
  ·simp only[Dr,h];rfl
  ·omega
 |k+1,h=>by
  unfold Dr;rcases h with h|⟨j,hj,h1,h2⟩
  ·rw[z6 k (br h),Bool.true_or]
  ·by_cases tQ:j=k
   ·subst tQ;rw[h1,h2];simp
   ·rw[z6 k (bR ⟨j,by omega,h1,h2⟩),Bool.true_or]
theorem ML (ss:List Sys)(hs: ∀s∈ss,eQ s=0)(BP: ∀s:Sys,eQ s=0->cT s.read=aA/\cT s.write=aA)(i:Nat)(hi:i<ss.length):(∀k,k<i->gB (ss.getD k du) (ss.getD i du)=aA->(cm ss ss.length).getD k 0<(cm ss ss.length).getD i 0)/\Dr ss (cm ss ss.length) i i=aA/\(∀k,k<ss.length->k≠i->(cm ss ss.length).getD k 0=(cm ss ss.length).getD i 0->gB (ss.getD k du) (ss.getD i du)=aw):=by
 have iM: ∀k,k<ss.length->ss.getD k du∈ss:=λk hk=>by simp[bp,ao hk]
 have cg: ∀j k,j<ss.length->k<ss.length->gB (ss.getD j du) (ss.getD k du)=gB (ss.getD k du) (ss.getD j du):=by intro j k hj hk;obtain⟨a1,a2⟩:=BP _ (hs _ (iM j hj));obtain⟨b1,b2⟩:=BP _ (hs _ (iM k hk));exact Og b1 b2 a1 a2
 have bE: ∀i,i<ss.length-> ∀k,k<i->gB (ss.getD k du) (ss.getD i du)=aA->(cm ss ss.length).getD k 0<(cm ss ss.length).getD i 0:=by intro i hi k hk hc;rw[yY ss ss.length i hi];have:=(Ac (ss:=ss) (p:=cm ss ss.length) (s:=ss.getD i du) i).2 k hk (by rw[cg i k hi (by omega)];exact hc);omega
 refine⟨bE i hi,z6 i ?_,?_⟩
 ·have e:=yY ss ss.length i hi;rcases wA (ss:=ss) (p:=cm ss ss.length) (s:=ss.getD i du) i with h|⟨k,hk,h1,h2⟩
  ·exact br (e.trans h)
  ·refine bR ⟨k,hk,by rw[cg k i (by omega) hi];exact h1,?_⟩;rw[e,h2];omega
 ·intro k hk dQ Ky;cases hc:gB (ss.getD k du) (ss.getD i du)with
  |false=>rfl
  |true=>
   exfalso;rcases Nat.lt_or_gt_of_ne dQ with h|h
   ·have:=bE i hi k h hc;omega
   ·have:=bE k hk i h (by rw[cg i k hi hk];exact hc);omega
theorem ajD {ss:List Sys}(h:iq (ss.map eQ)=0): ∀s∈ss,eQ s=0:=by
 induction ss with
 |nil=>simp
 |cons a l ih=>
  rw[fA,iq]at h
  split at h
  ·rename_i h0
   intro s hs;rcases cy.1 hs with rfl|hs
   ·exact h0
   ·exact ih h s hs
  ·rename_i h0;exact absurd h h0
theorem Lp {ss:List Sys}{i:Nat}(hi:i<ss.length)(h: ∀k,k<i->eQ (ss.getD k du)=0)(he:eQ (ss.getD i du)≠0):iq (ss.map eQ)=eQ (ss.getD i du):=by
 induction ss generalizing i with
 |nil=>simp at hi
 |cons a l ih=>
  cases i with
  |zero=>simp only[List.getD_cons_zero]at he⊢;rw[fA,iq,if_neg he]
  |succ i=>have h0:=h 0 (by omega);simp only[List.getD_cons_zero]at h0;simp only[List.getD_cons_succ]at he⊢;rw[fA,iq,if_pos h0];exact ih (by simpa using hi) (λk hk=>by simpa using h (k+1) (by omega)) he
theorem FF {ss:List Sys}(h: ∀k,k<ss.length->eQ (ss.getD k du)=0):iq (ss.map eQ)=0:=by
 induction ss with
 |nil=>rfl
 |cons a l ih=>have h0:=h 0 (by simp);simp only[List.getD_cons_zero]at h0;rw[fA,iq,if_pos h0];exact ih λk hk=>by simpa using h (k+1) (by simpa using hk)
end
section
open Go.RowKit
theorem sS (m:Int)(w:ah):Calls Tryz.prog 103 #[.int .i64 m] w λe w'=>e=.returned (.bool (cT m))/\w=w':=by
 by_cases h:0<=m
 ·have hv:Hid (cT m=decide (m<=255)):=by simp[Hid,cT,h]
  go_enter Tryz.func103,Tryz.ntmps103
  go_wp2
  go_ret;exact⟨dv hv.out.symm,rfl⟩
 ·have hv:Hid (cT m=aw):=by simp[Hid,cT,h]
  have h':m<0:=by omega
  clear h
  go_enter Tryz.func103,Tryz.ntmps103
  go_wp2
  go_ret;exact⟨dv hv.out.symm,rfl⟩
theorem qa (b:aQ)(hb:b.v.length=8)(w:ah):Calls Tryz.prog 46 #[.agg (ints b.list)] w λe w'=>e=.returned (.int .i64 (bK b))/\Below w.heap.size w w':=by
 have i0:(ints b.list)[0]? =ae (.int .i64 b.k):=rfl;have fY:row? (w.alloc (.cells (ints b.list) 48)) w.heap.size 1 8=ae (ints b.v):=by rw[(dq.new w 48 (ints b.list)).eb 1 8 (by simp[aQ.list,hb])];simp[aQ.list,<-hb]
 have HB:=af hb;clear hb;by_cases hs:cT b.k=aA
 ·have hk:0<=b.k/\b.k<=255:=by simpa[cT]using hs
  have hK:Hid (((b.k.toNat:Nat):Int)=b.k):=by unfold Hid;omega
  have hK2:b.k.toNat<256:=by omega
  have hEN:=af (rP b hs);have hEA:=af (λj hj=>AP b j hj hs)
  go_enter Tryz.func46,Tryz.ntmps46
  go_wp2_with fail
  refine(sS b.k _).mono ?_;rintro e w' ⟨rfl,rfl⟩;rw[hs];clear hs
  go_wp2_with fail
  go_loop [11] (λi=> ∃k:Nat,k<=8/\i=.int .i64 k/\ ∀j,j<k->kZ b j=0) (λi=>8-(intOf i).toNat)
  case atStart=>exact⟨0,by omega,rfl,by omega⟩
  case round=>
   obtain⟨k,sK,rfl,h0⟩:=hrel;have H0:=af h0;clear h0;by_cases bE:k<8
   ·have aiw:=OW b.v k bE HB.out;have hv:kZ b k=if b.k.toNat.testBit k=aw/\b.v.getD k 0≠0 then 4 else if b.v.getD k 0< -1000000000\/1000000000<b.v.getD k 0 then 1 else 0:=rfl
    have mI:=ID b.k.toNat k hK2 bE;rw[hK.out]at mI;generalize b.v.getD k 0=x at*;have hE:=λhe=>hEA.out k bE H0.out he
    cases hB:b.k.toNat.testBit k with
    |false=>
     rw[hB]at hv mI;have h1:(bits BinOp.and IntKind.i64 (b.k / 2^k) 1==0)=aA:=by rw[mI];rfl
     by_cases hx:x=0
     ·have h2:(x !=0)=aw:=by simp[hx]
      have h3: ¬x< -1000000000:=by omega
      have h4: ¬1000000000<x:=by omega
      have HN:Hid (∀j,j<k+1->kZ b j=0):=by
       intro j hj;by_cases tQ:j=k
       ·subst tQ;rw[hv];simp[hx]
       ·exact H0.out j (by omega)
      clear hx hv mI hB hE
      go_wp2
      go_round
      case rel=>exact⟨k+1,by omega,by go_num,HN.out⟩
      case measure=>simp[intOf];omega
     ·have h2:(x !=0)=aA:=by simpa using hx
      have HN:Hid (bK b=4):=by
       unfold Hid;have:kZ b k=4:=by rw[hv];simp[hx]
       rw[hE (by omega),this]
      clear hx hv mI hB hE
      go_wp2
      go_ret;exact⟨eF HN.out.symm,(Below.refl _ _).alloc (az _) _⟩
    |true=>
     rw[hB]at hv mI;have h1:(bits BinOp.and IntKind.i64 (b.k / 2^k) 1==0)=aw:=by rw[mI];rfl
     by_cases hx:x< -1000000000
     ·have HN:Hid (bK b=1):=by
       unfold Hid;have:kZ b k=1:=by rw[hv];simp[hx]
       rw[hE (by omega),this]
      clear hv mI hB hE
      go_wp2
      go_ret;exact⟨eF HN.out.symm,(Below.refl _ _).alloc (az _) _⟩
     ·by_cases Jc:1000000000<x
      ·have HN:Hid (bK b=1):=by
        unfold Hid;have:kZ b k=1:=by rw[hv];simp[Jc]
        rw[hE (by omega),this]
       clear hv mI hB hE
       go_wp2
       go_ret;exact⟨eF HN.out.symm,(Below.refl _ _).alloc (az _) _⟩
      ·have HN:Hid (∀j,j<k+1->kZ b j=0):=by
        intro j hj;by_cases tQ:j=k
        ·subst tQ;rw[hv];simp[hx,Jc]
        ·exact H0.out j (by omega)
       clear hv mI hB hE
       go_wp2
       go_round
       case rel=>exact⟨k+1,by omega,by go_num,HN.out⟩
       case measure=>simp[intOf];omega
   ·have zF:k=8:=by omega
    subst zF;have HN:=af (hEN.out H0.out)
    go_wp2
    go_ret;exact⟨eF HN.out.symm,(Below.refl _ _).alloc (az _) _⟩
 ·have GN:cT b.k=aw:=by simpa using hs
  have HN:Hid (bK b=1):=by unfold Hid bK;rw[if_neg hs]
  go_enter Tryz.func46,Tryz.ntmps46
  go_wp2_with fail
  refine(sS b.k _).mono ?_;rintro e w' ⟨rfl,rfl⟩;rw[GN];clear hs GN
  go_wp2_with fail
  go_ret;exact⟨eF HN.out.symm,(Below.refl _ _).alloc (az _) _⟩
end
section
open Go.RowKit
theorem Dm (m:Int)(q:Query)(w:ah):Calls Tryz.prog 89 #[.int .i64 m,.agg (ints q.list)] w λe w'=>e=.returned (.bool (fD m q))/\Below w.heap.size w w':=Mt m q.pK q.nt q.any w
theorem qc (q:Query)(w:ah):Calls Tryz.prog 93 #[.agg (ints q.list)] w λe w'=>e=.returned (.int .i64 (jZ q))/\Below w.heap.size w w':=by
 have i0:(ints q.list)[0]? =ae (.int .i64 q.pK):=rfl;have i1:(ints q.list)[1]? =ae (.int .i64 q.nt):=rfl;have i2:(ints q.list)[2]? =ae (.int .i64 q.any):=rfl;have adA:Hid (jZ q=if cT q.pK&&cT q.nt&&cT q.any then 0 else 1):=rfl;cases ha:cT q.pK<;>cases hb:cT q.nt<;>cases hc:cT q.any
 all_goals
  have HD:=af adA.out;rw[ha,hb,hc]at HD
  go_enter Tryz.func93,Tryz.ntmps93
  go_wp2_with fail
  refine(sS _ _).mono ?_;rintro e w' ⟨rfl,rfl⟩;rw[ha]
  go_wp2_with fail
  try(refine(sS _ _).mono ?_;rintro e w' ⟨rfl,rfl⟩;rw[hb];go_wp2_with fail)
  try(refine(sS _ _).mono ?_;rintro e w' ⟨rfl,rfl⟩;rw[hc];go_wp2_with fail)
  go_ret;exact⟨eF HD.out.symm,(Below.refl _ _).alloc (az _) _⟩
theorem Di (m:Int)(w:ah):Calls Tryz.prog 102 #[.int .i64 m] w λe w'=>e=.returned (.bool (cT m))/\w=w':=by
 by_cases h:0<=m
 ·have hv:Hid (cT m=decide (m<=255)):=by simp[Hid,cT,h]
  go_enter Tryz.func102,Tryz.ntmps102
  go_wp2
  go_ret;exact⟨dv hv.out.symm,rfl⟩
 ·have hv:Hid (cT m=aw):=by simp[Hid,cT,h]
  have h':m<0:=by omega
  clear h
  go_enter Tryz.func102,Tryz.ntmps102
  go_wp2
  go_ret;exact⟨dv hv.out.symm,rfl⟩
theorem Sv (s:Sys)(w:ah):Calls Tryz.prog 45 #[.agg (ints s.list)] w λe w'=>e=.returned (.int .i64 (eQ s))/\Below w.heap.size w w':=by
 have hB0:Hid (dq (w.alloc (.cells (ints s.list) 54)) w.heap.size 54 (ints s.list)):=dq.new _ _ _;have fY:row? (w.alloc (.cells (ints s.list) 54)) w.heap.size 0 3=ae (ints s.q.list):=hB0.out.eb 0 3 (by simp[Sys.list]);have i3:(ints s.list)[3]? =ae (.int .i64 s.read):=rfl;have i4:(ints s.list)[4]? =ae (.int .i64 s.write):=rfl;have i5:(ints s.list)[5]? =ae (.int .i64 s.act):=rfl;have i6:(ints s.list)[6]? =ae (.int .i64 s.n):=rfl;by_cases hq:jZ s.q=0
 ·have HD:Hid (eQ s=if !(cT s.read)|| !(cT s.write)||decide (s.act<1)||decide (3<s.act)||decide (s.n< -1000000)||decide (1000000<s.n)then 1
   else if(decide (s.act=3)&&decide (s.n≠0))||(decide (s.act≠2)&&decide (s.read≠0))then 4 else 0):=by
   unfold Hid eQ;rw[if_neg (by simp[hq])]
  cases hr:cT s.read<;>cases hw:cT s.write
  all_goals
   go_enter Tryz.func45,Tryz.ntmps45
   go_wp2_with fail
   refine(qc _ _).mono ?_;rintro e w1 ⟨rfl,lf⟩;rw[hq];have vX:dq w1 w.heap.size 54 (ints s.list):=hB0.out.after lf;have k3:w1.cell? ⟨w.heap.size,3,ai⟩=ae (.int .i64 s.read):=vX.cell 3;have k4:w1.cell? ⟨w.heap.size,4,ai⟩=ae (.int .i64 s.write):=vX.cell 4;have k5:w1.cell? ⟨w.heap.size,5,ai⟩=ae (.int .i64 s.act):=vX.cell 5;have k6:w1.cell? ⟨w.heap.size,6,ai⟩=ae (.int .i64 s.n):=vX.cell 6;have lf:=af (((Below.refl w.heap.size w).alloc (az _) (.cells (ints s.list) 54)).trans (lf.mono (by simp)))
   rename_i hbx
   clear hbx vX i3 i4 i5 i6 fY;rw[hr,hw]at HD;clear hq
   go_wp2_with fail
   refine(Di _ _).mono ?_;rintro e w' ⟨rfl,rfl⟩;rw[hr]
   go_wp2_with fail
   try(refine(Di _ _).mono ?_;rintro e w' ⟨rfl,rfl⟩;rw[hw];go_wp2_with fail)
   all_goals go_ret
   all_goals
    refine⟨eF ?_,lf.out⟩;rw[HD.out]
    first
     |rfl
     |(simp only[Bool.not_true,Bool.not_false,Bool.false_or,Bool.true_or,iU,aM,decide_eq_true_eq,bne_iff_ne,ne_eq,bne_eq_false_iff_eq]at*
       repeat' split
       all_goals first|rfl|omega)
 ·have HD:Hid (eQ s=jZ s.q):=by unfold Hid eQ;rw[if_pos hq]
  have h1:(jZ s.q !=0)=aA:=by simpa using hq
  clear hq
  go_enter Tryz.func45,Tryz.ntmps45
  go_wp2_with fail
  refine(qc _ _).mono ?_;rintro e w1 ⟨rfl,lf⟩;have lf:=af (((Below.refl w.heap.size w).alloc (az _) (.cells (ints s.list) 54)).trans (lf.mono (by simp)))
  go_wp2_with fail
  go_ret;exact⟨eF HD.out.symm,lf.out⟩
end
section
open Go.RowKit
structure ik where
 d:Int
 b:aQ
 a:Hd
 t:Hd
 k:Int
 n:Int
def ik.list (o:ik):List Int:=[o.d]++o.b.list++[o.a.1,o.a.2,o.t.1,o.t.2,o.k,o.n]
def ab2 (r:List Int):ik:=⟨r.getD 0 0,⟨r.getD 1 0,(r.drop 2).take 8⟩,(r.getD 10 0,r.getD 11 0),(r.getD 12 0,r.getD 13 0),r.getD 14 0,r.getD 15 0⟩
theorem Ax {r:List Int}(h:r.length=16):(ab2 r).list=r/\(ab2 r).b.v.length=8:=by
 match r,h with
 | [_,_,_,_,_,_,_,_,_,_,_,_,_,_,_,_],_=>exact⟨rfl,rfl⟩
def uP (w:ah)(B:Nat)(A:Option Addr)(os:List ik):Prop:=gu w B 16 A (os.map ik.list)
theorem uP.below {w w':ah}{B:Nat}{A:Option Addr}{ss:List ik}(h:uP w B A ss)(hb:Below B w w'):uP w' B A ss:=gu.below h hb
theorem uP.at_ {w:ah}{B:Nat}{A:Option Addr}{ss:List ik}(h:uP w B A ss){k:Nat}(hk:k<ss.length): ∃b o,A=ae ⟨b,o,ai⟩/\b<B/\row? w b (o+k*16) 16=ae (ints (ik.list ss[k])):=by obtain⟨b,o,e,hb,hr⟩:=gu.at_ h (k:=k) (by simpa using hk);exact⟨b,o,e,hb,by simpa using hr⟩
theorem ik.len {o:ik}(h:o.b.v.length=8):o.list.length=16:=by simp[ik.list,aQ.list,h]
end
section
open Go.RowKit
end
section
open Go.RowKit
end
section
open Go.RowKit
end
namespace Rel
open Go.Conc Go.ConcN
def Ends (P:aS)(Post:aq->ah->Prop)(m:Machine)(t:Trace):Prop:= ∃N last o w' t',runNT P (N+1) m t=(.ended o w',t')/\runN P N m=.next last/\step P last=.ended o w'/\Go.Conc.Good P Post last o w' t'
section
variable {P:aS} {Post:aq->ah->Prop} {Shun:Nat->Prop} {B:Nat} {gs:Array ay} {q:Nat->Nat} {t u:Trace} {w:ah} {sl:Option (Nat×Nat)} {a:ay}
theorem Ends.step {m m':Machine}{ops:Trace}(h:stepT P m=(.next m',ops))(k:Ends P Post m' (t++ops)):Ends P Post m t:=by obtain⟨N,last,o,w',t',h1,h2,h3,h4⟩:=k;exact⟨N+1,last,o,w',t',by rw[runNT_succ_next h];exact h1,by rw[runN_succ_next h];exact h2,h3,h4⟩
theorem Ends.now {m:Machine}{o:Outcome}{w':ah}{ops:Trace}(h:stepT P m=(.ended o w',ops))(k:Go.Conc.Good P Post m o w' (t++ops)):Ends P Post m t:=⟨0,m,o,w',t++ops,by simp[runNT,h],rfl,by simp[Go.step,h],k⟩
theorem Ends.runs {N:Nat}{m m':Machine}{t':Trace}(h:runNT P N m t=(.next m',t'))(k:Ends P Post m' t'):Ends P Post m t:=by
 obtain⟨N',last,o,w',t'',h1,h2,h3,h4⟩:=k;refine⟨N+N',last,o,w',t'',?_,?_,h3,h4⟩
 ·rw[Nat.add_assoc,runNT_add,h];exact h1
 ·rw[runN_add,<-runNT_fst P _ _ t,h];exact h2
theorem wT.mono {lo B':Nat}(h:wT Shun B lo t)(hB:B<=B'):wT Shun B' lo t:=⟨h.clean,h.known,h.over,h.hears,λop hop x hx=>Loc.low_mono hB (h.seen op hop x hx),h.gs⟩
theorem wT.app0 {lo:Nat}(h:wT Shun B lo t)(Kw:0<lo)(hu: ∀op∈u,op.g=0)(hs: ∀op∈u,∀x,op.act.touch? =ae x-> ¬ShL Shun x.loc)(hd:Deaf (t++u) 0=Deaf t 0)(hl: ∀op∈u,∀x,op.act.touch? =ae x->x.loc.low B):wT Shun B lo (t++u):=by
 refine⟨λsaid=>noRace_append (h.clean said) hu λi a ha op hop b hb hc=> ?_,λi a ha hm=> ?_,handedOver_app h.over λop hop=>.inl (hu op hop),hd.trans h.hears,λop hop x hx=>(ot.1 hop).elim (λy=>h.seen op y x hx) λy=>hl op y x hx,λi op hi=> ?_⟩
 ·rcases h.known i a ha hc.2.1 with hk|⟨hsa,hka⟩
  ·exact hk
  ·exact absurd (hc.1▸hsa) (hs op hop b hb)
 ·obtain⟨x,hx,Va⟩:=touch_of ha;rcases getElem?_append_cases hx with⟨_,L4⟩|⟨_,hxu⟩
  ·exact(h.known i a (by rw[touchAt_of L4];exact Va) hm).imp (·.app u) id
  ·have:=knows_own hx;rw[hu x hxu]at this;exact .inl this
 ·rcases getElem?_append_cases hi with⟨_,gj⟩|⟨_,U3⟩
  ·exact h.gs i op gj
  ·rw[hu op U3];exact Kw
theorem wT.mute {lo g:Nat}(h:wT Shun B lo t)(hg:g≠0)(Kw:g<lo)(hu: ∀op∈u,op.g=g)(hn: ∀op∈u,op.act.touch? =ai):wT Shun B lo (t++u):=by
 refine⟨λsaid=>noRace_append (h.clean said) hu λi a _ op hop b hb _=>(by rw[hn op hop]at hb;cases hb),λi a ha hm=> ?_,handedOver_app h.over λop hop=>.inr (hn op hop),(Deaf_other t hg u hu).trans h.hears,λop hop x hx=>(ot.1 hop).elim (λy=>h.seen op y x hx) λy=>(by rw[hn op y]at hx;cases hx),λi op hi=> ?_⟩
 ·obtain⟨x,hx,Va⟩:=touch_of ha;rcases getElem?_append_cases hx with⟨_,L4⟩|⟨_,hxu⟩
  ·exact(h.known i a (by rw[touchAt_of L4];exact Va) hm).imp (·.app u) id
  ·rw[hn x hxu]at Va;cases Va
 ·rcases getElem?_append_cases hi with⟨_,gj⟩|⟨_,U3⟩
  ·exact h.gs i op gj
  ·rw[hu op U3];exact Kw
theorem Co.mono {B':Nat}(h:Co P Shun B gs q t)(hB:B<=B'):Co P Shun B' gs q t:=⟨h.old,h.past.mono hB,h.pos,λb hb=>bX (h.Uh b hb) hB⟩
theorem Co.own (h:Co P Shun B gs q t){B':Nat}(hB:B<=B'){a':ay}(f:ay->ay)(hf: ∀o,o.status=.running\/o.status=.finished->f o=o)(hu: ∀op∈u,op.g=0)(hs: ∀op∈u,∀x,op.act.touch? =ae x-> ¬ShL Shun x.loc/\x.loc.low B')(hd:Deaf (t++u) 0=Deaf t 0):Co P Shun B' ((gs.map f).setIfInBounds 0 a') q (t++u):=by
 refine⟨λi x hi hx=> ?_,?_,by simp[h.pos],λb hb=>bX (h.Uh b hb) hB⟩
 ·rw[aO (by omega),gq]at hx;obtain⟨y,hy,rfl⟩:=aK.1 hx;have hq:=h.old i y hi hy;rw[hf y hq.status,Deaf_other t (g':=0) (by omega) _ hu];exact hq
 ·have:=(h.past.mono hB).app0 h.pos hu (λop hop x hx=>(hs op hop x hx).1) hd (λop hop x hx=>(hs op hop x hx).2);simpa using this
def EvX (Shun:Nat->Prop)(B:Nat)(e:Event):Prop:=(e.loc≠ .mark .disable/\e.loc≠ .mark .enable)/\ ∀x,(cN e).touch? =ae x-> ¬ShL Shun x.loc/\x.loc.low B
theorem Co.Rt (h:Co P Shun B gs q t){B':Nat}(hB:B<=B'){a':ay}{es:Array Event}(tn: ∀e∈es,EvX Shun B' e)(fn:bQ)(pos:String)(f:ay->ay)(hf: ∀o,o.status=.running\/o.status=.finished->f o=o):Co P Shun B' ((gs.map f).setIfInBounds 0 a') q (t++bW 0 fn pos es):=by refine h.own hB f hf (λop hop=>by obtain⟨e,_,rfl⟩:=bh hop;rfl) (λop hop x hx=>by obtain⟨e,he,rfl⟩:=bh hop;exact(tn e he).2 x hx) ?_;rw[Deaf_own];exact deafBehind_still (λe he=>(tn e he).1) _
theorem lN (ha:gs[0]? =ae a)(cG:a.status=.running)(h:Co P Shun B gs q t)(K: ∀(sH:Array ay) (q':Nat->Nat) (t':Trace) (yg:Option (Nat×Nat)) (d:Nat),sH.size=gs.size->sH[0]? =ae a->Co P Shun B sH q' t'->(∃o e8 ops,runT P (crowd sH (w.at d) yg) 0=(.ended o e8,ops)/\ ∀agI acN,Go.Conc.Good P Post (crowd sH agI acN) o e8 (t'++ops))\/ ∃m' ops,runT P (crowd sH (w.at d) yg) 0=(.next m',ops)/\Ends P Post m' (t'++ops)):Ends P Post (crowd gs w sl) t:=by
 obtain⟨M,hM⟩: ∃M,sumTo gs.size q=M:=⟨_,rfl⟩
 induction M using l7 generalizing gs q t w sl with
 |_ M ih=>
  have haw: ∀g∈gs,awake g:=by
   intro g hg;obtain⟨i,hi,rfl⟩:=Array.mem_iff_getElem.1 hg;rcases nR i with rfl|xI
   ·have:gs[0]=a:=by simpa[aX hi]using ha
    rw[this];exact awake_of (.inl cG)
   ·exact awake_of ((h.old i _ xI (aX hi)).status.elim .inl λx=>.inr (.inr x))
  obtain⟨i,g,d,yg,hi,hg,gI⟩:=crowd_pick (P:=P) (w:=w) (sl:=sl) haw ⟨0,a,ha,cG⟩;rcases nR i with rfl|xI
  ·rcases K gs q t yg d rfl ha h with⟨o,e8,ops,h1,h2⟩|⟨m',ops,h1,h2⟩
   ·exact .now (gI.trans h1) (h2 _ _)
   ·exact .step (gI.trans h1) h2
  ·have hq:=h.old i g xI hi;have qX:(i==0)=aw:=by simp;omega
   have bE:i<gs.size:=(aL.1 hi).1;cases hqi:q i with
   |zero=>rw[hqi]at hq;rw[hq.1]at hg;cases hg
   |succ k=>
    rw[hqi]at hq;rcases hq with⟨hf,_⟩|⟨_,g',es,hm,ahP,um⟩
    ·rw[hf]at hg;cases hg
    have yO:=runT_crowd_go (P:=P) (sl:=yg) (i:=i) hi (by rw[qX];exact ahP (w.at d));have LZ:sumTo gs.size (upd q i k)<sumTo gs.size q:=by have:=sumTo_upd q k id bE;simp only[id,hqi]at this;change sumTo gs.size (upd q i k)+(k+1)=sumTo gs.size q+k at this;omega
    have gY: ∀op∈bW i g.frame.fn g.frame.place es,op.g=i/\op.act.touch? =ai:=λop hop=>by obtain⟨e,he,rfl⟩:=bh hop;exact⟨rfl,touch_mute (hm e he)⟩
    have hwk: ∀o:ay,o.status=.running\/o.status=.finished->woken P g g' (w.at d) o=o:=λo ho=>by
     unfold Go.Conc.woken
     split
     ·exact again_running _ ho
     ·rfl
    have km:((gs.map (woken P g g' (w.at d))).setIfInBounds i g').size=gs.size:=by simp
    refine .step (gI.trans yO) (ih _ (by rw[<-hM];exact LZ) (gs:=(gs.map (woken P g g' (w.at d))).setIfInBounds i g') (q:=upd q i k) ?_ ?_ ?_ (by rw[km]))
    ·rw[aO (by omega),gq,ha,eY,hwk a (.inl cG)]
    ·refine⟨λj x hj hx=> ?_,?_,by rw[km];exact h.pos,h.Uh⟩
     ·by_cases OG:i=j
      ·subst OG;rw[aW (by simpa using bE)]at hx;obtain rfl:=aY hx;rw[upd_same,Deaf_own];exact um
      ·rw[aO OG,gq]at hx;obtain⟨y,hy,rfl⟩:=aK.1 hx;have hqj:=h.old j y hj hy;rw[hwk y hqj.status,upd_ne q k (Ne.symm OG),Deaf_other t OG _ (λop hop=>(gY op hop).1)];exact hqj
     ·rw[km];exact h.past.mute (by omega) bE (λop hop=>(gY op hop).1) λop hop=>(gY op hop).2
    ·intro sH q' t' ahX d' hs h0 hC;exact K sH q' t' ahX d' (hs.trans km) h0 hC
end
end Rel
namespace Rel
open Go.Conc Go.ConcN
def CF (c:fR)(π:Ren)(fr:bm):Prop:=se (c.at fr.fn) π fr.tmps fr.tmps/\fr.kind=.normal/\fr.defers=[]/\fr.roundOf=ai
theorem CF.mono {P:aS}{c:fR}{π bO:Ren}(e:Ext P π bO){fr:bm}(h:CF c π fr):CF c bO fr:=⟨h.1.mono e,h.2⟩
structure N0 (P:aS) (c:fR) (π:Ren) (Shun:Nat->Prop) (B:Nat) (gs:Array ay) (q:Nat->Nat) (t:Trace) (g:ay) (w:ah):Prop where
 sub:Sub π
 hp:ck P c.sig π w w
 RY: ∀b,π b b-> ¬Shun b
 le:B<=w.heap.size
 co:Co P Shun B gs q t
 g0:gs[0]? =ae g
 old: ∀b,Shun b->c.old<=b
def CY (P:aS)(c:fR)(Post:aq->ah->Prop)(g:ay)(w:ah):Prop:= ∀(tp:Tape) (d:Nat) (π:Ren) (gs:Array ay) (sl:Option (Nat×Nat)) (q:Nat->Nat) (t:Trace) (Shun:Nat->Prop) (B:Nat),N0 P c π Shun B gs q t g w->(∀fr∈g.frame::g.callers,CF c π fr)->Ends P Post (crowd gs (dB w tp d) sl) t
section
variable {P:aS} {c:fR} {Post:aq->ah->Prop}
theorem ck.rt {S:jy}{π:Ren}{L R:ah}(h:ck P S π L R)(t t':Tape)(d d':Nat):ck P S π (dB L t d) (dB R t' d'):=⟨h.ok,h.obj,h.ox,h.uz,h.old⟩
theorem ck.agG {S:jy}{π:Ren}{L:ah}(h:ck P S π L L)(t:Tape)(d:Nat):ck P S π (dB L t d) (dB L t d):=⟨h.ok,h.obj,h.ox,h.uz,h.old⟩
theorem CY.rt {g:ay}{w:ah}(h:CY P c Post g w)(tp:Tape)(d:Nat):CY P c Post g (dB w tp d):=by intro tp' d' π gs sl q t Shun B hh hf;exact h tp' d' π gs sl q t Shun B ⟨hh.sub,⟨hh.hp.ok,hh.hp.obj,hh.hp.ox,hh.hp.uz,hh.hp.old⟩,hh.RY,hh.le,hh.co,hh.g0,hh.old⟩ hf
theorem acr {π:Ren}{Shun:Nat->Prop}{w:ah}(s:Sub π)(hw:ck P c.sig π w w)(hv: ∀b,π b b-> ¬Shun b)(ho: ∀b,Shun b->c.old<=b){e:Event}(h:Ey c.sig π e):EvX Shun w.heap.size e:=by
 cases h with
 |cell wr hb=>obtain rfl:=s _ _ hb;refine⟨by simp,λx hx=> ?_⟩;rw[ofEvent_cell0]at hx;simp only[r6,dz]at hx;subst hx;exact⟨λ⟨b,e1,e2⟩=>by cases e1;exact hv _ hb e2,(hw.lt hb).2⟩
 |obj wr hb=>obtain rfl:=s _ _ hb;refine⟨by simp,λx hx=> ?_⟩;simp only[cN,r6,dz]at hx;subst hx;exact⟨λ⟨b,e1,e2⟩=>by cases e1;exact hv _ hb e2,(hw.lt hb).2⟩
 |room=>exact⟨by simp,λx hx=>by cases hx⟩
 |old hm=>obtain⟨_,_,h1,_⟩:=hw.old _ _ hm;refine⟨by simp,λx hx=> ?_⟩;rw[ofEvent_cell0]at hx;simp only[r6,dz]at hx;subst hx;refine⟨λ⟨b,e1,e2⟩=> ?_,Cc h1⟩;cases e1;have:=ho _ e2;have:=c.Jl _ _ hm;omega
def Qr (c:fR)(n:Nat)(e:Event):Prop:= ∃ad:Addr,e=⟨.cell ad,aw,aw⟩/\ad.block<c.old/\ad.block<n
theorem abh {Shun:Nat->Prop}{w:ah}{n:Nat}(ho: ∀b,Shun b->c.old<=b)(hw:n<=w.heap.size){e:Event}(h:Qr c n e):EvX Shun w.heap.size e:=by obtain⟨ad,rfl,bE,hn⟩:=h;refine⟨by simp,λx hx=> ?_⟩;rw[ofEvent_cell0]at hx;simp only[r6,dz]at hx;subst hx;refine⟨λ⟨b,e1,e2⟩=> ?_,bX hn hw⟩;cases e1;have:=ho _ e2;omega
theorem N0.step {π:Ren}{Shun:Nat->Prop}{B:Nat}{gs:Array ay}{q:Nat->Nat}{t:Trace}{g:ay}{w:ah}(h:N0 P c π Shun B gs q t g w)(hr:g.status=.running){g':ay}{w':ah}{es:Array Event}{bO:Ren}(e:Ext P π bO)(s':Sub bO)(jI:ck P c.sig bO w' w')(hn: ∀b,bO b b->π b b\/w.heap.size<=b)(km:w.heap.size<=w'.heap.size)(jq: ∀e∈es,Ey c.sig bO e\/Qr c w.heap.size e)(fn:bQ)(pos:String)(f:ay->ay)(hf: ∀o,o.status=.running\/o.status=.finished->f o=o):N0 P c bO Shun w'.heap.size ((gs.map f).setIfInBounds 0 g') q (t++bW 0 fn pos es) g' w':=by
 have hv: ∀b,bO b b-> ¬Shun b:=λb hb hs=>by
  rcases hn b hb with h1|h1
  ·exact h.RY b h1 hs
  ·have:=h.co.Uh b hs;have:=h.le;omega
 exact⟨s',jI,hv,az _,h.co.Rt (bP h.le km) (λe he=>(jq e he).elim (acr s' jI hv h.old) (abh h.old km)) fn pos f hf,by rw[aW (by simpa using h.co.pos)],h.old⟩
theorem ud (P:aS)(g g':ay)(w:ah)(o:ay)(ho:o.status=.running\/o.status=.finished):woken P g g' w o=o:=by
 unfold Go.Conc.woken
 split
 ·exact again_running _ ho
 ·rfl
theorem CY.step {g:ay}{w:ah}(hr:g.status=.running)(gI: ∀(tp:Tape) (d:Nat) (π:Ren),Sub π->ck P c.sig π w w->(∀fr∈g.frame::g.callers,CF c π fr)-> ∃g' w' es bO,stepG P aA g (dB w tp d)=.go g' w' es/\Ext P π bO/\Sub bO/\ck P c.sig bO w' w'/\(∀b,bO b b->π b b\/w.heap.size<=b)/\w.heap.size<=w'.heap.size/\(∀e∈es,Ey c.sig bO e\/Qr c w.heap.size e)/\(∀fr∈g'.frame::g'.callers,CF c bO fr)/\CY P c Post g' w'):CY P c Post g w:=by
 intro tp d π gs sl q t Shun B h hf;refine lN h.g0 hr h.co λsH q' t' yg d' hs h0 hC=>.inr ?_
 obtain⟨g',w',es,bO,hgo,e,s',jI,hn,km,jq,hf',hk⟩:=gI tp d' π h.sub h.hp hf;have hh:N0 P c π Shun B sH q' t' g w:=⟨h.sub,h.hp,h.RY,h.le,hC,h0,h.old⟩;exact⟨_,_,runT_crowd_go (P:=P) (sl:=yg) (i:=0) h0 hgo,hk w'.tape w'.drawn bO _ yg q' _ Shun _ (hh.step hr e s' jI hn km jq _ _ _ (ud P g g' w')) hf'⟩
theorem CY.ctl {g g':ay}{w:ah}(hr:g.status=.running)(gI: ∀w,stepG P aA g w=.go g' w #[])(hf: ∀π,ck P c.sig π w w->(∀fr∈g.frame::g.callers,CF c π fr)-> ∀fr∈g'.frame::g'.callers,CF c π fr)(k:CY P c Post g' w):CY P c Post g w:=.step hr λtp d π s hw hv=>⟨g',dB w tp d,#[],π,gI _,Ext.refl hw.ok,s,hw.rt _ _ _ _,λ_ h=>.inl h,az _,by simp,hf π hw hv,k.rt tp d⟩
theorem Qz {dc:fR}(hc:dc.Fits P)(XB:dc.sig=c.sig){k kR:List Item}{H:ay->ah->Prop}{cs:List bm}(K: ∀(gL g':ay) (w':ah) (bO:Ren),H gL w'->GR dc k kR [fC] cs bO gL g'->Sub bO->ck P c.sig bO w' w'->(∀fr∈cs,CF c bO fr)->CY P c Post g' w'/\ ∀fr∈g'.frame::g'.callers,CF c bO fr): ∀{gL:ay} {w:ah},LT P k H gL w-> ∀(g:ay) (tp:Tape) (d:Nat) (π:Ren) (gs:Array ay) (sl:Option (Nat×Nat)) (q:Nat->Nat) (t:Trace) (Shun:Nat->Prop) (B:Nat),N0 P c π Shun B gs q t g w->GR dc k kR [fC] cs π gL g->(∀fr∈cs,CF c π fr)->Ends P Post (crowd gs (dB w tp d) sl) t:=by
 intro gL w bE
 induction bE with
 |stop hH=>intro g tp d π gs sl q t Shun B h hg hv;obtain⟨h1,h2⟩:=K _ _ _ _ hH hg h.sub h.hp hv;exact h1 tp d π gs sl q t Shun B h h2
 |step gsL R6 esL hs gI oB ih=>
  rename_i gL w
  intro g tp d π gs sl q t Shun B h hg hv;have cG:g.status=.running:=by rw[hg.r]
  refine lN h.g0 cG h.co λsH q' t' yg d' km h0 hC=>.inr ?_
  have hwR:ck P c.sig π w ((dB w tp d).at d'):=h.hp.rt w.tape tp w.drawn d';rw[<-XB]at hwR;obtain⟨gR,R2,ev,bO,hgo,e,ll,jI,hd,jq⟩:=Ni hc hs gI hwR hg aA;rw[XB]at jI;have s':=h.sub.Zy hd rfl;have acw:=Am h.sub (L:=w) (R:=(dB w tp d).at d') rfl jI hd;have hR2:R2=dB (R6 tp d') R2.tape R2.drawn:=by have h2:=hd.os;have h3:=hd.output;have h4:=hd.osL;have h5:=hd.wy;have e4:(R6 tp d').os=w.os:=h4;have e5:(R6 tp d').output=w.output:=h5;have e2:R2.os=w.os:=h2;have e3:R2.output=w.output:=h3;have e1:R2.heap=(R6 tp d').heap:=acw;obtain⟨hp,tp1,dr,os,out⟩:=R2;simp only[dB];simp only at e1 e2 e3;rw[e1,e2,e3,<-e4,<-e5]
  have OU:ck P c.sig bO (R6 tp d') (R6 tp d'):=⟨jI.ok,λl r x=>by have:=jI.obj l r x;rw[acw]at this;exact this,jI.ox,jI.ox,λa x hx=>by obtain⟨g1,g2,g3,_⟩:=jI.old a x hx;exact⟨g1,g2,g3,g3⟩⟩;have hh:N0 P c π Shun B sH q' t' g w:=⟨h.sub,h.hp,h.RY,h.le,hC,h0,h.old⟩;refine⟨_,_,runT_crowd_go (P:=P) (sl:=yg) (i:=0) h0 hgo,?_⟩;have OJ: ∀b,bO b b->π b b\/w.heap.size<=b:=λb hb=>(hd.new b b hb).imp id λx=>x.1
  have hh':=hh.step (g':=gR) (w':=R6 tp d') cG e s' OU OJ hd.Ec (λe he=>.inl (by rw[<-XB];exact jq e he)) g.frame.fn g.frame.place _ (ud P g gR R2);rw[hR2];exact ih tp d' gR R2.tape R2.drawn bO _ yg q' _ Shun _ (by rw[<-hR2];exact hh') ll λfr mZ=>(hv fr mZ).mono e
end
end Rel
namespace Rel
open Go.Conc
def Cy (P:aS)(c:fR)(Post:aq->ah->Prop)(b:bm)(k:List Item)(cs:List bm):Exit->Act->ah->Prop
 | .normal,a,w=>CY P c Post (G (b.at a k) cs) w
 | .exit id,a,w=> ∃k',exitTo id k=ae k'/\CY P c Post (G (b.at a k') cs) w
 | .ret,a,w=> ∀todo,CY P c Post (G {b.at a todo with mode:=.returning} cs) w
 |_,_,_=>False
section
variable {P:aS} {c:fR} {Post:aq->ah->Prop}
theorem Cy.push {b:bm}{x:Item}{k:List Item}{cs:List bm}{e:Exit}{a:Act}{w:ah}(hx:x.plain=aA)(he:e≠ .normal)(h:Cy P c Post b k cs e a w):Cy P c Post b (x::k) cs e a w:=by
 cases e with
 |normal=>exact absurd rfl he
 |exit id=>obtain⟨k',hk,hg⟩:=h;exact⟨k',by cases x<;>simp_all[exitTo,Item.plain],hg⟩
 |ret=>exact h
 |goto l=>exact h
 |panic ch=>exact h
 |outgrown=>exact h
end
def eJ (P:aS)(c:fR)(Post:aq->ah->Prop)(fn:bQ)(x:Code)(Q:Exit->Act->ah->Prop)(a:Act)(w:ah):Prop:= ∀(b:bm) (k:List Item) (cs:List bm),b.fn=fn->b.kind=.normal->oE k=aA->(∀e a' w',Q e a' w'->Cy P c Post b k cs e a' w')->CY P c Post (G (b.at a (.code x::k)) cs) w
def sa (P:aS)(c:fR)(Post:aq->ah->Prop)(fn:bQ)(ops:Array Oper)(l:List Nat)(Q:Exit->Act->ah->Prop)(a:Act)(w:ah):Prop:= ∀(b:bm) (k:List Item) (cs:List bm),b.fn=fn->b.kind=.normal->oE k=aA->(∀e a' w',Q e a' w'->Cy P c Post b k cs e a' w')->CY P c Post (G (b.at a (.inRegion ops l::k)) cs) w
section
variable {P:aS} {c:fR} {Post:aq->ah->Prop} {fn:bQ} {Q Q':Exit->Act->ah->Prop} {a:Act} {w:ah}
theorem WN {π:Ren}{b:bm}{x y:List Item}{cs:List bm}(h: ∀fr∈(b.at a x)::cs,CF c π fr): ∀fr∈(b.at a y)::cs,CF c π fr:=by
 intro fr mZ;rcases cy.1 mZ with rfl|h'
 ·exact h (b.at a x) (by simp)
 ·exact h fr (by simp[h'])
theorem CY.move {b:bm}{x y:List Item}{cs:List bm}(gI: ∀w,stepG P aA (G (b.at a x) cs) w=.go (G (b.at a y) cs) w #[])(k:CY P c Post (G (b.at a y) cs) w):CY P c Post (G (b.at a x) cs) w:=.ctl rfl gI (λ_ _ h=>WN h) k
theorem xE {x:Code}(h:eJ P c Post fn x Q a w)(hq: ∀e a w,Q e a w->Q' e a w):eJ P c Post fn x Q' a w:=λb k cs hb hk hp hc=>h b k cs hb hk hp λe a' w' q=>hc e a' w' (hq e a' w' q)
theorem mH (h:Q .normal a w):eJ P c Post fn .skip Q a w:=λ_ _ _ _ _ _ hc=>.move (λ_=>stepG_skip) (hc _ _ _ h)
theorem mQ (h:Q .ret a w):eJ P c Post fn .ret Q a w:=λb k cs _ _ _ hc=>
 .ctl rfl (λ_=>stepG_ret') (λ_ _ hv fr mZ=>by
  rcases cy.1 mZ with rfl|h'
  ·exact hv (b.at a (.code .ret::k)) (by simp[G])
  ·exact hv fr (by simp[G]at h'⊢;exact .inr h')) (hc _ _ _ h _)
theorem Oh {id:Nat}(h:Q (.exit id) a w):eJ P c Post fn (.exit id) Q a w:=λb k cs _ _ _ hc=>by obtain⟨k',zF,hg⟩:=hc _ _ _ h;exact .move (λ_=>stepG_exit zF) hg
theorem ca {x y:Code}(h:eJ P c Post fn x (Exit.then (λa' w'=>eJ P c Post fn y Q a' w') Q) a w):eJ P c Post fn (.seq x y) Q a w:=by
 intro b k cs hb hk hp hc;refine .move (λ_=>stepG_seq) (h b (.code y::k) cs hb hk rfl λe a' w' q=> ?_);cases e with
 |normal=>exact q b k cs hb hk hp hc
 |exit id=>exact(hc _ _ _ q).push rfl (by simp)
 |ret=>exact(hc _ _ _ q).push (x:=.code y) rfl (by simp)
 |goto l=>exact hc _ _ _ q
 |panic ch=>exact hc _ _ _ q
 |outgrown=>exact hc _ _ _ q
theorem fS {o:cw}{x y:Code}{t:Bool}(hc:a.eval o=.bool t)(h:eJ P c Post fn (if t then x else y) Q a w):eJ P c Post fn (.cond o x y) Q a w:=λb k cs hb hk hp hq=>.move (λ_=>stepG_cond hc) (h b k cs hb hk hp hq)
theorem AW {id:Nat}{x:Code}(h:eJ P c Post fn x (Exit.inBlock id Q) a w):eJ P c Post fn (.block id x) Q a w:=by
 intro b k cs hb hk hp hc;refine .move (λ_=>stepG_block) (h b (.inBlock id::k) cs hb hk rfl λe a' w' q=> ?_);cases e with
 |normal=>exact .move (λ_=>stepG_inBlock) (hc _ _ _ q)
 |exit id'=>
  by_cases hid:id'=id
  ·simp only[Exit.inBlock,hid,if_true]at q;exact⟨k,by simp[exitTo,hid],hc _ _ _ q⟩
  ·simp only[Exit.inBlock,hid,if_false]at q;obtain⟨k',zF,hg⟩:=hc _ _ _ q;have:(id==id')=aw:=by simp;exact λh=>hid h.symm
   exact⟨k',by simp[exitTo,this,zF],hg⟩
 |ret=>exact λtodo=>hc _ _ _ q todo
 |goto l=>exact hc _ _ _ q
 |panic ch=>exact hc _ _ _ q
 |outgrown=>exact hc _ _ _ q
theorem Oi {x:Code}(I:Nat->Act->ah->Prop)(n:Nat)(h0:I n a w)(round: ∀n a w,I n a w->eJ P c Post fn x (Exit.then (λa' w'=> ∃n',n'<n/\I n' a' w') Q) a w):eJ P c Post fn (.loop x) Q a w:=by
 intro b k cs hb hk hp hc;have key: ∀n a w,I n a w->CY P c Post (G (b.at a (.code x::.inLoop x::k)) cs) w:=by
  intro n
  induction n using l7 with
  |_ n ih=>
   intro a w hI;refine round n a w hI b (.inLoop x::k) cs hb hk rfl λe a' w' q=> ?_
   cases e with
   |normal=>obtain⟨n',bE,hI'⟩:=q;exact .move (λ_=>stepG_inLoop) (ih n' bE a' w' hI')
   |exit id=>exact(hc _ _ _ q).push rfl (by simp)
   |ret=>exact(hc _ _ _ q).push (x:=.inLoop x) rfl (by simp)
   |goto l=>exact hc _ _ _ q
   |panic ch=>exact hc _ _ _ q
   |outgrown=>exact hc _ _ _ q
 exact .move (λ_=>stepG_loop) (key n a w h0)
theorem bB {id:Nat}{ops:Array Oper}(h:sa P c Post fn ops (aG ops.size) Q a w):eJ P c Post fn (.region id ops aw) Q a w:=λb k cs hb hk hp hc=>.move (λ_=>stepG_region) (h b k cs hb hk hp hc)
theorem aiL {P:aS}{c:fR}{Post:aq->ah->Prop}{fn:bQ}{Q:Exit->Act->ah->Prop}{a:Act}{w:ah}{id:Nat}{ops:Array Oper}{l:List Nat}(h:sa P c Post fn ops l Q a w)(hl:aG ops.size=l:=by simp only[au,aj,ax,Nat.reduceAdd,aC,aG,aB];rfl):eJ P c Post fn (.region id ops aw) Q a w:=by subst hl;exact bB h
theorem cY {ops:Array Oper}(h:Q .normal a w):sa P c Post fn ops [] Q a w:=λ_ _ _ _ _ _ hc=>.move (λ_=>stepG_region_end) (hc _ _ _ h)
theorem Zd {c:fR}{π:Ren}(h:se c π a.tmps a.tmps){v:aq}(d:Option Tmp)(hv:bx c.sig π v v\/ ∃t,d=ae t/\t∈c.bad/\lU c (c.kc t) v):se c π (a.put d v).tmps (a.put d v).tmps:=by
 unfold Act.put;cases d with
 |none=>exact h
 |some d=>
  rcases hv with hv|⟨t,e,ht,hk⟩
  ·exact h.set hv
  ·cases e;exact h.put (.inr ⟨ht,rfl,hk⟩)
theorem put_defers (a:Act)(d:Option Tmp)(v:aq):(a.put d v).defers=a.defers:=by unfold Act.put;cases d<;>rfl
theorem yF {π:Ren}{b:bm}{x y:List Item}{cs:List bm}(h: ∀fr∈(b.at a x)::cs,CF c π fr){v:aq}(d:Option Tmp)(hv:bx c.sig π v v\/ ∃t,d=ae t/\t∈c.bd b.fn/\lU c (c.kd b.fn t) v): ∀fr∈(b.at (a.put d v) y)::cs,CF c π fr:=by
 intro fr mZ;rcases cy.1 mZ with rfl|h'
 ·have h1:=h (b.at a x) (by simp);exact⟨Zd h1.1 d hv,h1.2.1,by show(a.put d v).defers=[];rw[put_defers];exact h1.2.2.1,rfl⟩
 ·exact h fr (by simp[h'])
theorem Hj {ops:Array Oper}{i:Nat}{rest:List Nat}{o:Oper}(ho:ops[i]? =ae o)(hw:bu o (yielded ops a.tmps)=aw)(h:sa P c Post fn ops rest Q (a.put o.dst undef) w):sa P c Post fn ops (i::rest) Q a w:=λb k cs hb hk hp hc=>.ctl rfl (λ_=>stepG_unwanted ho hw) (λπ _ hv=>yF hv _ (.inl (.tuple rfl (by simp)))) (h b k cs hb hk hp hc)
theorem yB {π:Ren}(h:se c π a.tmps a.tmps):EvB c π a.eval a.eval:=⟨λ_=>⟨rfl,rfl⟩,λt _=>h.afo t⟩
theorem tI {π:Ren}(h:se c π a.tmps a.tmps):nh c π a.eval a.eval:=by
 intro o ho;cases o with
 |tmp t=>
  have ho:c.bad.contains t=aw:=by simpa[eA]using ho
  exact h.getD (by simpa using ho)
 |const v=>exact vU 4 v ho π
 |global g=>cases ho
 |func f=>exact .func (.func ho) rfl (by simp) rfl (by simp)
theorem aJ (hc:c.Fits P){ops:Array Oper}{i:Nat}{rest:List Nat}{o:Oper}(ho:ops[i]? =ae o)(hw:bu o (yielded ops a.tmps)=aA)(wa:kz (c.at fn) o=aA){v:aq}{w':ah}(htp:w'.tape=w.tape/\w'.drawn=w.drawn)(hr: ∀tp d,(execOp a.eval o).run P (dB w tp d)=.ok (.value v) (dB w' tp d))(h:sa P c Post fn ops rest Q (a.put o.dst v) w'):sa P c Post fn ops (i::rest) Q a w:=by
 intro b k cs hb hk hp hq;refine .step rfl λtp d π s hw0 hv=> ?_
 have ht:=(hv (b.at a (.inRegion ops (i::rest)::k)) (by simp[G])).1;have LY:ck P c.sig π (dB w tp d) (dB w tp d):=hw0.agG tp d;rw[show(b.at a (.inRegion ops (i::rest)::k)).fn=fn from hb]at ht;have cG:=(Yy (hc.at fn) hw0.ok (tI (c:=c.at fn) ht) (yB (c:=c.at fn) ht) o wa).run LY #[] #[];have Kz:(execOp a.eval o).runT P (dB w tp d) #[]=(.ok (.value v) (dB w' tp d),(execOp a.eval o).events P (dB w tp d) #[]):=by rw[Sem.runT_eq,hr]
 rw[Kz]at cG;obtain⟨_,_,h3⟩:=cG;obtain⟨bO,v',R',ev,e,hR,um,jI,hd,_,jq⟩:=h3 λ_ _ _=>rfl
 rw[Kz,kq]at hR;simp only[Prod.mk.injEq,Result.ok.injEq]at hR;obtain⟨⟨h1,h2⟩,h3⟩:=hR;subst h1;subst h2;have s':=s.Zy hd rfl;have hvv:bx c.sig bO v v\/ ∃t,o.dst=ae t/\t∈c.bd b.fn/\lU c (c.kd b.fn t) v:=by
  rcases um with um|⟨v2,d2,e1,_,e3,e4,e5⟩
  ·cases um with
   |value hvv=>exact .inl hvv
  ·cases e1;exact .inr ⟨d2,e3,by rw[hb];exact e4,by rw[hb];exact e5⟩
 refine⟨_,_,_,bO,stepG_value ho hw (by rw[hk];decide) (hr tp d),e,s',jI,λb hb=>(hd.new b b hb).imp id λx=>x.1,hd.size,λx hx=>.inl (jq x ?_),yF (λfr mZ=>(hv fr mZ).mono e) _ hvv,(h b k cs hb hk hp hq).rt tp d⟩;rw[<-h3];exact j5 _ _ x hx
theorem Yf {ops:Array Oper}{i:Nat}{rest:List Nat}{o:Oper}(ho:ops[i]? =ae o)(hw:bu o (yielded ops a.tmps)=aA){v:aq}(hr: ∀tp d,(execOp a.eval o).run P (dB w tp d)=.ok (.value v) (dB w tp d))(jq: ∀tp d,∀e∈(execOp a.eval o).events P (dB w tp d) #[],Qr c w.heap.size e)(hv:(∀π,se (c.at fn) π a.tmps a.tmps->bx c.sig π v v)\/ ∃t,o.dst=ae t/\t∈c.bd fn/\lU c (c.kd fn t) v)(h:sa P c Post fn ops rest Q (a.put o.dst v) w):sa P c Post fn ops (i::rest) Q a w:=by
 intro b k cs hb hk hp hq;refine .step rfl λtp d π s hw0 hf=>⟨_,_,_,π,stepG_value ho hw (by rw[hk];decide) (hr tp d),Ext.refl hw0.ok,s,hw0.rt _ _ _ _,λ_ h=>.inl h,az _,λe he=>.inr (jq tp d e (j5 _ _ e he)),?_,(h b k cs hb hk hp hq).rt tp d⟩
 have ht:=(hf (b.at a (.inRegion ops (i::rest)::k)) (by simp[G])).1;rw[show(b.at a (.inRegion ops (i::rest)::k)).fn=fn from hb]at ht;exact yF hf _ (hv.imp (λh=>h π ht) λh=>by rw[hb];exact h)
theorem Lv {x y:bm}(h1:x.fn=y.fn)(h2:x.tmps=y.tmps)(h3:x.todo=y.todo)(h4:x.defers=y.defers)(h5:x.mode=y.mode)(h6:x.kind=y.kind)(h7:x.roundOf=y.roundOf):x=y:=by
 obtain⟨_,_,_,_,_,_,_⟩:=x;obtain⟨_,_,_,_,_,_,_⟩:=y;simp only at h1 h2 h3 h4 h5 h6 h7;subst h1;subst h2;subst h3;subst h4;subst h5;subst h6;subst h7
 rfl
theorem AX (hc:c.Fits P){x:Code}(hx:dm (c.at fn) x=aA)(hQ: ∀e a w,Q e a w->(e=.normal\/e=.ret)/\a.defers=[])(Kz: ∀e a w tp d,Q e a (dB w tp d)->Q e a w)(h: ∀tp d,x.wp P Q a (dB w tp d)):eJ P c Post fn x Q a w:=by
 intro b k cs hb hk hp hq tp d π gs sl q t Shun B hh hf;have mZ:=hf (b.at a (.code x::k)) (by simp[G]);have aaT:=mZ.1;rw[show(b.at a (.code x::k)).fn=fn from hb]at aaT;have hT:=Ga (c:=c.at fn) (its:=[.code x]) (Q:=Q) (hc.at fn) hk hh.sub hh.hp aaT mZ.2.2.1 (.cons (.code hx) .nil) (λe a w h=>(hQ e a w h).1) λt=>h t 0 b [sent] [fC]
 refine Qz (c:=c) (dc:=c.at fn) (k:=[sent]) (kR:=k) (cs:=cs) (hc.at fn) rfl ?_ hT _ tp d π gs sl q t Shun B hh ⟨rfl,rfl,.one (C3 hk aaT mZ.2.2.1 (.cons (.code hx) .nil) (Mm hp)) rfl⟩ λfr mZ=>hf fr (by simp[G];exact .inr mZ)
 intro gL g' w' bO hH hg s' jI hv;obtain⟨h1,a',t',d',afB⟩:=hH;obtain⟨e1,e2,gI⟩:=hg;have S2:r8 (c.at fn) [sent] k bO gL.frame g'.frame/\g'.callers=cs:=by
  have ahp:gL.callers=[fC]:=h1;rw[ahp]at gI;generalize hL:gL.frame::[fC]=l at gI;generalize hR:g'.frame::g'.callers=m at gI;cases gI with
  |one S2 _=>cases hL;cases hR;exact⟨S2,rfl⟩
  |cons _ S2 hr=>cases hL;have:=hr.lt;simp at this
 obtain⟨hF,sJ⟩:=S2;have yI:=hF;obtain⟨f1,f2,f3,f4,f5,f6,f7,f8,f9,_,_⟩:=yI;rcases afB with⟨hfe,um⟩|⟨todo,hfe,um⟩
 ·have um:=Kz _ _ _ _ _ um;have hda:=(hQ _ _ _ um).2;rw[hfe]at f1 f2 f3 f4 f5 f7 f9;have et:g'.frame.todo=k:=by
   have:KO (c.at fn) [sent] k bO [sent] g'.frame.todo:=f3;generalize g'.frame.todo=y at this;generalize hx:[sent]=x at this;cases this with
   |nil=>rfl
   |cons hi hr=>cases hx;cases hi;rename_i C8;cases C8
  have eg:g'=G (b.at a' k) cs:=by
   rw[e2,sJ];show jG g'.frame cs=_;congr 1;have ed:g'.frame.defers=[]:=by have f4:dj (mE bO) a'.defers g'.frame.defers:=f4;rw[hda]at f4;generalize g'.frame.defers=y at f4;cases f4;rfl
   have er:g'.frame.roundOf=ai:=by have f9:gw bO ai g'.frame.roundOf:=f9;generalize g'.frame.roundOf=y at f9;cases f9;rfl
   have em:a'.tmps=g'.frame.tmps:=se.eq s' f2;exact Lv f1 em.symm et (ed.trans hda.symm) f5 (f8.trans hk.symm) er
  rw[eg];refine⟨hq _ _ _ um,λfr mZ=> ?_⟩;rcases cy.1 mZ with rfl|h'
  ·exact⟨by have em:a'.tmps=g'.frame.tmps:=se.eq s' f2;have f2:se (c.at fn) bO a'.tmps g'.frame.tmps:=f2;rw[<-em]at f2;rw[<-hb]at f2;exact f2,hk,hda,rfl⟩
  ·exact hv fr h'
 ·have um:=Kz _ _ _ _ _ um;have hda:=(hQ _ _ _ um).2;rw[hfe]at f1 f2 f3 f4 f5 f7 f9;have eg:g'=G {b.at a' g'.frame.todo with mode:=.returning} cs:=by
   rw[e2,sJ];show jG g'.frame cs=_;congr 1;have ed:g'.frame.defers=[]:=by have f4:dj (mE bO) a'.defers g'.frame.defers:=f4;rw[hda]at f4;generalize g'.frame.defers=y at f4;cases f4;rfl
   have er:g'.frame.roundOf=ai:=by have f9:gw bO ai g'.frame.roundOf:=f9;generalize g'.frame.roundOf=y at f9;cases f9;rfl
   have em:a'.tmps=g'.frame.tmps:=se.eq s' f2;exact Lv f1 em.symm rfl (ed.trans hda.symm) f5 (f8.trans hk.symm) er
  rw[eg];refine⟨hq _ _ _ um _,λfr mZ=> ?_⟩;rcases cy.1 mZ with rfl|h'
  ·exact⟨by have em:a'.tmps=g'.frame.tmps:=se.eq s' f2;have f2:se (c.at fn) bO a'.tmps g'.frame.tmps:=f2;rw[<-em]at f2;rw[<-hb]at f2;exact f2,hk,hda,rfl⟩
  ·exact hv fr h'
end
end Rel
namespace Rel
open Go.Conc
section
variable {P:aS} {c:fR} {Post:aq->ah->Prop} {fn:bQ} {Q:Exit->Act->ah->Prop} {a:Act} {w:ah}
theorem za {π:Ren}(s:Sub π){w:ah}(hw:ck P c.sig π w w){F:Func}(hF:F.results.toList.all (rD c.bad)=aA){tmps:Array aq}(ht:se c π tmps tmps){v:aq}{t':Tape}{d':Nat}(hr:(results F tmps).run P (dB w t' d')=.ok v (dB w t' d'))(tp:Tape)(d:Nat): ∃bO ev,(results F tmps).runT P (dB w tp d) #[]=(.ok v (dB w tp d),ev)/\Ext P π bO/\Sub bO/\ck P c.sig bO w w/\(∀b,bO b b->π b b)/\bx c.sig bO v v/\ ∀e∈ev,Ey c.sig bO e:=by
 have cG:=(xT hw.ok F hF ht).run (hw.rt t' tp d' d) #[] #[];have Kz:(results F tmps).runT P (dB w t' d') #[]=(.ok v (dB w t' d'),(results F tmps).events P (dB w t' d') #[]):=by rw[Sem.runT_eq,hr]
 rw[Kz]at cG;obtain⟨_,_,h3⟩:=cG;obtain⟨bO,v',R',ev,e,hR,hv,jI,hd,Xd,jq⟩:=h3 λi q hi=>by omega
 have s':=s.Zy hd rfl;have hvv:v=v':=hv.eq s';subst hvv;have hh:R'.heap=w.heap:=Am s (L:=dB w t' d') (R:=dB w tp d) (L':=dB w t' d') rfl jI hd;have LB:R'=dB w tp d:=by
  have h1:R'.tape=tp:=hd.tape;have h2:R'.os=w.os:=hd.os;have h4:R'.output=w.output:=hd.output;have h5:R'.drawn=d:=by change R'.drawn+d'=d+d' at Xd;omega
  clear hd jI hR h3 Kz hr;obtain⟨hp,tp',dr,os,out⟩:=R';simp only at hh h1 h2 h4 h5;subst hh;subst h1;subst h2;subst h4;subst h5
  rfl
 subst LB;rw[kq]at hR;exact⟨bO,ev,hR,e,s',⟨jI.ok,jI.obj,jI.ox,jI.uz,jI.old⟩,λb hb=>(hd.new b b hb).elim id λx=>by have hl:=(jI.lt hb).1;have h1:w.heap.size<=b:=x.1;have h2:b<w.heap.size:=hl;omega,hv,jq⟩
theorem K8 {fr x:bm}{cs:List bm}{v:aq}{t':Tape}{d':Nat}(sO: ∀F,P.funcs[fr.fn]? =ae F->F.results.toList.all (rD (c.bd fr.fn))=aA)(hl:fr.leaving P (dB w t' d') (.returned v))(rj: ∀π,CF c π x->bx c.sig π v v->CF c π (x.finish v))(k:CY P c Post (G (x.finish v) cs) w):CY P c Post (G fr (x::cs)) w:=by
 obtain⟨hm,hd,hk,F,hF,hr⟩:=hl;refine .step rfl λtp d π s hw hv=> ?_
 have ht:=(hv fr (by simp[G])).1;obtain⟨bO,ev,hR,e,s',jI,hn,hvv,jq⟩:=za (c:=c.at fr.fn) s hw (sO F hF) ht hr tp d;have hs:stepG P aA (jG fr (x::cs)) (dB w tp d)=.go (jG (x.finish v) cs) (dB w tp d) (seen P fr.fn ev++ #[]):=by
  rw[iD aA fr _ _ (by rw[hm];simp),n5 aA fr _ _ hd hm,hF];simp only[phase,hR];have:doReturn P aA fr (x::cs) ai v (dB w tp d)=.go (jG (x.finish v) cs) (dB w tp d):=by unfold doReturn;simp only[hk]
  rw[this]
  rfl
 refine⟨_,_,_,bO,hs,e,s',jI.rt _ _ _ _,λb hb=>.inl (hn b hb),az _,λx hx=>.inl (jq x ?_),?_,k.rt tp d⟩
 ·rw[Array.append_empty]at hx;exact j5 _ _ x hx
 ·intro f hf;rcases cy.1 hf with rfl|h'
  ·exact rj bO ((hv x (by simp[G])).mono e) hvv
  ·exact(hv f (by simp[G];exact .inr (.inr h'))).mono e
theorem C1 {b:bm}{ops:Array Oper}{i:Nat}{rest:List Nat}{k:List Item}{v:aq}(π:Ren)(h:CF c π (b.at a (.inRegion ops (i::rest)::k)))(hv:bx c.sig π v v):CF c π ((b.at a (.inRegion ops (i::rest)::k)).finish v):=by rw[mV];exact⟨Zd h.1 _ (.inl hv),h.2.1,by show(a.put _ v).defers=[];rw[put_defers];exact h.2.2.1,rfl⟩
theorem K7 {b:bm}{k:List Item}{cs:List bm}{ops:Array Oper}{i:Nat}{rest:List Nat}{o:Oper}{f:bQ}{args:Array cw}{tE:Array aF}{F:Func}{x:Code}(ho:ops[i]? =ae o)(hw:bu o (yielded ops a.tmps)=aA)(hb:b.kind=.normal)(hop:o.op=.call {callee:=.value (.func f),args,argTypes:=tE})(hF:P.funcs[f]? =ae F)(hU:(F.name== "runtime.NumGoroutine")=aw)(hx:F.body=ae x)(po: ∀j u,args[j]? =ae u->uq (c.at b.fn) f j u=aA\/(j∈c.bd f/\lU c (c.kd f j) (a.eval u)))(h:CY P c Post (G (fu P f (args.map a.eval) .normal) (b.at a (.inRegion ops (i::rest)::k)::cs)) w):CY P c Post (G (b.at a (.inRegion ops (i::rest)::k)) cs) w:=by
 have jN:F.body.isNone=aw:=by rw[hx];rfl
 refine .ctl rfl (λw=> ?_) (λπ hw0 hv fr mZ=> ?_) h
 ·rw[stepG_enter ho hw (by rw[hb];decide) (run_call_body hop hF hU jN)];congr 1;unfold listed;rw[events_call_body hop hF hU jN];exact seen_none P _
 ·have ht:=(hv (b.at a (.inRegion ops (i::rest)::k)) (by simp[G])).1;rcases cy.1 mZ with rfl|h'
  ·refine⟨?_,rfl,rfl,rfl⟩;rw[show(G (fu P f (args.map a.eval) .normal) (b.at a (.inRegion ops (i::rest)::k)::cs)).frame=fu P f (args.map a.eval) .normal from rfl,enter_at _ hF hx];refine⟨rfl,λj u v hu hv=> ?_⟩;have L0:(args.map a.eval++eh (F.ntmps-(args.map a.eval).size) undef)[j]? =ae u:=hu;have Bb:(args.map a.eval++eh (F.ntmps-(args.map a.eval).size) undef)[j]? =ae v:=hv;rw[L0]at Bb;obtain rfl:=aY Bb;rw[Array.getElem?_append]at L0
   split at L0
   ·rw[gq]at L0;obtain⟨o',U9,rfl⟩:=aK.1 L0;rcases po j o' U9 with h1|h1
    ·exact EvB.arg (tI (c:=c.at b.fn) ht) (yB (c:=c.at b.fn) ht) h1
    ·exact .inr ⟨h1.1,rfl,h1.2⟩
   ·rw[Array.getElem?_replicate]at L0
    split at L0
    ·cases L0;exact .inl (.tuple rfl (by simp))
    ·cases L0
  ·exact hv fr h'
theorem Eh {kL kR:List Item}{π:Ren}{x y:bm}{bot bot' m:List bm}(h:tz c kL kR bot bot' π (x::bot) (y::m)):r8 c kL kR π x y/\m=bot'/\x.roundOf=ai:=by
 generalize hL:x::bot=l at h;generalize hR:y::m=r at h;cases h with
 |one mZ Dd=>cases hL;cases hR;exact⟨mZ,rfl,Dd⟩
 |cons _ mZ hr=>cases hL;have:=hr.lt;simp at this
theorem wu (hc:c.Fits P){ops:Array Oper}{i:Nat}{rest:List Nat}{o:Oper}{f:bQ}{args:Array cw}{tE:Array aF}{R:Ending->ah->Prop}(ho:ops[i]? =ae o)(hw:bu o (yielded ops a.tmps)=aA)(hop:o.op=.call {callee:=.value (.func f),args,argTypes:=tE})(hf:c.fn f=aA)(po:kY (c.at fn) f 0 args.toList=aA)(u9: ∀tp d,Calls P f (args.map a.eval) (dB w tp d) R)(hR: ∀e w,R e w-> ∃v,e=.returned v)(Kz: ∀v w tp d,R (.returned v) (dB w tp d)->R (.returned v) w)(rz: ∀v w',R (.returned v) w'->sa P c Post fn ops rest Q (a.put o.dst v) w'):sa P c Post fn ops (i::rest) Q a w:=by
 intro b k cs hb hk hp hq;obtain⟨F,x,hF,hx,_,hU,sO⟩:=hc.fn f hf;have ady: ∀(l:List cw) (j0:Nat),kY (c.at fn) f j0 l=aA-> ∀(j:Nat) u,l[j]? =ae u->uq (c.at fn) f (j0+j) u=aA:=by
  intro l
  induction l with
  |nil=>intro _ _ j u hj;simp at hj
  |cons x l ih=>
   intro j0 h j u hj;simp only[kY,aM]at h;cases j with
   |zero=>simp only[List.getElem?_cons_zero,dz]at hj;subst hj;exact h.1
   |succ j=>have:=ih (j0+1) h.2 j u (by simpa using hj);rwa[show j0+1+j=j0+(j+1)by omega]at this
 refine K7 ho hw hk hop hF (by simpa using hU) hx (λj u hj=>.inl (by rw[hb];have:=ady args.toList 0 po j u (by simpa using hj);rwa[aC]at this)) ?_
 intro tp d π gs sl q t Shun B hh hfv;have ht:=(hfv (b.at a (.inRegion ops (i::rest)::k)) (by simp[G])).1;rw[show(b.at a (.inRegion ops (i::rest)::k)).fn=fn from hb]at ht;have ha0:=EvB.acn (tI (c:=c.at fn) ht) (yB (c:=c.at fn) ht) po;have ha:uI c f π (args.map a.eval) (args.map a.eval):=⟨ha0.size,ha0.at_⟩;refine Qz (c:=c) (dc:=c.at f) (k:=[]) (kR:=[]) (cs:=b.at a (.inRegion ops (i::rest)::k)::cs) (hc.at f) rfl ?_ (xj (c:=c) hc hf hh.sub hh.hp ha hR u9) _ tp d π gs sl q t Shun B hh ⟨rfl,rfl,.one (r8.enter hc hf ha) rfl⟩ λfr mZ=>hfv fr (by simp[G]at mZ⊢;exact .inr mZ)
 intro gL g' w' bO hH hg s' jI hv;obtain⟨h1,NO,v,t',d',hr,hl⟩:=hH;obtain⟨e1,e2,gI⟩:=hg;rw[h1]at gI;obtain⟨yI,sJ,Dd⟩:=Eh gI;have heq:=yI.eq s';rw[<-heq]at yI e2;rw[e2,sJ];have rj:(b.at a (.inRegion ops (i::rest)::k)).finish v=b.at (a.put o.dst v) (.inRegion ops rest::k):=by rw[mV,ho];rfl
 refine⟨K8 (λF' yI=>by rw[NO,hF]at yI;cases yI;rw[NO];exact sO) hl C1 (by rw[rj];exact rz v w' (Kz _ _ _ _ hr) b k cs hb hk hp hq),λfr mZ=> ?_⟩;rcases cy.1 mZ with rfl|h'
 ·exact⟨by rw[NO];exact yI.tmps,yI.kind,hl.2.1,Dd⟩
 ·exact hv fr h'
def zM (P:aS)(F:Func)(R:aq->ah->Prop):Exit->Act->ah->Prop
 | .normal,a,w| .ret,a,w=> ∃v,(results F a.tmps).run P w=.ok v w/\R v w
 |_,_,_=>False
def uL (P:aS)(c:fR)(Post:aq->ah->Prop)(f:bQ)(args:Array aq)(w:ah)(R:aq->ah->Prop):Prop:= ∃F x,P.funcs[f]? =ae F/\(F.name== "runtime.NumGoroutine")=aw/\F.results.toList.all (rD (c.bd f))=aA/\F.body=ae x/\eJ P c Post f x (zM P F R) {tmps:=args++eh (F.ntmps-args.size) undef,defers:=[]} w
theorem pR {ops:Array Oper}{i:Nat}{rest:List Nat}{o:Oper}{f:bQ}{args:Array cw}{tE:Array aF}{R:aq->ah->Prop}(ho:ops[i]? =ae o)(hw:bu o (yielded ops a.tmps)=aA)(hop:o.op=.call {callee:=.value (.func f),args,argTypes:=tE})(po: ∀j u,args[j]? =ae u->uq (c.at fn) f j u=aA\/(j∈c.bd f/\lU c (c.kd f j) (a.eval u)))(u9:uL P c Post f (args.map a.eval) w R)(rz: ∀v w',R v w'->sa P c Post fn ops rest Q (a.put o.dst v) w'):sa P c Post fn ops (i::rest) Q a w:=by
 intro b k cs hb hk hp hq;obtain⟨F,x,hF,hU,sO,hx,QQ⟩:=u9;refine K7 ho hw hk hop hF hU hx (by rw[hb];exact po) ?_;rw[enter_at _ hF hx];have rj: ∀v,(b.at a (.inRegion ops (i::rest)::k)).finish v=b.at (a.put o.dst v) (.inRegion ops rest::k):=λv=>by rw[mV,ho];rfl
 have Db: ∀(a':Act) (w':ah) (todo:List Item),(∃v,(results F a'.tmps).run P w'=.ok v w'/\R v w')->CY P c Post (G {(base f).at a' todo with mode:=.returning} (b.at a (.inRegion ops (i::rest)::k)::cs)) w':=by rintro a' w' todo ⟨v,hr,hR⟩;intro tp d π gs sl q t Shun B hh hfv;have hd:a'.defers=[]:=(hfv {(base f).at a' todo with mode:=.returning} (by simp[G])).2.2.1;exact K8 (λF' yI=>by have:P.funcs[f]? =ae F':=yI;rw[hF]at this;cases this;exact sO) (t':=w'.tape) (d':=w'.drawn) ⟨rfl,hd,rfl,F,hF,hr⟩ C1 (by rw[rj];exact rz v w' hR b k cs hb hk hp hq) tp d π gs sl q t Shun B hh hfv
 refine QQ (base f) [] _ rfl rfl rfl λe a' w' q=> ?_
 cases e with
 |normal=>
  refine .ctl rfl (λ_=>stepG_end) (λπ _ hv fr mZ=> ?_) (Db a' w' [] q);rcases cy.1 mZ with rfl|h'
  ·exact hv ((base f).at a' []) (by simp[G])
  ·exact hv fr (by simp[G]at h'⊢;exact .inr h')
 |ret=>exact λtodo=>Db a' w' todo q
 |exit id=>exact q.elim
 |goto l=>exact q.elim
 |panic ch=>exact q.elim
 |outgrown=>exact q.elim
end
end Rel
end Go.Proofs.YtknejlcijdngoaaGreat
