/- Several texts in one, made short by a program of mine. -/
import Derived.Test.YtknejlcijdngoaaGreatTQ2
import Derived.Conc.CrowdComm
import Derived.Conc.CrowdStepC2
import Derived.Conc.Company
import Derived.Conc.CrowdRun
import Derived.Test.YtknejlcijdngoaaGreatProg
import Derived.WalkKit
import Derived.WalkSpells
import Derived.WalkLawsBesides
import Derived.Lib.Hide
import Derived.BigQuiet
import Derived.Shelf.Small.Bits
import Derived.Laws.StructEq
import Derived.Laws.ResultCell
import Derived.Laws.MakeOwn
set_option linter.defProp false
set_option linter.unusedVariables false
set_option linter.unusedSimpArgs false
set_option linter.unusedSectionVars false
set_option maxHeartbeats 16000000
set_option maxRecDepth 100000
open Array renaming empty_append→kU,ext'→oz,getElem?_eq_getElem→aX,getElem?_eq_some_iff→aI,getElem?_map→gM,getElem?_modify→bq,getElem?_setIfInBounds_ne→aK,getElem?_setIfInBounds_self_of_lt→aU,mem_append→o4,mem_of_getElem?→ug,range→rW
open Bool renaming and_eq_true→aG,eq_iff_iff→l8,false_eq_true→dP,not_eq_true'→iT,or_eq_true→gi,false→ay,true→aw
open Classical renaming byContradiction→gH
open Go renaming Frame→bp,FuncId→bK,Goroutine→au,Operand→cG,Program→aS,TypeId→aA,Value→ao,World→ah
open Go.Conc renaming mem_ofEvents→bj
open Go.ConcN renaming Mode→fB
open Go.ConcN.Mode renaming retag→qa
open Go.ConcR renaming mk→iJ
open Go.Frame renaming enter→fG
open Go.Instr renaming buildSlice→gh,fill→fI,loadAt→eh,storeAt→eZ
open Go.Lib renaming hid→af
open Go.MemAct renaming ofEvent→cX,touch?→sU
open Go.MemOp renaming ofEvents→ca
open Go.Proofs.Tryz renaming prog→aj
open Go.Result renaming andThen_ok→ij
open Go.Sem renaming run_bind→eH
open Go.Value renaming cells→iQ,int→aF,oneCell'→kT
open Go.World renaming block_lt_of_cell?→rX,cell?→c8,ownsRow_nil→oh,setCell→dJ,setChan→qj
open Int renaming toNat_natCast→fw
open List renaming append_assoc→cx,append_nil→ew,drop_append→qd,drop_of_length_le→iU,drop_succ_cons→mZ,eq_nil_of_length_eq_zero→ft,foldl_cons→l9,getD→bB,getElem?_eq_getElem→aq,getElem?_eq_some_iff→bz,getElem?_map→dN,getElem?_take→ie,length_append→aZ,length_cons→aD,length_map→aL,length_nil→aP,length_take→cK,map_append→ey,map_cons→eN,mem_cons→cj,mem_iff_getElem→dK,mem_map→aH,mem_of_getElem?→pM,mem_of_mem_take→pN,mem_range→ng,mem_toArray→qi,nil_append→cy,not_mem_nil→jH,range→bP,range'→gg,replicate→bW,set_append_right→oA,take_of_length_le→ck
open Nat renaming add_assoc→sZ,add_comm→dA,add_mul→gY,add_sub_cancel_left→iL,add_zero→lC,eq_zero_or_pos→lQ,le_refl→ax,le_trans→bM,lt_or_ge→ec,mul_le_mul_right→fC,one_mul→jE,strongRecOn→mQ,zero_add→bS,zero_le→cE
open Option renaming map_eq_some_iff→aJ,map_some→fS,none→ai,some→ae
open Option.some renaming inj→be,injEq→dS
open Or renaming inl→bm,inr→bO
namespace Go.Proofs.YtknejlcijdngoaaGreat
namespace Rel
open Go.Conc Go.ConcN
open Go.ConcR (KK WgAt rd wr mk Payload DC0 stA smA)
variable [Payload]
def fL (w:ah)(r:Nat):Option (aA×Nat×Nat×Nat):=match w.heap[r]? with|some (.cells c elem f)=>ae (elem,c.size,f)|_=>ai
structure Ph where
 P:aS
 ty:aA
 Wg:Nat
 Ch:Nat
 n:Nat
 nj:Nat
 lo:Nat
 jv:Nat->ao
 z:ao
 oS:Nat->Prop
 Std:Nat->Prop
 CB:Nat->Prop
 jl:Nat->Addr->Prop
 J0:Nat->ah->Prop
 JP:(Nat->Prop)->Nat->ah->Prop
structure Gh where
 own:Nat->Prop
 held:Nat->Prop
 over:Prop
def Gh.grow (γ:Gh)(w w':ah):Gh:={γ with own:=λb=>γ.own b\/(w.heap.size<=b/\b<w'.heap.size)}
def Gh.hold (γ:Gh)(i:Nat):Gh:={γ with held:=λk=>γ.held k\/k=i}
def Gh.close (γ:Gh):Gh:={γ with over:=True}
def wE:Loc->Option Nat
 | .cell a=>ae a.block
 | .obj r=>ae r
 |_=>ai
variable (φ:Ph)
structure Ph.e9 (γ:Gh) (w az:ah):Prop where
 own: ∀b,γ.own b->az.heap[b]? =w.heap[b]?
 rd: ∀b,φ.oS b->az.heap[b]? =w.heap[b]?
 cell: ∀i a,γ.held i->φ.jl i a->az.cell? a=w.cell? a
 pay: ∀b,φ.CB b->fL az b=fL w b
 live:WgLive φ.ty φ.Wg w->WgLive φ.ty φ.Wg az
 size:w.heap.size<=az.heap.size
 tape:az.tape=w.tape
 os:az.os=w.os
 output:az.output=w.output
def Ph.Acc (γ:Gh)(e:Event):Prop:=(∃m,e=⟨.mark m,ay,aw⟩/\(m=.noRoom\/ ∃f,m=.extern f))\/(e.sync=ay/\ ∃b,wE e.loc=ae b/\(γ.own b\/(∃i a,γ.held i/\φ.jl i a/\e.loc=.cell a)\/(e.write=ay/\φ.oS b)))
structure Ph.CN (γ:Gh) (w w':ah) (es:Array Event):Prop where
 rest: ∀b,b<w.heap.size-> ¬γ.own b-> ¬φ.CB b->w'.heap[b]? =w.heap[b]?
 cells: ∀a,φ.CB a.block->(∀i,γ.held i-> ¬φ.jl i a)->w'.cell? a=w.cell? a
 pay: ∀b,φ.CB b->fL w' b=fL w b
 size:w.heap.size<=w'.heap.size
 tape:w'.tape=w.tape
 os:w'.os=w.os
 output:w'.output=w.output
 ev: ∀e∈es,φ.Acc (γ.grow w w') e
def Ph.got (g:au)(v:ao)(open_:Bool):au:=Go.Conc.served g (.tuple #[v,.bool open_])
def Ph.TJ (γ:Gh)(g:au)(w:ah):Prop:=
 ∃C v m,γ.over/\γ.own C/\(∀i,γ.held i->φ.JP (λb=>γ.own b/\b≠C) i w)/\PayAt C 1 w/\
  Goes φ.P ay (RW φ.ty φ.Wg C 1 0 0) (DWs φ.Wg (λ_ _=>False) (λ_ _=>False) C 1 1) (AtR0 φ.P φ.ty φ.Wg C 1 0 1 v) m g w
inductive Ph.WT:Gh->au->ah->Prop
 |tail {γ:Gh} {g:au} {w:ah}:φ.TJ γ g w->Ph.WT γ g w
 |step {γ:Gh} {g:au} {w:ah} (g':ah->au) (w':ah->ah) (es:ah->Array Event):g.status=.running->
   (∀az,φ.e9 γ w az->stepG φ.P ay g az=.go (g' az) (w' az) (es az)/\φ.CN γ az (w' az) (es az))->
   (∀az,φ.e9 γ w az->Ph.WT (γ.grow az (w' az)) (g' az) (w' az))->Ph.WT γ g w
 |recv {γ:Gh} {g:au} {w:ah}:g.status=.running->
   (∀az,φ.e9 γ w az->stepG φ.P ay g az=.comm g #[rcase φ.Ch φ.z] aw (.recv aw) az #[])->
   (∀az i,φ.e9 γ w az->i<φ.nj-> ¬γ.held i->φ.J0 i az->Ph.WT (γ.hold i) (Ph.got g (φ.jv i) aw) az)->
   (∀az,φ.e9 γ w az->Ph.WT γ.close (Ph.got g φ.z ay) az)->Ph.WT γ g w
structure Ph.Ok:Prop where
 hCW:φ.Ch≠φ.Wg
 rdW: ¬φ.oS φ.Wg
 rdC: ¬φ.oS φ.Ch
 Wb: ¬φ.CB φ.Wg
 cbC: ¬φ.CB φ.Ch
 Xz: ∀b,φ.CB b-> ¬φ.oS b
 ag7: ¬φ.Std φ.Wg
 air: ¬φ.Std φ.Ch
 afH: ∀b,φ.CB b-> ¬φ.Std b
 nw: ∀i a,φ.jl i a->φ.CB a.block
 EC: ∀i i' a,φ.jl i a->φ.jl i' a->i=i'
 jp: ∀(o:Nat->Prop) (w az:ah) (i:Nat),(∀b,o b->az.heap[b]? =w.heap[b]?)->(∀a,φ.jl i a->az.cell? a=w.cell? a)->φ.JP o i w->φ.JP o i az
 j0: ∀(w az:ah) (i:Nat),(∀a,φ.jl i a->az.cell? a=w.cell? a)->φ.J0 i w->φ.J0 i az
 Ba: ∀(o o':Nat->Prop) (w:ah) (i:Nat),(∀b,o b->o' b)->φ.JP o i w->φ.JP o' i w
 zN:0<φ.lo
 n31:φ.n<2147483648
variable {φ}
def Ph.e9.refl (γ:Gh)(w:ah):φ.e9 γ w w:=⟨λ_ _=>rfl,λ_ _=>rfl,λ_ _ _ _=>rfl,λ_ _=>rfl,id,ax _,rfl,rfl,rfl⟩
def Ph.e9.trans {γ:Gh}{a b c:ah}(h:φ.e9 γ a b)(k:φ.e9 γ b c):φ.e9 γ a c:=⟨λx y=>(k.own x y).trans (h.own x y),λx y=>(k.rd x y).trans (h.rd x y),λi x y z=>(k.cell i x y z).trans (h.cell i x y z),λx y=>(k.pay x y).trans (h.pay x y),k.live∘h.live,bM h.size k.size,k.tape.trans h.tape,k.os.trans h.os,k.output.trans h.output⟩
def Ph.e9.rw' {γ:Gh}{C:Nat}(hC:γ.own C){a b:ah}(h:φ.e9 γ a b):RW φ.ty φ.Wg C 1 0 0 a b:=⟨λx hx _ _=>absurd hx (Nat.not_lt_zero _),h.live,λ⟨cs,h1,h2⟩=>⟨cs,(h.own C hC).trans h1,h2⟩,cell_of_block (h.own C hC) 0⟩
def Ph.TJ.rely (O:φ.Ok){γ:Gh}{g:au}{w az:ah}(h:φ.TJ γ g w)(r:φ.e9 γ w az):φ.TJ γ g az:=by obtain⟨C,v,m,hO,hC,hJ,⟨cs,h1,h2⟩,hG⟩:=h;exact⟨C,v,m,hO,hC,λi hi=>O.jp _ w az i (λb hb=>r.own b hb.1) (λa ha=>r.cell i a hi ha) (hJ i hi),⟨cs,(r.own C hC).trans h1,h2⟩,Goes.rely (λ_ _ _ h1 h2=>h1.trans h2) hG (r.rw' hC)⟩
def Ph.WT.status {γ:Gh}{g:au}{w:ah}(h:φ.WT γ g w):g.status=.running:=by
 cases h with
 |tail h=>obtain⟨C,v,m,_,_,_,_,hG⟩:=h;exact Goes.running (λ_ _ x=>x.1) w (RW.refl w) hG
 |step _ _ _ h _ _=>exact h
 |recv h _ _ _=>exact h
abbrev WX:=Gh×au×ah
def Ph.Sub (φ:Ph)(y x:WX):Prop:=
 ¬φ.TJ x.1 x.2.1 x.2.2/\ ∃az,φ.e9 x.1 x.2.2 az/\
  ((∃es,stepG φ.P ay x.2.1 az=.go y.2.1 y.2.2 es/\y.1=x.1.grow az y.2.2)\/
   (∃g cs sh es,stepG φ.P ay x.2.1 az=.comm g cs aw sh az es/\y.2.2=az/\
     ((∃i,i<φ.nj/\ ¬x.1.held i/\φ.J0 i az/\y.1=x.1.hold i/\y.2.1=Ph.got x.2.1 (φ.jv i) aw)\/(y.1=x.1.close/\y.2.1=Ph.got x.2.1 φ.z ay))))
def Ph.WT.acc {γ:Gh}{g:au}{w:ah}(h:φ.WT γ g w):_root_.Acc φ.Sub (γ,g,w):=by
 induction h with
 |tail h=>exact⟨_,λy hy=>absurd h hy.1⟩
 | @step γ g w g' w' es hr gI mW ih=>
   refine⟨_,?_⟩;rintro⟨γ2,g2,w2⟩ ⟨_,az,hrel,hy⟩;obtain⟨h1,_⟩:=gI az hrel;rcases hy with⟨es2,h2,h3⟩|⟨_,_,_,_,h2,_⟩
   ·simp only at h2 h3 hrel;rw[h1]at h2;cases h2;subst h3;exact ih az hrel
   ·simp only at h2;rw[h1]at h2;cases h2
 | @recv γ g w hr gI M' sM ih1 ih2=>
   refine⟨_,?_⟩;rintro⟨γ2,g2,w2⟩ ⟨_,az,hrel,hy⟩;have h1:=gI az hrel;rcases hy with⟨es2,h2,h3⟩|⟨_,_,_,_,h2,h3,h4⟩
   ·simp only at h2;rw[h1]at h2;cases h2
   ·simp only at h3;subst h3;rcases h4 with⟨i,hi,hn,P',h5,h6⟩|⟨h5,h6⟩
    ·simp only at h5 h6;subst h5;subst h6;exact ih1 _ i hrel hi hn P'
    ·simp only at h5 h6;subst h5;subst h6;exact ih2 _ hrel
end Rel
namespace Rel
open Go.Conc Go.ConcN
open Go.ConcR (KK WgAt rd wr mk Payload DC0 stA smA)
variable [Payload] (φ:Ph)
structure Ph.MR (μ:Nat->Prop) (w az:ah):Prop where
 Z6: ∀b,φ.Std b->az.heap[b]? =w.heap[b]?
 own: ∀b,μ b->az.heap[b]? =w.heap[b]?
 rd: ∀b,φ.oS b->az.heap[b]? =w.heap[b]?
 pay: ∀b,φ.CB b->fL az b=fL w b
 live:WgLive φ.ty φ.Wg w->WgLive φ.ty φ.Wg az
 size:w.heap.size<=az.heap.size
 tape:az.tape=w.tape
 os:az.os=w.os
 output:az.output=w.output
def Ph.EvM (μ:Nat->Prop)(e:Event):Prop:=
 e=⟨.mark .noRoom,ay,aw⟩\/(∃a,a.block=φ.Wg/\(e=⟨.mark (.read a),ay,aw⟩\/e=⟨.mark (.write a),ay,aw⟩))\/
  (e.sync=ay/\ ∃b,wE e.loc=ae b/\(μ b\/(e.write=ay/\φ.oS b)))
def Ph.DM (μ:Nat->Prop)(w w':ah)(es:Array Event):Prop:=w'=w/\ ∀e∈es,φ.EvM μ e
structure Ph.Al (w w':ah):Prop where
 rest: ∀b,b<w.heap.size->w'.heap[b]? =w.heap[b]?
 size:w.heap.size<=w'.heap.size
 tape:w'.tape=w.tape
 os:w'.os=w.os
 output:w'.output=w.output
def vk (μ:Nat->Prop)(w w':ah):Nat->Prop:=λb=>μ b\/(w.heap.size<=b/\b<w'.heap.size)
abbrev Ph.GP (μ:Nat->Prop)(Stop:au->ah->Prop)(m:Nat)(g:au)(w:ah):Prop:=Goes φ.P aw (φ.MR μ) (φ.DM μ) Stop m g w
section
variable (μ:Nat->Prop) (Goal:au->ah->Prop) (AnchW:au->ah->Prop)
def Ph.AtRet (g:au)(w:ah):Prop:=g.status=.running/\Goal g w
def Ph.AtAcq (g:au)(w:ah):Prop:=g.status=.running/\ ∃g',stepG φ.P aw g w=.go g' w #[iJ (.acquire (stA φ.Wg))]/\ ∃m,φ.GP μ (Ph.AtRet Goal) m g' w
def Ph.AtKe (g:au)(w:ah):Prop:=g.status=.running/\ ∃g',stepG φ.P aw g w=.go g' w #[iJ .enable]/\ ∃m,φ.GP μ (φ.AtAcq μ Goal) m g' w
def Ph.AtW4 (g:au)(w:ah):Prop:=g.status=.running/\(WgAt φ.ty φ.Wg w 0 0-> ∃g',stepG φ.P aw g w=.go g' w #[rd (stA φ.Wg)]/\ ∃m,φ.GP μ (φ.AtKe μ Goal) m g' w)
def Ph.AtW3 (g:au)(w:ah):Prop:=
 g.status=.running/\g.offers=ai/\
  ((∃st,WgAt φ.ty φ.Wg w st 0)->stepG φ.P aw g w=.go {g with status:=.blocked} w #[])/\
  (WgAt φ.ty φ.Wg w 0 1-> ∃g',stepG φ.P aw g w=.go g' (w.setCell (smA φ.Wg) (.int .u32 0)) (semEvents (smA φ.Wg))/\ ∃m,φ.GP μ (φ.AtW4 μ Goal) m g' (w.setCell (smA φ.Wg) (.int .u32 0)))
def Ph.AtW2 (vs:Nat)(g:au)(w:ah):Prop:=
 g.status=.running/\ ∀v:Nat,v<2147483648->WgAt φ.ty φ.Wg w (v*KK) 0->
  (v=vs-> ∃g',stepG φ.P aw g w=.go g' (w.setCell (stA φ.Wg) (.int .u64 (v*KK+1))) #[rd (stA φ.Wg),wr (stA φ.Wg)]/\ ∃m,φ.GP μ (φ.AtW3 μ Goal) m g' (w.setCell (stA φ.Wg) (.int .u64 (v*KK+1))))/\
  (v≠vs-> ∃g',stepG φ.P aw g w=.go g' w #[rd (stA φ.Wg)]/\ ∃m,φ.GP μ AnchW m g' w)
def Ph.AtW1 (g:au)(w:ah):Prop:=g.status=.running/\ ∀v:Nat,v<2147483648->WgAt φ.ty φ.Wg w (v*KK) 0-> ∃g',stepG φ.P aw g w=.go g' w #[rd (stA φ.Wg)]/\(v=0-> ∃m,φ.GP μ (φ.AtKe μ Goal) m g' w)/\(v≠0-> ∃m,φ.GP μ (φ.AtW2 μ Goal AnchW v) m g' w)
def Ph.AtKd (g:au)(w:ah):Prop:=g.status=.running/\ ∃g',stepG φ.P aw g w=.go g' w #[iJ .disable]/\ ∃m,φ.GP μ AnchW m g' w
end
section
variable (Next:(Nat->Prop)->au->ah->Prop) (μ:Nat->Prop)
def Ph.AtGoS (g:au)(w:ah):Prop:=g.status=.running/\ ∃g' child hb,stepG φ.P aw g w=.spawn g' child w #[]/\(∀b,hb b->μ b)/\φ.WT ⟨hb,λ_=>False,False⟩ child w/\Next (λb=>μ b/\ ¬hb b) g' w
def Ph.AtKeS (g:au)(w:ah):Prop:=g.status=.running/\ ∃g',stepG φ.P aw g w=.go g' w #[iJ .enable]/\ ∃m,φ.GP μ (φ.AtGoS Next μ) m g' w
def Ph.AtA1 (g:au)(w:ah):Prop:=
 g.status=.running/\ ∀v:Nat,v<2147483647->WgAt φ.ty φ.Wg w (v*KK) 0->
  ∃g',stepG φ.P aw g w=.go g' (w.setCell (stA φ.Wg) (.int .u64 ((v+1)*KK))) #[rd (stA φ.Wg),wr (stA φ.Wg)]/\
   ∃m,φ.GP μ (φ.AtKeS Next μ) m g' (w.setCell (stA φ.Wg) (.int .u64 ((v+1)*KK)))
def Ph.AtKdS (g:au)(w:ah):Prop:=g.status=.running/\ ∃g',stepG φ.P aw g w=.go g' w #[iJ .disable]/\ ∃m,φ.GP μ (φ.AtA1 Next μ) m g' w
def Ph.W5 (St:(Nat->Prop)->au->ah->Prop)(g:au)(w:ah):Prop:=g.status=.running/\ ∃g' w' es,stepG φ.P aw g w=.go g' w' es/\Ph.Al w w'/\(∀e∈es,φ.EvM (vk μ w w') e)/\ ∃m,φ.GP (vk μ w w') (St (vk μ w w')) m g' w'
end
def Ph.Spawns (Fin:(Nat->Prop)->au->ah->Prop):Nat->(Nat->Prop)->au->ah->Prop
 |0,μ,g,w=>Fin μ g w
 |r+1,μ,g,w=> ∃m,φ.GP μ (φ.W5 μ λμ=>φ.W5 μ λμ=>φ.AtKdS (Ph.Spawns Fin r) μ) m g w
variable (Goal:au->ah->Prop) (AnchW:(Nat->Prop)->au->ah->Prop)
def Ph.Fin (μ:Nat->Prop)(g:au)(w:ah):Prop:= ∃m,φ.GP μ (φ.AtKd μ (AnchW μ)) m g w
inductive Ph.k7:CTag->Nat->Nat->(Nat->Prop)->au->ah->Prop
 |LM {r m:Nat} {μ:Nat->Prop} {g:au} {w:ah}:r<φ.n->φ.GP μ (φ.W5 μ λμ=>φ.W5 μ λμ=>φ.AtKdS (φ.Spawns (φ.Fin AnchW) r) μ) m g w->Ph.k7 (.sp r 7) m 0 μ g w
 |al2 {r m:Nat} {μ:Nat->Prop} {g:au} {w:ah}:r<φ.n->φ.GP μ (φ.W5 μ λμ=>φ.AtKdS (φ.Spawns (φ.Fin AnchW) r) μ) m g w->Ph.k7 (.sp r 6) m 0 μ g w
 |skd {r m:Nat} {μ:Nat->Prop} {g:au} {w:ah}:r<φ.n->φ.GP μ (φ.AtKdS (φ.Spawns (φ.Fin AnchW) r) μ) m g w->Ph.k7 (.sp r 5) m 0 μ g w
 |sa1 {r m:Nat} {μ:Nat->Prop} {g:au} {w:ah}:r<φ.n->φ.GP μ (φ.AtA1 (φ.Spawns (φ.Fin AnchW) r) μ) m g w->Ph.k7 (.sp r 4) m 1 μ g w
 |ske {r m:Nat} {μ:Nat->Prop} {g:au} {w:ah}:r<φ.n->φ.GP μ (φ.AtKeS (φ.Spawns (φ.Fin AnchW) r) μ) m g w->Ph.k7 (.sp r 3) m 1 μ g w
 |sgo {r m:Nat} {μ:Nat->Prop} {g:au} {w:ah}:r<φ.n->φ.GP μ (φ.AtGoS (φ.Spawns (φ.Fin AnchW) r) μ) m g w->Ph.k7 (.sp r 2) m 0 μ g w
 |kd {m:Nat} {μ:Nat->Prop} {g:au} {w:ah}:φ.GP μ (φ.AtKd μ (AnchW μ)) m g w->Ph.k7 .kd m 0 μ g w
 |anch {m:Nat} {μ:Nat->Prop} {g:au} {w:ah}:φ.GP μ (AnchW μ) m g w->Ph.k7 .anch m 1 μ g w
 |w1 {m:Nat} {μ:Nat->Prop} {g:au} {w:ah}:φ.GP μ (φ.AtW1 μ Goal (AnchW μ)) m g w->Ph.k7 .w1 m 1 μ g w
 |w2 {vs m:Nat} {μ:Nat->Prop} {g:au} {w:ah}:φ.GP μ (φ.AtW2 μ Goal (AnchW μ) vs) m g w->Ph.k7 (.w2 vs) m 1 μ g w
 |w3 {m:Nat} {μ:Nat->Prop} {g:au} {w:ah}:φ.GP μ (φ.AtW3 μ Goal) m g w->Ph.k7 .w3 (m+1) 1 μ g w
 |blk {μ:Nat->Prop} {g:au} {w:ah}:(∀az,φ.MR μ w az->φ.AtW3 μ Goal g az)->Ph.k7 .blk 0 1 μ {g with status:=.blocked} w
 |w4 {m:Nat} {μ:Nat->Prop} {g:au} {w:ah}:φ.GP μ (φ.AtW4 μ Goal) m g w->Ph.k7 .w4 m 1 μ g w
 |ke {m:Nat} {μ:Nat->Prop} {g:au} {w:ah}:φ.GP μ (φ.AtKe μ Goal) m g w->Ph.k7 .ke m 1 μ g w
 |acq {m:Nat} {μ:Nat->Prop} {g:au} {w:ah}:φ.GP μ (φ.AtAcq μ Goal) m g w->Ph.k7 .acq m 0 μ g w
 |ret {m:Nat} {μ:Nat->Prop} {g:au} {w:ah}:φ.GP μ (Ph.AtRet Goal) m g w->Ph.k7 .ret m 0 μ g w
section
variable {φ} {Goal:au->ah->Prop} {AnchW:(Nat->Prop)->au->ah->Prop}
def Ph.MR.refl (μ:Nat->Prop)(w:ah):φ.MR μ w w:=⟨λ_ _=>rfl,λ_ _=>rfl,λ_ _=>rfl,λ_ _=>rfl,id,ax _,rfl,rfl,rfl⟩
def Ph.MR.trans {μ:Nat->Prop}{a b c:ah}(h:φ.MR μ a b)(k:φ.MR μ b c):φ.MR μ a c:=⟨λx y=>(k.Z6 x y).trans (h.Z6 x y),λx y=>(k.own x y).trans (h.own x y),λx y=>(k.rd x y).trans (h.rd x y),λx y=>(k.pay x y).trans (h.pay x y),k.live∘h.live,bM h.size k.size,k.tape.trans h.tape,k.os.trans h.os,k.output.trans h.output⟩
def Ph.k7.rely {tag:CTag}{f d:Nat}{μ:Nat->Prop}{a:au}{w w':ah}(h:φ.k7 Goal AnchW tag f d μ a w)(hr:φ.MR μ w w'):φ.k7 Goal AnchW tag f d μ a w':=by
 have tr: ∀x y z,φ.MR μ x y->φ.MR μ y z->φ.MR μ x z:=λ_ _ _ h1 h2=>h1.trans h2
 cases h with
 |LM hn h=>exact .LM hn (Goes.rely tr h hr)
 |al2 hn h=>exact .al2 hn (Goes.rely tr h hr)
 |skd hn h=>exact .skd hn (Goes.rely tr h hr)
 |sa1 hn h=>exact .sa1 hn (Goes.rely tr h hr)
 |ske hn h=>exact .ske hn (Goes.rely tr h hr)
 |sgo hn h=>exact .sgo hn (Goes.rely tr h hr)
 |kd h=>exact .kd (Goes.rely tr h hr)
 |anch h=>exact .anch (Goes.rely tr h hr)
 |w1 h=>exact .w1 (Goes.rely tr h hr)
 |w2 h=>exact .w2 (Goes.rely tr h hr)
 |w3 h=>exact .w3 (Goes.rely tr h hr)
 |blk h=>exact .blk (λfu uN=>h fu (hr.trans uN))
 |w4 h=>exact .w4 (Goes.rely tr h hr)
 |ke h=>exact .ke (Goes.rely tr h hr)
 |acq h=>exact .acq (Goes.rely tr h hr)
 |ret h=>exact .ret (Goes.rely tr h hr)
def Ph.k7.status {tag:CTag}{f d:Nat}{μ:Nat->Prop}{a:au}{w:ah}(yW: ∀μ g w,AnchW μ g w->g.status=.running)(h:φ.k7 Goal AnchW tag f d μ a w):(a.status=.running/\tag≠ .blk)\/(a.status=.blocked/\tag=.blk):=by
 have go: ∀{Stop:au->ah->Prop} {m:Nat},(∀g w,Stop g w->g.status=.running)->φ.GP μ Stop m a w->a.status=.running:=λhs h=>Goes.running hs w (.refl μ w) h
 cases h with
 |LM _ h=>exact .inl ⟨go (λ_ _ x=>x.1) h,by simp⟩
 |al2 _ h=>exact .inl ⟨go (λ_ _ x=>x.1) h,by simp⟩
 |skd _ h=>exact .inl ⟨go (λ_ _ x=>x.1) h,by simp⟩
 |sa1 _ h=>exact .inl ⟨go (λ_ _ x=>x.1) h,by simp⟩
 |ske _ h=>exact .inl ⟨go (λ_ _ x=>x.1) h,by simp⟩
 |sgo _ h=>exact .inl ⟨go (λ_ _ x=>x.1) h,by simp⟩
 |kd h=>exact .inl ⟨go (λ_ _ x=>x.1) h,by simp⟩
 |anch h=>exact .inl ⟨go (yW μ) h,by simp⟩
 |w1 h=>exact .inl ⟨go (λ_ _ x=>x.1) h,by simp⟩
 |w2 h=>exact .inl ⟨go (λ_ _ x=>x.1) h,by simp⟩
 |w3 h=>exact .inl ⟨go (λ_ _ x=>x.1) h,by simp⟩
 |blk h=>exact .inr ⟨rfl,rfl⟩
 |w4 h=>exact .inl ⟨go (λ_ _ x=>x.1) h,by simp⟩
 |ke h=>exact .inl ⟨go (λ_ _ x=>x.1) h,by simp⟩
 |acq h=>exact .inl ⟨go (λ_ _ x=>x.1) h,by simp⟩
 |ret h=>exact .inl ⟨go (λ_ _ x=>x.1) h,by simp⟩
def Ph.k7.wokenBy {tag:CTag}{f d:Nat}{μ:Nat->Prop}{a:au}{w w':ah}(yW: ∀μ g w,AnchW μ g w->g.status=.running)(h:φ.k7 Goal AnchW tag f d μ a w)(hr:φ.MR μ w w')(g g':au): ∃tag' f',φ.k7 Goal AnchW tag' f' d μ (woken φ.P g g' w' a) w'/\(tag'=tag\/(tag=.blk/\tag'=.w3))/\(mayWake φ.P g=aw->g'.status=.running->tag'≠ .blk):=by
 have h':=h.rely hr;unfold Go.Conc.woken
 split
 ·rcases h'.status yW with⟨hs,eb⟩|⟨_,rfl⟩
  ·exact⟨tag,f,by rw[again_running _ (.inl hs)];exact h',.inl rfl,λ_ _=>eb⟩
  ·cases h' with
   |blk hb=>have h3:=hb w' (.refl μ w');exact⟨.w3,0+1,by rw[Go.ConcR.again_blocked h3.1 h3.2.1];exact .w3 (Goes.stop hb),.inr ⟨rfl,rfl⟩,λ_ _=>by simp⟩
 ·rename_i hc
  exact⟨tag,f,h',.inl rfl,λh1 h2=>absurd (by simp[h1,h2]) hc⟩
end
end Rel
namespace Rel
open Go.Conc Go.ConcN
open Go.ConcR (KK WgAt rd wr Payload DC0 stA smA)
inductive ux where
 |l6
 |tree (x:WX)
 |tail (d:WD)
def ux.wd:ux->WD
 | .l6=>⟨1,0,0⟩
 | .tree _=>⟨7,0,0⟩
 | .tail d=>d
section
variable [Payload] (φ:Ph)
def Ph.LX:ux->ux->Prop
 | .tail a,.tail b=>a.stage<b.stage\/(a.stage=b.stage/\a.fuel<b.fuel)
 | .tail _,.tree _=>True
 | .tail _,.l6=>True
 | .tree y,.tree x=>φ.Sub y x
 | .tree y,.l6=>_root_.Acc φ.Sub y
 |_,_=>False
variable {φ}
def Mc (s m d:Nat):_root_.Acc φ.LX (.tail ⟨s,m,d⟩):=by
 have key: ∀s m d,_root_.Acc φ.LX (.tail ⟨s,m,d⟩):=by
  intro s
  induction s using mQ with
  |ind s ih=>
   intro m
   induction m using mQ with
   |ind m ihm=>
    intro d;refine⟨_,λy hy=> ?_⟩;cases y with
    |l6=>exact hy.elim
    |tree x=>exact hy.elim
    |tail e=>
     obtain⟨s',m',d'⟩:=e;rcases hy with h|⟨h1,h2⟩
     ·exact ih s' h m' d'
     ·simp only at h1 h2;subst h1;exact ihm m' h2 d'
 exact key s m d
def Md {x:WX}(h:_root_.Acc φ.Sub x):_root_.Acc φ.LX (.tree x):=by
 induction h with
 |intro x _ ih=>
  refine⟨_,λy hy=> ?_⟩;cases y with
  |l6=>exact hy.elim
  |tree y=>exact ih y hy
  |tail e=>obtain⟨s,m,d⟩:=e;exact Mc s m d
def Pw:_root_.Acc φ.LX .l6:=by
 refine⟨_,λy hy=> ?_⟩;cases y with
 |l6=>exact hy.elim
 |tree y=>exact Md hy
 |tail e=>obtain⟨s,m,d⟩:=e;exact Mc s m d
def vlt (r:ux->ux->Prop)(n:Nat)(S' S:Nat->ux):Prop:= ∃i,i<n/\r (S' i) (S i)/\ ∀k,k≠i->S' k=S k
def aaO {r:ux->ux->Prop}: ∀(n:Nat) (S:Nat->ux),(∀i,i<n->_root_.Acc r (S i))->_root_.Acc (vlt r n) S:=by
 intro n
 induction n with
 |zero=>intro S _;exact⟨_,λS' ⟨i,hi,_⟩=>absurd hi (Nat.not_lt_zero _)⟩
 |succ n ih=>
  intro S hS;have key: ∀x,_root_.Acc r x-> ∀S,S n=x->_root_.Acc (vlt r n) S->(∀i,i<n->_root_.Acc r (S i))->_root_.Acc (vlt r (n+1)) S:=by
   intro x hx
   induction hx with
   |intro x hx ihx=>
    intro S hSn fE
    induction fE with
    |intro S fE ihS=>
     intro hS;refine⟨_,?_⟩;rintro S' ⟨i,hi,h1,h2⟩;rcases ec i n with bJ|wq
     ·refine ihS S' ⟨i,bJ,h1,h2⟩ ((h2 n (by omega)).trans hSn) λk hk=> ?_
      by_cases e:k=i
      ·subst e;exact(hS k hk).inv h1
      ·rw[h2 k e];exact hS k hk
     ·obtain rfl:i=n:=by omega
      have hS': ∀k,k<i->_root_.Acc r (S' k):=λk hk=>by rw[h2 k (by omega)];exact hS k hk
      exact ihx (S' i) (hSn▸h1) S' rfl (ih S' hS') hS'
  exact key (S n) (hS n (by omega)) S rfl (ih S λi hi=>hS i (by omega)) λi hi=>hS i (by omega)
abbrev Mu:=(Nat->ux)×(Nat×(Nat×Nat))
variable (φ)in
def Ph.UH:Mu->Mu->Prop:=Prod.Lex (vlt φ.LX φ.n) (Prod.Lex (· < ·) (Prod.Lex (· < ·) (· < ·)))
def aaN (S:Nat->ux)(h: ∀i,i<φ.n->_root_.Acc φ.LX (S i))(p:Nat×(Nat×Nat)):_root_.Acc φ.UH (S,p):=by have wf:WellFounded (Prod.Lex (· < ·) (Prod.Lex (· < ·) (· < ·)):Nat×(Nat×Nat)->Nat×(Nat×Nat)->Prop):=(Prod.lex Nat.lt_wfRel (Prod.lex Nat.lt_wfRel Nat.lt_wfRel)).wf;exact Prod.lexAccessible (aaO φ.n S h) (λb=>wf.apply b) p
def ace {P:aS}{α:Type}{r:α->α->Prop}(Inv:α->Machine->Trace->Prop)(Q:Machine->Trace->Prop)(h: ∀μ m t,Inv μ m t->Q m t\/ ∃m' ops sT,stepT P m=(.next m',ops)/\r sT μ/\Inv sT m' (t++ops)): ∀μ,_root_.Acc r μ-> ∀m t,Inv μ m t-> ∃N m' t',runNT P N m t=(.next m',t')/\Q m' t':=by
 intro μ ha
 induction ha with
 |intro μ _ ih=>
  intro m t hI;rcases h μ m t hI with hq|⟨m',ops,sT,hs,hr,hI'⟩
  ·exact⟨0,m,t,rfl,hq⟩
  ·obtain⟨N,m2,t2,h1,h2⟩:=ih sT hr m' (t++ops) hI';exact⟨N+1,m2,t2,by rw[runNT_succ_next hs];exact h1,h2⟩
end
section
variable [Payload] (φ:Ph)
def Ph.afB (γ:Gh)(l:Loc):Prop:=(∃b,wE l=ae b/\γ.own b)\/ ∃i a,γ.held i/\φ.jl i a/\l=.cell a
def Ph.yw (γ:Nat->Gh)(j:Nat)(μ:Nat->Prop):kN where
 own:=λk l=> ∃i,i<j/\k=φ.lo+i/\φ.afB (γ i) l
 fr:=λl=> ∃q a,(∀i,i<j-> ¬(γ i).held q)/\φ.jl q a/\l=.cell a
 rd:=λl=> ∃b,wE l=ae b/\φ.oS b
 mine:=λl=> ∃b,wE l=ae b/\μ b
 sh:=ShN φ.Wg
structure Ph.V1 (B0:Nat) (γ:Nat->Gh) (j:Nat) (μ:Nat->Prop) (sz:Nat):Prop where
 ME: ∀i i' b,i<j->i'<j->(γ i).own b->(γ i').own b->i=i'
 mine: ∀i b,i<j->(γ i).own b-> ¬μ b
 Du: ∀i b,i<j->(γ i).own b->B0<=b/\b<sz
 yH: ∀b,μ b->B0<=b/\b<sz
 Eu: ∀i i' q,i<j->i'<j->(γ i).held q->(γ i').held q->i=i'
 bJ: ∀i q,i<j->(γ i).held q->q<φ.nj
 sz:B0<=sz
 B:φ.Wg<B0/\φ.Ch<B0/\(∀b,φ.oS b->b<B0)/\ ∀b,φ.CB b->b<B0
 st: ∀b,φ.Std b->b<B0
def Ph.DX (γ:Gh):ux->au->ah->Prop
 | .l6,_,_=>False
 | .tree x,g,w=>x.1=γ/\x.2.1=g/\φ.WT γ g x.2.2/\φ.e9 γ x.2.2 w
 | .tail d,g,w=> ∃C v,γ.over/\γ.own C/\PayAt C 1 w/\(∀i,γ.held i->φ.JP (λb=>γ.own b/\b≠C) i w)/\1<=d.stage/\d.stage<=7/\WSit φ.P φ.ty φ.Wg C 1 (λ_ _=>False) (λ_ _=>False) 0 1 v d.stage d.fuel d.deaf g w
def Ph.RO (k:Nat)(w:ah):Prop:=k<=φ.nj/\ ∃cap s r tm,w.heap[φ.Ch]? =ae (.chan cap ((gg k (φ.nj-k)).map φ.jv).toArray aw s r tm)
structure Ph.Com (B0:Nat) (t0:Trace) (gs:Array au) (w:ah) (t:Trace) (j:Nat) (γ:Nat->Gh) (S:Nat->ux) (μ:Nat->Prop) (q:Nat->Nat) (k:Nat):Prop where
 size:gs.size=φ.lo+j
 jn:j<=φ.n
 old: ∀i g,0<i->i<φ.lo->gs[i]? =ae g->QuitsD φ.P (q i) (Deaf t i) g
 wk: ∀i,i<j-> ∃g,gs[φ.lo+i]? =ae g/\φ.DX (γ i) (S i) g w
 un: ∀i,j<=i->S i=.l6
 deaf: ∀i,i<j->Deaf t (φ.lo+i)=(S i).wd.deaf
 et:ET (φ.yw γ j μ) φ.lo (φ.lo+j) t
 jo:φ.V1 B0 γ j μ w.heap.size
 norel: ∀i,t0.size<=i->t.act? i≠ae (.mark (.release (stA φ.Wg)))
 rel: ∀i,i<j->(S i).wd.stage<=6-> ∃r,RelBy (stA φ.Wg) t (φ.lo+i) r
 pre: ∃u,t=t0++u
 atm: ∀(i:Nat) (op:MemOp) (x:Touch),t0.size<=i->t[i]? =ae op->op.g≠0->op.act.touch? =ae x->x.kind≠ .plain->ShN φ.Wg x.loc
 mute: ∀(i:Nat) (op:MemOp),t0.size<=i->t[i]? =ae op->op.g≠0->op.g<φ.lo->op.act.touch? =ai
 seen: ∀op∈t,∀x,op.act.touch? =ae x->x.loc.low w.heap.size
 chan:φ.RO k w
 done: ∀p,p<k-> ∃i,i<j/\(γ i).held p
 todo: ∀p i,k<=p->i<j-> ¬(γ i).held p
 over: ∀i,i<j->(γ i).over->k=φ.nj
 free: ∀p,k<=p->p<φ.nj->φ.J0 p w
variable {φ}
def Ph.V1.apart (O:φ.Ok){B0:Nat}{γ:Nat->Gh}{j:Nat}{μ:Nat->Prop}{sz:Nat}(h:φ.V1 B0 γ j μ sz):(φ.yw γ j μ).Apart:=by
 obtain⟨hW,hC,hR,xq⟩:=h.B;have cell: ∀{a:Addr},wE (.cell a)=ae a.block:=rfl;have ai2: ∀{i:Nat} {l:Loc},i<j->φ.afB (γ i) l-> ∃b,wE l=ae b/\((γ i).own b\/ ∃q a,(γ i).held q/\φ.jl q a/\l=.cell a/\a.block=b):=by
  rintro i l hi (⟨b,hb,ho⟩|⟨q,a,hq,ha,rfl⟩)
  ·exact⟨b,hb,.inl ho⟩
  ·exact⟨a.block,rfl,.inr ⟨q,a,hq,ha,rfl,rfl⟩⟩
 have shB: ∀{l:Loc},ShN φ.Wg l->wE l=ae φ.Wg:=by rintro l ⟨a,rfl,ha⟩;rw[cell,ha]
 refine⟨?_,?_,?_,?_,?_,?_,?_,?_,?_,?_,?_⟩
 ·rintro k k' l ⟨i,hi,rfl,h1⟩ ⟨i',gK,rfl,h2⟩;rcases h1 with⟨b,hb,ho⟩|⟨q,a,hq,ha,rfl⟩<;>rcases h2 with⟨b',jP,Wt⟩|⟨q',a',vm,yY,e⟩
  ·rw[hb]at jP;cases jP;rw[h.ME i i' b hi gK ho Wt]
  ·subst e;rw[cell]at hb;cases hb;have:=(h.Du i _ hi ho).1;have:=xq _ (O.nw _ _ yY);omega
  ·rw[cell]at jP;cases jP;have:=(h.Du i' _ gK Wt).1;have:=xq _ (O.nw _ _ ha);omega
  ·cases e;obtain rfl:=O.EC q q' a ha yY;rw[h.Eu i i' q hi gK hq vm]
 ·rintro k l ⟨i,hi,rfl,h1⟩ ⟨q',a',hn,yY,rfl⟩;rcases h1 with⟨b,hb,ho⟩|⟨q,a,hq,ha,e⟩
  ·rw[cell]at hb;cases hb;have:=(h.Du i _ hi ho).1;have:=xq _ (O.nw _ _ yY);omega
  ·cases e;obtain rfl:=O.EC q q' _ ha yY;exact hn i hi hq
 ·rintro k l ⟨i,hi,rfl,h1⟩ ⟨b',jP,M1⟩;rcases h1 with⟨b,hb,ho⟩|⟨q,a,hq,ha,rfl⟩
  ·rw[hb]at jP;cases jP;have:=(h.Du i _ hi ho).1;have:=hR _ M1;omega
  ·rw[cell]at jP;cases jP;exact O.Xz _ (O.nw _ _ ha) M1
 ·rintro k l ⟨i,hi,rfl,h1⟩ ⟨b',jP,hm⟩;rcases h1 with⟨b,hb,ho⟩|⟨q,a,hq,ha,rfl⟩
  ·rw[hb]at jP;cases jP;exact h.mine i _ hi ho hm
  ·rw[cell]at jP;cases jP;have:=(h.yH _ hm).1;have:=xq _ (O.nw _ _ ha);omega
 ·rintro k l ⟨i,hi,rfl,h1⟩ hs;have jP:=shB hs;rcases h1 with⟨b,hb,ho⟩|⟨q,a,hq,ha,rfl⟩
  ·rw[hb]at jP;cases jP;have:=(h.Du i _ hi ho).1;omega
  ·rw[cell]at jP;have e:a.block=φ.Wg:=be jP;exact O.Wb (e▸O.nw _ _ ha)
 ·rintro l ⟨q,a,hn,ha,rfl⟩ ⟨b',jP,M1⟩;rw[cell]at jP;cases jP;exact O.Xz _ (O.nw _ _ ha) M1
 ·rintro l ⟨q,a,hn,ha,rfl⟩ ⟨b',jP,hm⟩;rw[cell]at jP;cases jP;have:=(h.yH _ hm).1;have:=xq _ (O.nw _ _ ha);omega
 ·rintro l ⟨q,a,hn,ha,rfl⟩ hs;have e:a.block=φ.Wg:=be (shB hs);exact O.Wb (e▸O.nw _ _ ha)
 ·rintro l ⟨b,hb,M1⟩ ⟨b',jP,hm⟩;rw[hb]at jP;cases jP;have:=(h.yH _ hm).1;have:=hR _ M1;omega
 ·rintro l ⟨b,hb,M1⟩ hs;rw[shB hs]at hb;cases hb;exact O.rdW M1
 ·rintro l ⟨b,hb,hm⟩ hs;rw[shB hs]at hb;cases hb;have:=(h.yH _ hm).1;omega
def Ph.DX.status {γ:Gh}{s:ux}{g:au}{w:ah}(h:φ.DX γ s g w):g.status=.running\/g.status=.finished:=by
 cases s with
 |l6=>exact h.elim
 |tree x=>obtain⟨_,h1,h2,_⟩:=h;exact .inl h2.status
 |tail d=>obtain⟨C,v,_,_,_,_,_,_,h⟩:=h;exact h.status
def Ph.DX.rely (O:φ.Ok){γ:Gh}{s:ux}{g:au}{w az:ah}(h:φ.DX γ s g w)(r:φ.e9 γ w az):φ.DX γ s g az:=by
 cases s with
 |l6=>exact h.elim
 |tree x=>obtain⟨h0,h1,h2,h3⟩:=h;exact⟨h0,h1,h2,h3.trans r⟩
 |tail d=>obtain⟨C,v,hO,hC,⟨cs,h1,h2⟩,hJ,s1,s2,h⟩:=h;exact⟨C,v,hO,hC,⟨cs,(r.own C hC).trans h1,h2⟩,λi hi=>O.jp _ w az i (λb hb=>r.own b hb.1) (λa ha=>r.cell i a hi ha) (hJ i hi),s1,s2,h.rely (by simpa using r.rw' hC)⟩
end
section
variable [Payload] {φ:Ph} {B0:Nat} {t0:Trace} {gs:Array au} {w w':ah} {t:Trace} {j:Nat} {γ:Nat->Gh} {S:Nat->ux} {μ:Nat->Prop} {q:Nat->Nat} {k k':Nat}
def Ph.Com.FG (O:φ.Ok)(h:φ.Com B0 t0 gs w t j γ S μ q k){i:Nat}(hi:i<j){g':au}{ops:Trace}{γi:Gh}{Si:ux}(f:au->au)(hf: ∀o,o.status=.running\/o.status=.finished->f o=o)(iA: ∀op∈ops,op.g=φ.lo+i)(hrel: ∀i',i'<j->i'≠i->φ.e9 (γ i') w w')(hs:φ.DX γi Si g' w')(Sy:Deaf (t++ops) (φ.lo+i)=Si.wd.deaf)(het:ET (φ.yw (upd γ i γi) j μ) φ.lo (φ.lo+j) (t++ops))(ad7:φ.V1 B0 (upd γ i γi) j μ w'.heap.size)(hnr: ∀op∈ops,op.act≠ .mark (.release (stA φ.Wg)))(hr:Si.wd.stage<=6-> ∃r,RelBy (stA φ.Wg) (t++ops) (φ.lo+i) r)(ahQ: ∀op∈ops,∀x,op.act.touch? =ae x->x.kind≠ .plain->ShN φ.Wg x.loc)(Nj: ∀op∈ops,∀x,op.act.touch? =ae x->x.loc.low w'.heap.size)(kJ:w.heap.size<=w'.heap.size)(af6:φ.RO k' w')(aga: ∀p,p<k'-> ∃i',i'<j/\(upd γ i γi i').held p)(agD: ∀p i',k'<=p->i'<j-> ¬(upd γ i γi i').held p)(YJ: ∀i',i'<j->(upd γ i γi i').over->k'=φ.nj)(agc: ∀p,k'<=p->p<φ.nj->φ.J0 p w'):φ.Com B0 t0 ((gs.map f).setIfInBounds (φ.lo+i) g') w' (t++ops) j (upd γ i γi) (upd S i Si) μ q k':=by
 have zN:=O.zN;refine⟨by simp[h.size],h.jn,λi' x h0 hl hx=> ?_,λi' gK=> ?_,λi' gK=> ?_,λi' gK=> ?_,het,ad7,λp hp Ks=> ?_,λi' gK gI=> ?_,?_,λp op x hp hop hg hx hk=> ?_,λp op hp hop hg bJ=> ?_,λop hop=> ?_,af6,aga,agD,YJ,agc⟩
 ·rw[get_map_set _ _ _ _ (by omega)]at hx;obtain⟨y,hy,rfl⟩:=aJ.1 hx;have hq:=h.old i' y h0 hl hy;rw[hf y hq.status,Deaf_other t (g':=φ.lo+i) (by omega) _ iA];exact hq
 ·by_cases e:i'=i
  ·subst e;exact⟨g',get_map_set_same _ _ _ (by rw[h.size];omega),by rw[upd_same,upd_same];exact hs⟩
  ·obtain⟨x,hx,Wv⟩:=h.wk i' gK;refine⟨x,by rw[get_map_set _ _ _ _ (by omega),hx,fS,hf x Wv.status],?_⟩;rw[upd_ne _ _ e,upd_ne _ _ e];exact Wv.rely O (hrel i' gK e)
 ·rw[upd_ne _ _ (by omega)];exact h.un i' gK
 ·by_cases e:i'=i
  ·subst e;rw[upd_same];exact Sy
  ·rw[Deaf_other t (g':=φ.lo+i) (by omega) _ iA,h.deaf i' gK,upd_ne _ _ e]
 ·obtain⟨op,hop,ha⟩:=aJ.1 Ks;rcases getElem?_append_cases hop with⟨_,ru⟩|⟨_,ry⟩
  ·exact h.norel p hp (by rw[act?_of ru,ha])
  ·exact hnr op ry ha
 ·by_cases e:i'=i
  ·subst e;rw[upd_same]at gI;exact hr gI
  ·rw[upd_ne _ _ e]at gI;obtain⟨r,hr⟩:=h.rel i' gK gI;exact⟨r,hr.appNot λop hop=>by rw[iA op hop];omega⟩
 ·obtain⟨u,rfl⟩:=h.pre;exact⟨u++ops,by rw[Array.append_assoc]⟩
 ·rcases getElem?_append_cases hop with⟨_,ru⟩|⟨_,ry⟩
  ·exact h.atm p op x hp ru hg hx hk
  ·exact ahQ op ry x hx hk
 ·rcases getElem?_append_cases hop with⟨_,ru⟩|⟨_,ry⟩
  ·exact h.mute p op hp ru hg bJ
  ·rw[iA op ry]at bJ;omega
 ·intro x hx;rcases o4.1 hop with y|y
  ·exact Loc.low_mono kJ (h.seen op y x hx)
  ·exact Nj op y x hx
omit [Payload]in
def wH {e:Event}{b:Nat}(hb:wE e.loc=ae b)(hs:e.sync=ay):cX e=.access e/\(cX e).touch? =ae ⟨e.loc,e.write,.plain⟩:=by
 obtain⟨loc,wr,sy⟩:=e;simp only at hs;subst hs;cases loc with
 |mark m=>cases hb
 |output=>cases hb
 |goroutines=>cases hb
 |cell a=>cases wr<;>exact⟨rfl,rfl⟩
 |obj r=>cases wr<;>exact⟨rfl,rfl⟩
omit [Payload]in
def EG {B:Nat}{l:Loc}(h: ∀b,wE l=ae b->b<B):l.low B:=by
 cases l with
 |cell a=>exact h _ rfl
 |obj r=>exact h _ rfl
 |_=>exact trivial
omit [Payload]in
def yn {B:Nat}(h: ∀op∈t,∀x,op.act.touch? =ae x->x.loc.low B){l:Loc}{b:Nat}(hb:wE l=ae b)(hB:B<=b):ta t l:=by
 rintro i a ha rfl;obtain⟨x,hx,Wx⟩:=touch_of ha;have hl:=h x (ug hx) a Wx;revert hb hl;cases a.loc with
 |cell ad=>intro hb hl;cases hb;exact absurd hl (by show¬(ad.block<B);omega)
 |obj r=>intro hb hl;cases hb;exact absurd hl (by show¬(b<B);omega)
 |_=>intro hb;cases hb
def td {γ:Gh}{e:Event}(h:φ.Acc γ e):(∃m,cX e=.mark m/\e.loc=.mark m/\(m=.noRoom\/ ∃f,m=.extern f))\/(cX e=.access e/\(cX e).touch? =ae ⟨e.loc,e.write,.plain⟩/\ ∃b,wE e.loc=ae b/\(γ.own b\/(∃i a,γ.held i/\φ.jl i a/\e.loc=.cell a)\/(e.write=ay/\φ.oS b))):=by
 rcases h with⟨m,rfl,hm⟩|⟨hs,b,hb,h⟩
 ·rcases hm with rfl|⟨f,rfl⟩
  ·exact .inl ⟨_,rfl,rfl,.inl rfl⟩
  ·exact .inl ⟨_,rfl,rfl,.inr ⟨_,rfl⟩⟩
 ·exact .inr ⟨(wH hb hs).1,(wH hb hs).2,b,hb,h⟩
def Ph.V1.grow (h:φ.V1 B0 γ j μ w.heap.size){i:Nat}(hi:i<j)(kJ:w.heap.size<=w'.heap.size):φ.V1 B0 (upd γ i ((γ i).grow w w')) j μ w'.heap.size:=by
 have own: ∀{a b:Nat},(upd γ i ((γ i).grow w w') a).own b->(γ a).own b\/(a=i/\w.heap.size<=b/\b<w'.heap.size):=by
  intro a b hb;by_cases e:a=i
  ·subst e;rw[upd_same]at hb;exact hb.imp id λx=>⟨rfl,x⟩
  ·rw[upd_ne _ _ e]at hb;exact .inl hb
 have held: ∀{a p:Nat},(upd γ i ((γ i).grow w w') a).held p->(γ a).held p:=by
  intro a p hp;by_cases e:a=i
  ·subst e;rwa[upd_same]at hp
  ·rwa[upd_ne _ _ e]at hp
 have hs:=h.sz;refine⟨λa a' b ha yY h1 h2=> ?_,λa b ha h1 hm=> ?_,λa b ha h1=> ?_,λb hb=> ?_,λa a' p ha yY h1 h2=>h.Eu a a' p ha yY (held h1) (held h2),λa p ha h1=>h.bJ a p ha (held h1),by omega,h.B,h.st⟩
 ·rcases own h1 with x|⟨rfl,x⟩<;>rcases own h2 with y|⟨rfl,y⟩
  ·exact h.ME a a' b ha yY x y
  ·have:=(h.Du a b ha x).2;omega
  ·have:=(h.Du a' b yY y).2;omega
  ·rfl
 ·rcases own h1 with x|⟨rfl,x⟩
  ·exact h.mine a b ha x hm
  ·have:=(h.yH b hm).2;omega
 ·rcases own h1 with x|⟨rfl,x⟩
  ·have:=h.Du a b ha x;omega
  ·omega
 ·have:=h.yH b hb;omega
def Ph.CN.rely (O:φ.Ok)(h:φ.V1 B0 γ j μ w.heap.size){i:Nat}(hi:i<j){es:Array Event}(hg:φ.CN (γ i) w w' es){i':Nat}(gK:i'<j)(eb:i'≠i):φ.e9 (γ i') w w':=by
 obtain⟨hW,hC,hR,xq⟩:=h.B;have hs:=h.sz;have Bg: ∀b,b<B0-> ¬(γ i).own b:=λb hb ho=>by have:=(h.Du i b hi ho).1;omega
 refine⟨λb hb=> ?_,λb hb=>hg.rest b (by have:=hR b hb;omega) (Bg b (hR b hb)) λx=>O.Xz b x hb,λp a hp ha=>hg.cells a (O.nw p a ha) λp' Nd yY=> ?_,hg.pay,λ⟨st,sm,hl⟩=>⟨st,sm,?_⟩,hg.size,hg.tape,hg.os,hg.output⟩
 ·have hr:=h.Du i' b gK hb;exact hg.rest b hr.2 (λho=>eb (h.ME i' i b gK hi hb ho)) λx=>by have:=xq b x;omega
 ·obtain rfl:=O.EC p p' a ha yY;exact eb (h.Eu i' i p gK hi hp Nd)
 ·exact(hg.rest φ.Wg (by omega) (Bg _ hW) O.Wb).trans hl
def Ph.CN.mr (O:φ.Ok)(h:φ.V1 B0 γ j μ w.heap.size){i:Nat}(hi:i<j){es:Array Event}(hg:φ.CN (γ i) w w' es):φ.MR μ w w':=by
 obtain⟨hW,hC,hR,xq⟩:=h.B;have hs:=h.sz;have Bg: ∀b,b<B0-> ¬(γ i).own b:=λb hb ho=>by have:=(h.Du i b hi ho).1;omega
 refine⟨λb hb=>hg.rest b (by have:=h.st b hb;omega) (Bg b (h.st b hb)) λx=>O.afH b x hb,λb hb=> ?_,λb hb=>hg.rest b (by have:=hR b hb;omega) (Bg b (hR b hb)) λx=>O.Xz b x hb,hg.pay,λ⟨st,sm,hl⟩=>⟨st,sm,?_⟩,hg.size,hg.tape,hg.os,hg.output⟩
 ·have hr:=h.yH b hb;exact hg.rest b hr.2 (λho=>h.mine i b hi ho hb) λx=>by have:=xq b x;omega
 ·exact(hg.rest φ.Wg (by omega) (Bg _ hW) O.Wb).trans hl
omit [Payload]in
def deaf_quiet {g:Nat}{fn:bK}{pos:String}{es:Array Event}(h: ∀e∈es,e.loc≠ .mark .disable/\e.loc≠ .mark .enable):Deaf (t++ca g fn pos es) g=Deaf t g:=by rw[Deaf_own];exact deafBehind_idle h _
def TL {γ:Gh}{es:Array Event}(h: ∀e∈es,φ.Acc γ e): ∀e∈es,e.loc≠ .mark .disable/\e.loc≠ .mark .enable:=by
 intro e he;rcases td (h e he)with⟨m,_,hl,hm⟩|⟨_,_,b,hb,_⟩
 ·rw[hl];rcases hm with rfl|⟨f,rfl⟩<;>simp
 ·exact⟨λx=>(by rw[x]at hb;cases hb),λx=>by rw[x]at hb;cases hb⟩
def Ph.Com.aaj (O:φ.Ok)(h:φ.Com B0 t0 gs w t j γ S μ q k){i:Nat}(hi:i<j){g g':au}{w0:ah}(hS:S i=.tree (γ i,g,w0)){es:Array Event}(hg:φ.CN (γ i) w w' es)(Ss:φ.WT ((γ i).grow w w') g' w')(fn:bK)(pos:String)(f:au->au)(hf: ∀o,o.status=.running\/o.status=.finished->f o=o):φ.Com B0 t0 ((gs.map f).setIfInBounds (φ.lo+i) g') w' (t++ca (φ.lo+i) fn pos es) j (upd γ i ((γ i).grow w w')) (upd S i (.tree ((γ i).grow w w',g',w'))) μ q k:=by
 have iA: ∀op∈ca (φ.lo+i) fn pos es,op.g=φ.lo+i:=λop hop=>by obtain⟨e,_,rfl⟩:=bj hop;rfl
 have P7:=h.jo.grow hi hg.size;have A:=P7.apart O;have Ui:(S i).wd.deaf=0:=by rw[hS];rfl
 have held: ∀a,(upd γ i ((γ i).grow w w') a).held=(γ a).held:=λa=>by
  by_cases e:a=i
  ·subst e;rw[upd_same];rfl
  ·rw[upd_ne _ _ e]
 have over: ∀a,(upd γ i ((γ i).grow w w') a).over=(γ a).over:=λa=>by
  by_cases e:a=i
  ·subst e;rw[upd_same];rfl
  ·rw[upd_ne _ _ e]
 refine h.FG O hi f hf iA (λi' gK e=>hg.rely O h.jo hi gK e) ⟨rfl,rfl,Ss,.refl _ _⟩ ?_ ?_ P7 ?_ (λx=>by simp[ux.wd]at x) ?_ ?_ hg.size ?_ (λp hp=> ?_) (λp i' hp gK=> ?_) (λi' gK hx=> ?_) (λp hp Nf=> ?_)
 ·rw[deaf_quiet (TL hg.ev),h.deaf i hi,Ui];rfl
 ·refine ET.adF A (k:=φ.lo+i) (h.et.yw rfl (λkk _ _ l hl=> ?_) (λl hl=> ?_) (λl hl=>hl) λl hl=>.inl hl) (Nat.le_add_right _ _) (by omega) λop hop=>⟨iA op hop,λx hx=> ?_⟩
  ·obtain⟨a,ha,rfl,hl⟩:=hl;by_cases e:a=i
   ·subst e;rw[upd_same]at hl;rcases hl with⟨b,hb,ho⟩|⟨p,ad,hp,uK,rfl⟩
    ·rcases ho with ho|⟨h1,_⟩
     ·exact .inl ⟨a,ha,rfl,.inl ⟨b,hb,ho⟩⟩
     ·exact .inr (.inr (yn h.seen hb h1))
    ·exact .inl ⟨a,ha,rfl,.inr ⟨p,ad,hp,uK,rfl⟩⟩
   ·rw[upd_ne _ _ e]at hl;exact .inl ⟨a,ha,rfl,hl⟩
  ·obtain⟨p,ad,hn,uK,rfl⟩:=hl;exact⟨p,ad,λa ha=>by have:=hn a ha;rwa[held a]at this,uK,rfl⟩
  ·obtain⟨e,he,rfl⟩:=bj hop;simp only at hx;rcases td (hg.ev e he)with⟨m,h1,_,hm⟩|⟨_,h2,b,hb,h3⟩
   ·rcases hm with rfl|⟨f0,rfl⟩<;>rw[h1]at hx<;>cases hx
   ·rw[h2]at hx;cases hx;rcases h3 with ho|⟨p,ad,hp,uK,hl⟩|⟨hw,hr⟩
    ·exact .inr (.inl ⟨i,hi,rfl,by rw[upd_same];exact .inl ⟨b,hb,ho⟩⟩)
    ·exact .inr (.inl ⟨i,hi,rfl,by rw[upd_same];exact .inr ⟨p,ad,hp,uK,hl⟩⟩)
    ·exact .inr (.inr ⟨⟨b,hb,hr⟩,hw⟩)
 ·intro op hop;obtain⟨e,he,rfl⟩:=bj hop;rcases td (hg.ev e he)with⟨m,h1,_,hm⟩|⟨h1,_⟩
  ·rcases hm with rfl|⟨f0,rfl⟩<;>simp only[h1]<;>simp
  ·simp only[h1];simp
 ·intro op hop x hx hk;obtain⟨e,he,rfl⟩:=bj hop;rcases td (hg.ev e he)with⟨m,h1,_,hm⟩|⟨_,h2,_⟩
  ·rcases hm with rfl|⟨f0,rfl⟩<;>simp only[h1]at hx<;>cases hx
  ·simp only[h2]at hx;cases hx;exact absurd rfl hk
 ·intro op hop x hx;obtain⟨e,he,rfl⟩:=bj hop;have hs:=h.jo.sz;have hz:=hg.size;obtain⟨hW,hC,hR,xq⟩:=h.jo.B;rcases td (hg.ev e he)with⟨m,h1,_,hm⟩|⟨_,h1,b,hb,h3⟩
  ·rcases hm with rfl|⟨f0,rfl⟩<;>simp only[h1]at hx<;>cases hx
  ·simp only[h1]at hx;cases hx;refine EG (l:=e.loc) λb' jP=> ?_
   rw[hb]at jP;cases jP;rcases h3 with ho|⟨p,ad,hp,uK,hl⟩|⟨hw,hr⟩
   ·exact(P7.Du i b hi (by rw[upd_same];exact ho)).2
   ·rw[hl]at hb;cases hb;have:=xq _ (O.nw _ _ uK);omega
   ·have:=hR b hr;omega
 ·obtain⟨hk,cap,s,r,tm,hc⟩:=h.chan;obtain⟨hW,hC,hR,xq⟩:=h.jo.B;have hs:=h.jo.sz;exact⟨hk,cap,s,r,tm,(hg.rest φ.Ch (by omega) (λho=>by have:=(h.jo.Du i _ hi ho).1;omega) O.cbC).trans hc⟩
 ·obtain⟨i',gK,hh⟩:=h.done p hp;exact⟨i',gK,by rw[held i'];exact hh⟩
 ·rw[held i'];exact h.todo p i' hp gK
 ·rw[over i']at hx;exact h.over i' gK hx
 ·refine O.j0 w w' p (λa ha=>hg.cells a (O.nw p a ha) λp' Nd yY=> ?_) (h.free p hp Nf);obtain rfl:=O.EC p p' a ha yY;exact h.todo p i hp hi Nd
end
section
variable [Payload] {φ:Ph} {B0:Nat} {t0:Trace} {gs:Array au} {w w':ah} {t:Trace} {j:Nat} {γ:Nat->Gh} {S:Nat->ux} {μ:Nat->Prop} {q:Nat->Nat} {k k':Nat}
def NL {i c:Nat}(h: ∀(x:Nat) (g:au),x≠i->gs[x]? =ae g->g.status≠ .blocked\/g.offers=ai)(b:Bool):partners (gs.setIfInBounds i Go.Conc.ph) c b=[]:=by
 refine partners_nil λx g hx=> ?_
 rcases getElem?_stand gs i x g hx with⟨_,rfl⟩|⟨eb,Pk⟩
 ·rfl
 ·rcases h x g eb Pk with hs|ho
  ·exact offersAt_of_not_blocked hs _ _
  ·unfold offersAt;rw[ho];cases g.status<;>rfl
def Jv (O:φ.Ok){γ':Gh}(hC: ¬γ'.own φ.Ch)(cap:Nat)(buf:Array ao)(cl:Bool)(s r:Nat)(tm:Bool)(vG: ∃cap buf cl s r tm,w.heap[φ.Ch]? =ae (.chan cap buf cl s r tm)):φ.e9 γ' w (w.setChan φ.Ch cap buf cl s r tm):=by
 have blk: ∀b,b≠φ.Ch->(w.setChan φ.Ch cap buf cl s r tm).heap[b]? =w.heap[b]?:=λb hb=>by show(w.heap.setIfInBounds φ.Ch _)[b]? =_;rw[aK (Ne.symm hb)]
 refine⟨λb hb=>blk b λe=>hC (e▸hb),λb hb=>blk b λe=>O.rdC (e▸hb),λp a _ ha=> ?_,λb hb=> ?_,λ⟨st,sm,hl⟩=>⟨st,sm,(blk φ.Wg (Ne.symm O.hCW)).trans hl⟩,by simp[qj],rfl,rfl,rfl⟩
 ·have eb:a.block≠φ.Ch:=λe=>O.cbC (e▸O.nw p a ha)
  unfold c8;rw[blk _ eb]
 ·unfold fL;rw[blk _ λe=>O.cbC (e▸hb)]
def abK (O:φ.Ok)(hC: ¬μ φ.Ch)(cap:Nat)(buf:Array ao)(cl:Bool)(s r:Nat)(tm:Bool):φ.MR μ w (w.setChan φ.Ch cap buf cl s r tm):=by
 have blk: ∀b,b≠φ.Ch->(w.setChan φ.Ch cap buf cl s r tm).heap[b]? =w.heap[b]?:=λb hb=>by show(w.heap.setIfInBounds φ.Ch _)[b]? =_;rw[aK (Ne.symm hb)]
 exact⟨λb hb=>blk b λe=>O.air (e▸hb),λb hb=>blk b λe=>hC (e▸hb),λb hb=>blk b λe=>O.rdC (e▸hb),λb hb=>by unfold fL;rw[blk _ λe=>O.cbC (e▸hb)],λ⟨st,sm,hl⟩=>⟨st,sm,(blk φ.Wg (Ne.symm O.hCW)).trans hl⟩,by simp[qj],rfl,rfl,rfl⟩
def Ph.Com.acT (h:φ.Com B0 t0 gs w t j γ S μ q k){i:Nat}(hi:i<j): ¬(γ i).own φ.Ch:=λho=>by have:=(h.jo.Du i _ hi ho).1;have:=h.jo.B.2.1;omega
def Ph.Com.adM (h:φ.Com B0 t0 gs w t j γ S μ q k): ¬μ φ.Ch:=λho=>by have:=(h.jo.yH _ ho).1;have:=h.jo.B.2.1;omega
def Jc (gs:Array au):gs.map id=gs:=by simp
def Ph.Com.ab7 (O:φ.Ok)(h:φ.Com B0 t0 gs w t j γ S μ q k){i:Nat}(hi:i<j){g:au}{x:WX}(hS:S i=.tree x)(bJ:k<φ.nj){cap s r:Nat}{tm:Bool}(vG:w.heap[φ.Ch]? =ae (.chan cap ((gg k (φ.nj-k)).map φ.jv).toArray aw s r tm))(Ss:φ.WT ((γ i).hold k) (Ph.got g (φ.jv k) aw) w)(fn:bK)(pos:String):φ.Com B0 t0 (gs.setIfInBounds (φ.lo+i) (Ph.got g (φ.jv k) aw)) (w.setChan φ.Ch cap ((gg (k+1) (φ.nj-(k+1))).map φ.jv).toArray aw s (r+1) tm) (t++ #[{g:=φ.lo+i,fn,pos,act:=.recv φ.Ch r cap},{g:=φ.lo+i,fn,pos,act:=.recvDone φ.Ch r}]) j (upd γ i ((γ i).hold k)) (upd S i (.tree ((γ i).hold k,Ph.got g (φ.jv k) aw,w))) μ q (k+1):=by
 have hm: ∀op∈(#[{g:=φ.lo+i,fn,pos,act:=.recv φ.Ch r cap},{g:=φ.lo+i,fn,pos,act:=.recvDone φ.Ch r}]:Trace),op.g=φ.lo+i/\op.act.touch? =ai/\(∀m,op.act≠ .mark m)/\op.act.low w.heap.size:=by
  intro op hop;have hl:φ.Ch<w.heap.size:=by have:=h.jo.B.2.1;have:=h.jo.sz;omega
  simp only[qi,cj,jH,or_false]at hop;rcases hop with rfl|rfl<;>exact⟨rfl,rfl,by simp,hl⟩
 have kJ:(w.setChan φ.Ch cap ((gg (k+1) (φ.nj-(k+1))).map φ.jv).toArray aw s (r+1) tm).heap.size=w.heap.size:=by simp[qj]
 have own: ∀{a b:Nat},(upd γ i ((γ i).hold k) a).own b↔(γ a).own b:=by
  intro a b;by_cases e:a=i
  ·subst e;rw[upd_same];rfl
  ·rw[upd_ne _ _ e]
 have over: ∀{a:Nat},(upd γ i ((γ i).hold k) a).over↔(γ a).over:=by
  intro a;by_cases e:a=i
  ·subst e;rw[upd_same];rfl
  ·rw[upd_ne _ _ e]
 have held: ∀{a p:Nat},(upd γ i ((γ i).hold k) a).held p↔((γ a).held p\/(a=i/\p=k)):=by
  intro a p;by_cases e:a=i
  ·subst e;rw[upd_same];simp[Gh.hold]
  ·rw[upd_ne _ _ e];simp[e]
 have e:=h.FG (w':=w.setChan φ.Ch cap ((gg (k+1) (φ.nj-(k+1))).map φ.jv).toArray aw s (r+1) tm) (k':=k+1) (g':=Ph.got g (φ.jv k) aw) (γi:=(γ i).hold k) (Si:=.tree ((γ i).hold k,Ph.got g (φ.jv k) aw,w)) O hi id (λ_ _=>rfl)
  (λop hop=>(hm op hop).1) (λi' gK _=>Jv O (h.acT gK) _ _ _ _ _ _ ⟨_,_,_,_,_,_,vG⟩)
  ⟨rfl,rfl,Ss,Jv O (γ':=(γ i).hold k) (h.acT hi) _ _ _ _ _ _ ⟨_,_,_,_,_,_,vG⟩⟩ ?_ ?_ ?_ (λop hop=>(hm op hop).2.2.1 _) (λx=>by simp[ux.wd]at x) (λop hop x hx=>by rw[(hm op hop).2.1]at hx;cases hx)
  (λop hop x hx=>by rw[(hm op hop).2.1]at hx;cases hx) (by rw[kJ];exact ax _) ?_ (λp hp=> ?_) (λp i' hp gK=> ?_) (λi' gK hx=> ?_) (λp hp Nf=>O.j0 _ _ p (λa ha=> ?_) (h.free p (by omega) Nf))
 ·rw[Jc]at e;exact e
 ·rw[Deaf_still t _ _ λop hop=>⟨(hm op hop).2.2.1 _,(hm op hop).2.2.1 _⟩,h.deaf i hi,hS];rfl
 ·refine ET.mute (g:=φ.lo+i) (h.et.yw rfl (λkk _ _ l hl=> ?_) (λl hl=> ?_) (λl hl=>hl) λl hl=>.inl hl) (by omega) (λop hop=>(hm op hop).1) λop hop=>(hm op hop).2.1
  ·obtain⟨a,ha,rfl,hl⟩:=hl;rcases hl with⟨b,hb,ho⟩|⟨p,ad,hp,uK,rfl⟩
   ·exact .inl ⟨a,ha,rfl,.inl ⟨b,hb,own.1 ho⟩⟩
   ·rcases held.1 hp with hp|⟨rfl,rfl⟩
    ·exact .inl ⟨a,ha,rfl,.inr ⟨p,ad,hp,uK,rfl⟩⟩
    ·exact .inr (.inl ⟨p,ad,λi' gK=>h.todo p i' (ax _) gK,uK,rfl⟩)
  ·obtain⟨p,ad,hn,uK,rfl⟩:=hl;exact⟨p,ad,λa ha hp=>hn a ha (held.2 (.inl hp)),uK,rfl⟩
 ·rw[kJ];refine⟨λa a' b ha yY h1 h2=>h.jo.ME a a' b ha yY (own.1 h1) (own.1 h2),λa b ha h1=>h.jo.mine a b ha (own.1 h1),λa b ha h1=>h.jo.Du a b ha (own.1 h1),h.jo.yH,λa a' p ha yY h1 h2=> ?_,λa p ha h1=> ?_,h.jo.sz,h.jo.B,h.jo.st⟩
  ·rcases held.1 h1 with x|⟨rfl,rfl⟩<;>rcases held.1 h2 with y|⟨rfl,y⟩
   ·exact h.jo.Eu a a' p ha yY x y
   ·subst y;exact absurd x (h.todo _ a (ax _) ha)
   ·exact absurd y (h.todo _ a' (ax _) yY)
   ·rfl
  ·rcases held.1 h1 with x|⟨rfl,rfl⟩
   ·exact h.jo.bJ a p ha x
   ·exact bJ
 ·refine⟨by omega,cap,s,r+1,tm,?_⟩;show(w.heap.setIfInBounds φ.Ch _)[φ.Ch]? =_;rw[aU (aI.1 vG).1]
 ·rcases ec p k with Nd|Nd
  ·obtain⟨i',gK,hh⟩:=h.done p Nd;exact⟨i',gK,held.2 (.inl hh)⟩
  ·exact⟨i,hi,held.2 (.inr ⟨rfl,by omega⟩)⟩
 ·intro hh;rcases held.1 hh with x|⟨_,rfl⟩
  ·exact h.todo p i' (by omega) gK x
  ·omega
 ·have:=h.over i' gK (over.1 hx);omega
 ·have eb:a.block≠φ.Ch:=λe=>O.cbC (e▸O.nw p a ha)
  have blk:(w.setChan φ.Ch cap ((gg (k+1) (φ.nj-(k+1))).map φ.jv).toArray aw s (r+1) tm).heap[a.block]? =w.heap[a.block]?:=by show(w.heap.setIfInBounds φ.Ch _)[a.block]? =_;rw[aK (Ne.symm eb)]
  unfold c8;rw[blk]
def Ph.Com.ZJ (O:φ.Ok)(h:φ.Com B0 t0 gs w t j γ S μ q k){i:Nat}(hi:i<j){g:au}{x:WX}(hS:S i=.tree x)(hk:k=φ.nj)(Ss:φ.WT (γ i).close (Ph.got g φ.z ay) w)(fn:bK)(pos:String):φ.Com B0 t0 (gs.setIfInBounds (φ.lo+i) (Ph.got g φ.z ay)) w (t++ #[{g:=φ.lo+i,fn,pos,act:=.recvClosed φ.Ch}]) j (upd γ i (γ i).close) (upd S i (.tree ((γ i).close,Ph.got g φ.z ay,w))) μ q k:=by
 have hm: ∀op∈(#[{g:=φ.lo+i,fn,pos,act:=.recvClosed φ.Ch}]:Trace),op.g=φ.lo+i/\op.act.touch? =ai/\(∀m,op.act≠ .mark m)/\op.act.low w.heap.size:=by
  intro op hop;have hl:φ.Ch<w.heap.size:=by have:=h.jo.B.2.1;have:=h.jo.sz;omega
  simp only[qi,cj,jH,or_false]at hop;rcases hop with rfl;exact⟨rfl,rfl,by simp,hl⟩
 have own: ∀{a b:Nat},(upd γ i (γ i).close a).own b↔(γ a).own b:=by
  intro a b;by_cases e:a=i
  ·subst e;rw[upd_same];rfl
  ·rw[upd_ne _ _ e]
 have held: ∀{a p:Nat},(upd γ i (γ i).close a).held p↔(γ a).held p:=by
  intro a p;by_cases e:a=i
  ·subst e;rw[upd_same];rfl
  ·rw[upd_ne _ _ e]
 have e:=h.FG (w':=w) (k':=k) (g':=Ph.got g φ.z ay) (γi:=(γ i).close) (Si:=.tree ((γ i).close,Ph.got g φ.z ay,w)) O hi id (λ_ _=>rfl)
  (λop hop=>(hm op hop).1) (λi' gK _=>.refl _ _) ⟨rfl,rfl,Ss,.refl _ _⟩ ?_ ?_ ?_ (λop hop=>(hm op hop).2.2.1 _) (λx=>by simp[ux.wd]at x) (λop hop x hx=>by rw[(hm op hop).2.1]at hx;cases hx)
  (λop hop x hx=>by rw[(hm op hop).2.1]at hx;cases hx) (ax _) h.chan (λp hp=> ?_) (λp i' hp gK=> ?_) (λi' gK hx=>hk) h.free
 ·rw[Jc]at e;exact e
 ·rw[Deaf_still t _ _ λop hop=>⟨(hm op hop).2.2.1 _,(hm op hop).2.2.1 _⟩,h.deaf i hi,hS];rfl
 ·refine ET.mute (g:=φ.lo+i) (h.et.yw rfl (λkk _ _ l hl=>.inl ?_) (λl hl=> ?_) (λl hl=>hl) λl hl=>.inl hl) (by omega) (λop hop=>(hm op hop).1) λop hop=>(hm op hop).2.1
  ·obtain⟨a,ha,rfl,hl⟩:=hl;rcases hl with⟨b,hb,ho⟩|⟨p,ad,hp,uK,rfl⟩
   ·exact⟨a,ha,rfl,.inl ⟨b,hb,own.1 ho⟩⟩
   ·exact⟨a,ha,rfl,.inr ⟨p,ad,held.1 hp,uK,rfl⟩⟩
  ·obtain⟨p,ad,hn,uK,rfl⟩:=hl;exact⟨p,ad,λa ha hp=>hn a ha (held.2 hp),uK,rfl⟩
 ·exact⟨λa a' b ha yY h1 h2=>h.jo.ME a a' b ha yY (own.1 h1) (own.1 h2),λa b ha h1=>h.jo.mine a b ha (own.1 h1),λa b ha h1=>h.jo.Du a b ha (own.1 h1),h.jo.yH,λa a' p ha yY h1 h2=>h.jo.Eu a a' p ha yY (held.1 h1) (held.1 h2),λa p ha h1=>h.jo.bJ a p ha (held.1 h1),h.jo.sz,h.jo.B,h.jo.st⟩
 ·obtain⟨i',gK,hh⟩:=h.done p hp;exact⟨i',gK,held.2 hh⟩
 ·intro hh;exact h.todo p i' hp gK (held.1 hh)
end
end Rel
namespace Rel
open Go.Conc Go.ConcN
open Go.ConcR (KK WgAt rd wr Payload DC0 stA smA Bk ofEvent_loc_mark ofEvent_cell bk_of_mute)
section
variable [Payload] {φ:Ph} {B0:Nat} {t0:Trace} {gs:Array au} {w w':ah} {t:Trace} {j:Nat} {γ:Nat->Gh} {S:Nat->ux} {μ:Nat->Prop} {q:Nat->Nat} {k k':Nat}
def S6 (O:φ.Ok){γ':Gh}(hC: ¬γ'.own φ.Wg)(h:Go.Conc.Aside φ.Wg w w')(hl:WgLive φ.ty φ.Wg w'):φ.e9 γ' w w':=by
 refine⟨λb hb=>h.block b λe=>hC (e▸hb),λb hb=>h.block b λe=>O.rdW (e▸hb),λp a _ ha=> ?_,λb hb=> ?_,λ_=>hl,by rw[h.size];exact ax _,h.tape,h.os,h.output⟩
 ·have eb:a.block≠φ.Wg:=λe=>O.Wb (e▸O.nw p a ha)
  unfold c8;rw[h.block _ eb]
 ·unfold fL;rw[h.block _ λe=>O.Wb (e▸hb)]
def agP (O:φ.Ok)(hC: ¬μ φ.Wg)(h:Go.Conc.Aside φ.Wg w w')(hl:WgLive φ.ty φ.Wg w'):φ.MR μ w w':=⟨λb hb=>h.block b λe=>O.ag7 (e▸hb),λb hb=>h.block b λe=>hC (e▸hb),λb hb=>h.block b λe=>O.rdW (e▸hb),λb hb=>by unfold fL;rw[h.block _ λe=>O.Wb (e▸hb)],λ_=>hl,by rw[h.size];exact ax _,h.tape,h.os,h.output⟩
def Ph.Com.Tr (h:φ.Com B0 t0 gs w t j γ S μ q k){i:Nat}(hi:i<j): ¬(γ i).own φ.Wg:=λho=>by have:=(h.jo.Du i _ hi ho).1;have:=h.jo.B.1;omega
def Ph.Com.ae0 (h:φ.Com B0 t0 gs w t j γ S μ q k): ¬μ φ.Wg:=λho=>by have:=(h.jo.yH _ ho).1;have:=h.jo.B.1;omega
def kF {α:Type}(f:Nat->α)(i:Nat):upd f i (f i)=f:=by
 funext a;by_cases e:a=i
 ·subst e;rw[upd_same]
 ·rw[upd_ne _ _ e]
def D4 {e:Event}(h:Bk φ.Wg e):(∀x,(cX e).touch? =ae x->x.kind=.atomic/\ShN φ.Wg x.loc)/\cX e≠ .mark (.release (stA φ.Wg))/\ ∀B,φ.Wg<B->(cX e).low B:=by
 rcases h with h1|h1|⟨a,wr,rfl,ha⟩
 ·rw[ofEvent_loc_mark h1];exact⟨λx hx=>by(cases hx),by simp,λ_ _=>trivial⟩
 ·rw[ofEvent_loc_mark h1];exact⟨λx hx=>by(cases hx),by simp,λ_ _=>trivial⟩
 ·rw[ofEvent_cell];refine⟨λx hx=> ?_,by simp,λB hB=>by show a.block<B;rw[ha];exact hB⟩;simp only[sU,dS]at hx;subst hx;exact⟨rfl,a,rfl,ha⟩
def Ph.Com.aad (O:φ.Ok)(h:φ.Com B0 t0 gs w t j γ S μ q k){i:Nat}(hi:i<j){d d':WD}(hS:S i=.tail d){g':au}{es:Array Event}{C:Nat}{v:ao}(hO:(γ i).over)(hC:(γ i).own C)(hP:PayAt C 1 w)(hJ: ∀p,(γ i).held p->φ.JP (λb=>(γ i).own b/\b≠C) p w)(tB:Go.Conc.Aside φ.Wg w w')(hl:WgLive φ.ty φ.Wg w')(CX: ∀e∈es,Bk φ.Wg e)(Nh:WSit φ.P φ.ty φ.Wg C 1 (λ_ _=>False) (λ_ _=>False) 0 1 v d'.stage d'.fuel d'.deaf g' w')(s1:1<=d'.stage)(s7:d'.stage<=6)(h6:d.stage<=6)(hd: ∀x e,es[x]? =ae e->(cX e).touch? =ai\/0<deafBehind d.deaf (es.extract 0 x))(Hh:deafBehind d.deaf es=d'.deaf)(fn:bK)(pos:String)(f:au->au)(hf: ∀o,o.status=.running\/o.status=.finished->f o=o):φ.Com B0 t0 ((gs.map f).setIfInBounds (φ.lo+i) g') w' (t++ca (φ.lo+i) fn pos es) j γ (upd S i (.tail d')) μ q k:=by
 have iA: ∀op∈ca (φ.lo+i) fn pos es,op.g=φ.lo+i:=λop hop=>by obtain⟨e,_,rfl⟩:=bj hop;rfl
 have abk:φ.Wg<w'.heap.size:=by have:=h.jo.B.1;have:=h.jo.sz;rw[tB.size];omega
 have hdk:Deaf t (φ.lo+i)=d.deaf:=by rw[h.deaf i hi,hS];rfl
 have rel:=λ{i':Nat} (gK:i'<j)=>S6 O (h.Tr gK) tB hl
 obtain⟨cs,p1,p2⟩:=hP;have e:=h.FG (w':=w') (k':=k) (g':=g') (γi:=γ i) (Si:=.tail d') O hi f hf iA (λi' gK _=>rel gK) ⟨C,v,hO,hC,⟨cs,((rel hi).own C hC).trans p1,p2⟩,λp hp=>O.jp _ w w' p (λb hb=>(rel hi).own b hb.1) (λa ha=>(rel hi).cell p a hp ha) (hJ p hp),s1,by omega,Nh⟩ (by rw[Deaf_own,hdk,Hh];rfl) ?_ ?_ ?_ (λ_=> ?_) ?_ ?_ (by rw[tB.size];exact ax _) ?_ ?_ ?_ ?_ ?_
 ·rw[kF]at e;exact e
 ·rw[kF];refine ET.adF (h.jo.apart O) (k:=φ.lo+i) h.et (Nat.le_add_right _ _) (by omega) λop hop=>⟨iA op hop,λx hx=> ?_⟩
  obtain⟨e,he,rfl⟩:=bj hop;obtain⟨h1,h2⟩:=(D4 (CX e he)).1 x hx;exact .inl ⟨h2,by rw[h1];simp,by rw[h1];simp⟩
 ·rw[kF,tB.size];exact h.jo
 ·intro op hop;obtain⟨e,he,rfl⟩:=bj hop;exact(D4 (CX e he)).2.1
 ·obtain⟨r,hr⟩:=h.rel i hi (by rw[hS];exact h6);exact⟨r,hr.book hdk _ _ CX hd⟩
 ·intro op hop x hx _;obtain⟨e,he,rfl⟩:=bj hop;exact((D4 (CX e he)).1 x hx).2
 ·intro op hop x hx;obtain⟨e,he,rfl⟩:=bj hop;obtain⟨a,h1,h2⟩:=((D4 (CX e he)).1 x hx).2;rw[h1];exact(by rw[h2];exact abk:a.block<w'.heap.size)
 ·obtain⟨hk,cap,s,r,tm,hc⟩:=h.chan;exact⟨hk,cap,s,r,tm,(tB.block φ.Ch O.hCW).trans hc⟩
 ·rw[kF];exact h.done
 ·rw[kF];exact h.todo
 ·rw[kF];exact h.over
 ·intro p hp Nf;refine O.j0 _ _ p (λa ha=> ?_) (h.free p hp Nf);unfold c8;rw[tB.block _ λe=>O.Wb (e▸O.nw p a ha)]
def Ph.Com.Tl (O:φ.Ok)(h:φ.Com B0 t0 gs w t j γ S μ q k){i:Nat}(hi:i<j){d d':WD}(hS:S i=.tail d){g':au}{es:Array Event}{C:Nat}{v:ao}(hO:(γ i).over)(hC:(γ i).own C)(hP:PayAt C 1 w)(hJ: ∀p,(γ i).held p->φ.JP (λb=>(γ i).own b/\b≠C) p w')(tB:AsideCell C 1 0 w w')(Nh:WSit φ.P φ.ty φ.Wg C 1 (λ_ _=>False) (λ_ _=>False) 0 1 v d'.stage d'.fuel d'.deaf g' w')(s1:1<=d'.stage)(s7:d'.stage<=7)(Hh:deafBehind d.deaf es=d'.deaf)(fn:bK)(pos:String)(ui: ∀e∈es,(∀x,(cX e).touch? =ae x->ShN φ.Wg x.loc/\x.kind≠ .plain/\x.kind≠ .said)/\cX e≠ .mark (.release (stA φ.Wg)))(hr:d'.stage<=6-> ∃r,RelBy (stA φ.Wg) (t++ca (φ.lo+i) fn pos es) (φ.lo+i) r)(f:au->au)(hf: ∀o,o.status=.running\/o.status=.finished->f o=o):φ.Com B0 t0 ((gs.map f).setIfInBounds (φ.lo+i) g') w' (t++ca (φ.lo+i) fn pos es) j γ (upd S i (.tail d')) μ q k/\φ.MR μ w w':=by
 have iA: ∀op∈ca (φ.lo+i) fn pos es,op.g=φ.lo+i:=λop hop=>by obtain⟨e,_,rfl⟩:=bj hop;rfl
 have hdk:Deaf t (φ.lo+i)=d.deaf:=by rw[h.deaf i hi,hS];rfl
 obtain⟨hW,hCh,hR,xq⟩:=h.jo.B;have aiJ:=h.jo.Du i C hi hC;have ne: ∀b,b<B0->b≠C:=λb hb e=>by omega
 have rel: ∀{i':Nat},i'<j->i'≠i->φ.e9 (γ i') w w':=λ{i'} gK eb=>by
  refine⟨λb hb=>tB.block b λe=>eb (h.jo.ME i' i b gK hi hb (e▸hC)),λb hb=>tB.block b (ne b (hR b hb)),λp a _ ha=> ?_,λb hb=> ?_,λ⟨st,sm,hl⟩=>⟨st,sm,(tB.block φ.Wg (ne _ hW)).trans hl⟩,by rw[tB.size];exact ax _,tB.tape,tB.os,tB.output⟩
  ·unfold c8;rw[tB.block _ (ne _ (xq _ (O.nw p a ha)))]
  ·unfold fL;rw[tB.block _ (ne _ (xq _ hb))]
 refine⟨?_,⟨λb hb=>tB.block b (ne b (h.jo.st b hb)),λb hb=>tB.block b λe=>h.jo.mine i C hi hC (e▸hb),λb hb=>tB.block b (ne b (hR b hb)),λb hb=>by unfold fL;rw[tB.block _ (ne _ (xq _ hb))],λ⟨st,sm,hl⟩=>⟨st,sm,(tB.block φ.Wg (ne _ hW)).trans hl⟩,by rw[tB.size];exact ax _,tB.tape,tB.os,tB.output⟩⟩;have e:=h.FG (w':=w') (k':=k) (g':=g') (γi:=γ i) (Si:=.tail d') O hi f hf iA (λi' gK eb=>rel gK eb) ⟨C,v,hO,hC,tB.pay hP,hJ,s1,s7,Nh⟩ (by rw[Deaf_own,hdk,Hh];rfl) ?_ ?_ ?_ hr ?_ ?_ (by rw[tB.size];exact ax _) ?_ ?_ ?_ ?_ ?_
 ·rw[kF]at e;exact e
 ·rw[kF];refine ET.adF (h.jo.apart O) (k:=φ.lo+i) h.et (Nat.le_add_right _ _) (by omega) λop hop=>⟨iA op hop,λx hx=> ?_⟩
  obtain⟨e,he,rfl⟩:=bj hop;exact .inl ((ui e he).1 x hx)
 ·rw[kF,tB.size];exact h.jo
 ·intro op hop;obtain⟨e,he,rfl⟩:=bj hop;exact(ui e he).2
 ·intro op hop x hx hk;obtain⟨e,he,rfl⟩:=bj hop;exact((ui e he).1 x hx).1
 ·intro op hop x hx;obtain⟨e,he,rfl⟩:=bj hop;obtain⟨⟨a,h1,h2⟩,_⟩:=(ui e he).1 x hx;have hs:=h.jo.sz;rw[h1,tB.size];exact(by rw[h2];omega:a.block<w.heap.size)
 ·obtain⟨hk,cap,s,r,tm,hc⟩:=h.chan;exact⟨hk,cap,s,r,tm,(tB.block φ.Ch (ne _ hCh)).trans hc⟩
 ·rw[kF];exact h.done
 ·rw[kF];exact h.todo
 ·rw[kF];exact h.over
 ·intro p hp Nf;refine O.j0 _ _ p (λa ha=> ?_) (h.free p hp Nf);unfold c8;rw[tB.block _ (ne _ (xq _ (O.nw p a ha)))]
end
def DW (n j:Nat):CTag->Prop
 | .sp r _=>j+(r+1)=n
 |_=>j=n
def jG (v:Nat):CTag->Nat
 | .sp r s=>20+16*r+s
 | .kd=>12
 | .anch=>7
 | .w1=>6
 | .w2 vs=>if v=vs then 5 else 10
 | .w3=>4
 | .blk=>4
 | .w4=>3
 | .ke=>2
 | .acq=>1
 | .ret=>0
section
variable [Payload] (φ:Ph) (Goal:au->ah->Prop) (AnchW:(Nat->Prop)->au->ah->Prop) (B0:Nat) (t0:Trace)
def Ph.uj (j:Nat)(t:Trace):Prop:= ∃p,t0.size<=p/\t.act? p=ae (.mark (.acquire (stA φ.Wg)))/\t.g? p=ae 0/\t.heard p/\ ∀i,i<j-> ∃r,RelBy (stA φ.Wg) t (φ.lo+i) r/\r<p/\t0.size<=r
abbrev j8 (S:Nat->ux):Nat->WD:=λi=>(S i).wd
def Ph.mu (S:Nat->ux)(q:Nat->Nat)(j:Nat)(tag:CTag)(f0:Nat):Mu:=(S,(sumTo φ.lo q,(jG (Vc j (j8 S)) tag,f0)))
def Ph.Inv (m:Mu)(mc:Machine)(t:Trace):Prop:=
 ∃(gs:Array au) (w:ah) (sl:Option (Nat×Nat)) (j:Nat) (γ:Nat->Gh) (S:Nat->ux) (μ:Nat->Prop) (q:Nat->Nat) (k:Nat) (tag:CTag) (f0 d0:Nat) (a:au) (st sm:Int),
  mc=crowd gs w sl/\gs[0]? =ae a/\φ.k7 Goal AnchW tag f0 d0 μ a w/\Deaf t 0=d0/\φ.Com B0 t0 gs w t j γ S μ q k/\WgAt φ.ty φ.Wg w st sm/\fB j (j8 S) tag st sm/\DW φ.n j tag/\
  (tag=.ret->φ.uj t0 j t)/\(∀i,i<φ.n->_root_.Acc φ.LX (S i))/\m=φ.mu S q j tag f0
end
section
variable [Payload] {φ:Ph} {Goal:au->ah->Prop} {AnchW:(Nat->Prop)->au->ah->Prop} {B0:Nat} {t0:Trace} {gs tA:Array au} {w w':ah} {sl:Option (Nat×Nat)} {t:Trace} {j:Nat} {γ γ':Nat->Gh} {S:Nat->ux} {μ:Nat->Prop} {q:Nat->Nat} {k k':Nat} {tag:CTag} {f0 d0:Nat} {a:au} {st sm BH BD:Int}
def xH (S:Nat->ux)(i:Nat)(s:ux):j8 (upd S i s)=upd (j8 S) i s.wd:=by
 funext x;by_cases e:x=i
 ·subst e;show(upd S x s x).wd=_;rw[upd_same,upd_same]
 ·show(upd S i s x).wd=_;rw[upd_ne _ _ e,upd_ne _ _ e]
def yB (fE: ∀i,i<φ.n->_root_.Acc φ.LX (S i))(hjn:j<=φ.n)(nN:Deaf t 0=d0)(ns:DW φ.n j tag){i:Nat}(hi:i<j)(LR:0<φ.lo){Si:ux}{ops:Trace}{a':au}{tag':CTag}{f':Nat}(mI:φ.Com B0 t0 tA w' (t++ops) j γ' (upd S i Si) μ q k')(yY:tA[0]? =ae a')(wo:φ.k7 Goal AnchW tag' f' d0 μ a' w')(Kz:tag'=tag\/(tag=.blk/\tag'=.w3))(iA: ∀op∈ops,op.g=φ.lo+i)(cT:runT φ.P (crowd gs w sl) (φ.lo+i)=(.next (crowd tA w' sl),ops))(j2:WgAt φ.ty φ.Wg w' BH BD)(dL:fB j (j8 (upd S i Si)) tag' BH BD)(sK:tag=.ret->φ.uj t0 j (t++ops))(bJ:φ.LX Si (S i)): ∃m' nZ sT,runT φ.P (crowd gs w sl) (φ.lo+i)=(.next m',nZ)/\φ.UH sT (φ.mu S q j tag f0)/\φ.Inv Goal AnchW B0 t0 sT m' (t++nZ):=by
 refine⟨_,_,φ.mu (upd S i Si) q j tag' f',cT,Prod.Lex.left _ _ ⟨i,by omega,by rw[upd_same];exact bJ,λx hx=>upd_ne _ _ hx⟩,tA,w',sl,j,γ',upd S i Si,μ,q,k',tag',f',d0,a',BH,BD,rfl,yY,wo,?_,mI,j2,dL,?_,?_,λx hx=> ?_,rfl⟩
 ·rw[Deaf_other t (g':=φ.lo+i) (by omega) _ iA,nN]
 ·rcases Kz with rfl|⟨rfl,rfl⟩<;>exact ns
 ·intro e;rcases Kz with rfl|⟨_,rfl⟩
  ·exact sK e
  ·cases e
 ·by_cases e:x=i
  ·subst e;rw[upd_same];exact(fE x hx).inv bJ
  ·rw[upd_ne _ _ e];exact fE x hx
def uO (yW: ∀μ g w,AnchW μ g w->g.status=.running)(fE: ∀i,i<φ.n->_root_.Acc φ.LX (S i))(hjn:j<=φ.n)(nN:Deaf t 0=d0)(ns:DW φ.n j tag){i:Nat}(hi:i<j)(LR:0<φ.lo)(ha:gs[0]? =ae a)(tC:φ.k7 Goal AnchW tag f0 d0 μ a w){g g':au}{es:Array Event}(hg:gs[φ.lo+i]? =ae g)(hgo:stepG φ.P ay g w=.go g' w' es){Si:ux}(hMR:φ.MR μ w w')(mI: ∀f:au->au,(∀o,o.status=.running\/o.status=.finished->f o=o)->φ.Com B0 t0 ((gs.map f).setIfInBounds (φ.lo+i) g') w' (t++ca (φ.lo+i) g.frame.fn g.frame.place es) j γ' (upd S i Si) μ q k')(j2:WgAt φ.ty φ.Wg w' BH BD)(dL: ∀tag',(tag'=tag\/(tag=.blk/\tag'=.w3))->(mayWake φ.P g=aw->g'.status=.running->tag'≠ .blk)->fB j (j8 (upd S i Si)) tag' BH BD)(sK:tag=.ret->φ.uj t0 j (t++ca (φ.lo+i) g.frame.fn g.frame.place es))(bJ:φ.LX Si (S i)): ∃m' nZ sT,runT φ.P (crowd gs w sl) (φ.lo+i)=(.next m',nZ)/\φ.UH sT (φ.mu S q j tag f0)/\φ.Inv Goal AnchW B0 t0 sT m' (t++nZ):=by
 obtain⟨tag',f',wo,Kz,hwk⟩:=tC.wokenBy yW hMR g g';have eb:(φ.lo+i==0)=ay:=by simp;omega
 refine yB fE hjn nN ns hi LR (mI (woken φ.P g g' w') λo ho=> ?_) ?_ wo Kz (λop hop=>by obtain⟨e,_,rfl⟩:=bj hop;rfl) (runT_crowd_go hg (by rw[eb];exact hgo)) j2 (dL tag' Kz hwk) sK bJ
 ·unfold Go.Conc.woken
  split
  ·exact again_running _ ho
  ·rfl
 ·rw[get_map_set _ _ _ _ (by omega),ha];rfl
def uj.app {u:Trace}(h:φ.uj t0 j t)(hu: ∀i r,i<j->RelBy (stA φ.Wg) t (φ.lo+i) r->RelBy (stA φ.Wg) (t++u) (φ.lo+i) r):φ.uj t0 j (t++u):=by obtain⟨p,h0,h1,h2,h3,h4⟩:=h;have hp:=lt_of_act? h1;exact⟨p,h0,by rw[act?_old hp];exact h1,by rw[g?_old hp];exact h2,(heard_old hp).2 h3,λi hi=>let⟨r,hr,hrp,hr0⟩:=h4 i hi;⟨r,hu i r hi hr,hrp,hr0⟩⟩
def JF (O:φ.Ok)(yW: ∀μ g w,AnchW μ g w->g.status=.running)(ha:gs[0]? =ae a)(tC:φ.k7 Goal AnchW tag f0 d0 μ a w)(nN:Deaf t 0=d0)(cw:φ.Com B0 t0 gs w t j γ S μ q k)(j2:WgAt φ.ty φ.Wg w st sm)(dL:fB j (j8 S) tag st sm)(ns:DW φ.n j tag)(sK:tag=.ret->φ.uj t0 j t){i:Nat}(hi:i<j){g:au}(hg:gs[φ.lo+i]? =ae g)(cT:g.status=.running){d:WD}(hS:S i=.tail d): ∃g' w' es d' BH BD,stepG φ.P ay g w=.go g' w' es/\φ.MR μ w w'/\WgAt φ.ty φ.Wg w' BH BD/\(d'.stage<d.stage\/(d'.stage=d.stage/\d'.fuel<d.fuel))/\(∀tag',(tag'=tag\/(tag=.blk/\tag'=.w3))->(mayWake φ.P g=aw->g'.status=.running->tag'≠ .blk)->fB j (upd (j8 S) i d') tag' BH BD)/\(tag=.ret->φ.uj t0 j (t++ca (φ.lo+i) g.frame.fn g.frame.place es))/\ ∀f:au->au,(∀o,o.status=.running\/o.status=.finished->f o=o)->φ.Com B0 t0 ((gs.map f).setIfInBounds (φ.lo+i) g') w' (t++ca (φ.lo+i) g.frame.fn g.frame.place es) j γ (upd S i (.tail d')) μ q k:=by
 obtain⟨adY,M8,Qg⟩:=cw.wk i hi;obtain rfl:g=adY:=by rw[hg]at M8;exact be M8
 rw[hS]at Qg;obtain⟨C,v,hO,hC,hP,hJ,s1,s7,hs⟩:=Qg;have hdk:Deaf t (φ.lo+i)=d.deaf:=by rw[cw.deaf i hi,hS];rfl
 have hwd:j8 S i=d:=by show(S i).wd=d;rw[hS];rfl
 have hCW:C≠φ.Wg:=λe=>cw.Tr hi (e▸hC)
 have hVj:Vc j (j8 S)<=j:=Vc_le j (j8 S);have hjn:=cw.jn;have hn:=O.n31;obtain⟨ds,df,dd⟩:=d;simp only at hs s1 s7 hdk|-;have gI:(j8 S i).stage=ds:=by rw[hwd]
 have book: ∀{g':au} {w':ah} {es:Array Event} {s' m' dd':Nat} {BH BD:Int},stepG φ.P ay g w=.go g' w' es->Go.Conc.Aside φ.Wg w w'->WgAt φ.ty φ.Wg w' BH BD->(∀e∈es,Bk φ.Wg e)->
  (∀jx e,es[jx]? =ae e->(cX e).touch? =ai\/0<deafBehind dd (es.extract 0 jx))->WSit φ.P φ.ty φ.Wg C 1 (λ_ _=>False) (λ_ _=>False) 0 1 v s' m' dd' g' w'->deafBehind dd es=dd'->1<=s'->s'<=6->ds<=6->
  (∀tag',(tag'=tag\/(tag=.blk/\tag'=.w3))->(mayWake φ.P g=aw->g'.status=.running->tag'≠ .blk)->fB j (upd (j8 S) i ⟨s',m',dd'⟩) tag' BH BD)->(tag=.ret->φ.uj t0 j (t++ca (φ.lo+i) g.frame.fn g.frame.place es))->(s'<ds\/(s'=ds/\m'<df))->_:=
  λ{g' w' es s' m' dd' BH BD} hgo tB xO CX hd Nh Hh C2 hs6 h6 wu M2 bJ=>
   (⟨g',w',es,⟨s',m',dd'⟩,BH,BD,hgo,agP O cw.ae0 tB ⟨_,_,xO⟩,xO,bJ,wu,M2,λf hf=>cw.aad O hi hS hO hC hP hJ tB ⟨_,_,xO⟩ CX Nh C2 hs6 h6 hd Hh _ _ f hf⟩: ∃g' w' es d' BH BD,stepG φ.P ay g w=.go g' w' es/\φ.MR μ w w'/\WgAt φ.ty φ.Wg w' BH BD/\(d'.stage<ds\/(d'.stage=ds/\d'.fuel<df))/\
   (∀tag',(tag'=tag\/(tag=.blk/\tag'=.w3))->(mayWake φ.P g=aw->g'.status=.running->tag'≠ .blk)->fB j (upd (j8 S) i d') tag' BH BD)/\
   (tag=.ret->φ.uj t0 j (t++ca (φ.lo+i) g.frame.fn g.frame.place es))/\
   ∀f:au->au,(∀o,o.status=.running\/o.status=.finished->f o=o)->φ.Com B0 t0 ((gs.map f).setIfInBounds (φ.lo+i) g') w' (t++ca (φ.lo+i) g.frame.fn g.frame.place es) j γ (upd S i (.tail d')) μ q k)
 have same: ∀m' dd' tag',(tag'=tag\/(tag=.blk/\tag'=.w3))->fB j (upd (j8 S) i ⟨ds,m',dd'⟩) tag' st sm:=λm' dd' tag' ht=>qa (by have:=dL.same (i:=i) m' dd';rwa[gI]at this) ht
 have nr:ds≠1->tag≠ .ret:=λh=>dL.not_ret hi (by rw[gI];exact h)
 have idle: ∀{g':au} {m':Nat},stepG φ.P ay g w=.go g' w #[]->WSit φ.P φ.ty φ.Wg C 1 (λ_ _=>False) (λ_ _=>False) 0 1 v ds m' dd g' w->m'<df->ds<=6->ds≠1->_:=λ{g' m'} hgo Nh hm h6 h1=>book hgo (.refl φ.Wg w) j2 (by simp) (by simp) Nh rfl s1 h6 h6 (λtag' ht _=>same m' dd tag' ht) (λe=>absurd e (nr h1)) (.inr ⟨rfl,hm⟩)
 cases hs with
 |r0 h=>
  rcases Goes.cases h with fF|⟨m',rfl,eP⟩
  ·obtain⟨_,aiR,g',hgo,m₂,hk⟩:=fF w (RW.refl w);have own:=λf hf=>cw.Tl (v:=v) O hi hS (g':=g') (d':=⟨6,m₂,0⟩) (es:= #[iJ (.releaseMerge (stA φ.Wg))]) hO hC hP hJ ⟨rfl,rfl,rfl,rfl,λ_ _=>rfl,id,λ_ _=>rfl⟩ (.k1 hk) (by simp) (by simp) rfl g.frame.fn g.frame.place (λe he=>by simp at he;subst he;exact⟨(λx hx=>by cases hx),by simp[Go.ConcR.ofEvent_mk]⟩) (λ_=>⟨t.size,RelBy.new hdk _ _⟩) f hf
   exact⟨g',w,_,⟨6,m₂,0⟩,st,sm,hgo,.refl μ w,j2,.inl (by simp),λtag' ht _=>(dL.counted hi (by rw[gI];decide) (.inl rfl) _ _).retag ht,λe=>absurd e (nr (by decide)),λf hf=>(own f hf).1⟩
  ·obtain⟨g',w',es,hgo,⟨hac,jJ⟩,lN⟩:=eP w (RW.refl w);have hac:AsideCell C 1 0 w w':=hac;have hJ': ∀p,(γ i).held p->φ.JP (λb=>(γ i).own b/\b≠C) p w':=λp hp=>by
    refine O.jp _ w w' p (λb hb=>hac.block b hb.2) (λad uK=> ?_) (hJ p hp);have eb:ad.block≠C:=λe=>by have h1:=cw.jo.B.2.2.2 _ (O.nw p ad uK);have h2:=(cw.jo.Du i C hi hC).1;omega
    unfold c8;rw[hac.block _ eb]
   have own:=λf hf=>cw.Tl O hi hS (g':=g') (d':=⟨7,m',0⟩) (es:=es) hO hC hP hJ' hac (.r0 lN) (by simp) (by simp) (deafBehind_idle (λe he=>⟨(jJ e he).2.1,(jJ e he).2.2.1⟩) 0) g.frame.fn g.frame.place (λe he=>⟨λx hx=>(((jJ e he).1 0 "").2 x hx).elim id λh=>h.elim False.elim λh=>h.1.elim,?_⟩) (λx=>by simp at x) f hf
   ·exact⟨g',w',es,⟨7,m',0⟩,st,sm,hgo,(own id (λ_ _=>rfl)).2,j2.of_block (hac.block φ.Wg (Ne.symm hCW)),.inr ⟨rfl,by simp⟩,λtag' ht _=>same m' 0 tag' ht,λe=>absurd e (nr (by decide)),λf hf=>(own f hf).1⟩
   ·intro x;exact(jJ e he).2.2.2 (Go.ConcR.loc_of_ofEvent x)
 |k1 h=>
  rcases Goes.cases h with fF|⟨m',rfl,eP⟩
  ·obtain⟨_,g',hgo,m₂,hk⟩:=fF w (RW.refl w);exact book hgo (.refl φ.Wg w) j2 (by intro e he;simp at he;subst he;exact .inl rfl) (by intro jx e he;exact .inl (by have:=ug he;simp at this;subst this;rfl)) (.d1 hk) rfl (by decide) (by decide) (by decide) (λtag' ht _=>(dL.counted hi (by rw[gI];decide) (.inr rfl) _ _).retag ht) (λe=>absurd e (nr (by decide))) (.inl (by decide))
  ·obtain⟨g',w',es,hgo,⟨rfl,rfl⟩,lN⟩:=eP w (RW.refl w);exact idle hgo (.k1 lN) (by omega) (by decide) (by decide)
 |d1 h=>
  rcases Goes.cases h with fF|⟨m',rfl,eP⟩
  ·obtain⟨_,xN⟩:=fF w (RW.refl w);have vA:cnt (j8 S i)=1:=by simp[cnt,gI]
   have hV1:1<=Vc j (j8 S):=by have:=le_sumTo (f:=λx=>cnt (j8 S x)) hi;simp only[Vc];omega
   have bk2: ∀e∈ #[rd (stA φ.Wg),wr (stA φ.Wg)],Bk φ.Wg e:=by intro e he;simp at he;rcases he with rfl|rfl<;>exact bk_cell _ _ rfl
   have df2: ∀jx e,(#[rd (stA φ.Wg),wr (stA φ.Wg)]:Array Event)[jx]? =ae e->(cX e).touch? =ai\/0<deafBehind 1 ((#[rd (stA φ.Wg),wr (stA φ.Wg)]:Array Event).extract 0 jx):=by
    intro jx e he
    match jx,he with
    |0,_=>exact .inr (by simp[deafBehind])
    |1,_=>exact .inr (by simp[deafBehind,rd])
    |jx+2,he=>simp at he
   have hq0: ∀x,cnt (⟨1,x,1⟩:WD)=0:=λ_=>rfl
   have opq: ∀x,OpenSt j (j8 S)->OpenSt j (upd (j8 S) i ⟨1,x,1⟩):=λx h y hy=>by
    by_cases e:y=i
    ·subst e;rw[upd_same];simp
    ·rw[upd_ne _ _ e];exact h y hy
   cases dL with
   |opn h1 h2 h3=>
    obtain⟨vv,hv⟩: ∃vv,Vc j (j8 S)+pend tag=vv+1:=⟨Vc j (j8 S)+pend tag-1,by omega⟩;have hvn:vv<2147483647:=by
     have hp:pend tag<=1:=by cases tag<;>simp only[pend]<;>(try split)<;>omega
     have:Vc j (j8 S)+pend tag<=φ.n:=by
      cases tag with
      |sp r s=>have:j+(r+1)=φ.n:=ns;omega
      |_=>simp only[pend]at hp|-;omega
     omega
    rw[hv]at j2;have Uu:WgAt φ.ty φ.Wg w (((vv:Nat)+1)*KK+((0:Nat):Int)) 0:=by simpa using j2
    obtain⟨g',hgo,_,hq⟩:=xN vv 0 (by omega) hvn Uu;obtain⟨x,hq⟩:=hq (by omega);have Cj:Vc j (upd (j8 S) i ⟨1,x,1⟩)+pend tag=vv:=by have:=Vc_upd (j8 S) (⟨1,x,1⟩:WD) hi;have:=hq0 x;omega
    refine book hgo (aside_setCell w (stA φ.Wg) _) (j2.setSt _) bk2 df2 (.quit hq) rfl (by decide) (by decide) (by decide) (λtag' ht _=>qa ?_ ht) (λe=>absurd e (nr (by decide))) (.inl (by decide));have e:((vv:Nat):Int)*KK+((0:Nat):Int)=((Vc j (upd (j8 S) i ⟨1,x,1⟩)+pend tag:Nat):Int)*KK:=by rw[Cj];simp
    rw[e];exact .opn h1 (opq x h2) (λvs ev=>by have:=h3 vs ev;omega)
   |reg h1 h2 h3=>
    obtain⟨vv,hv⟩: ∃vv,Vc j (j8 S)=vv+1:=⟨Vc j (j8 S)-1,by omega⟩;rw[hv]at j2;have Uu:WgAt φ.ty φ.Wg w (((vv:Nat)+1)*KK+((1:Nat):Int)) 0:=by simpa using j2
    obtain⟨g',hgo,hl,hq⟩:=xN vv 1 (by omega) (by omega) Uu;by_cases hv0:vv=0
    ·subst hv0;obtain⟨m₂,hk⟩:=hl ⟨rfl,rfl⟩;refine book hgo (aside_setCell w (stA φ.Wg) _) (j2.setSt _) bk2 df2 (.d2 hk) rfl (by decide) (by decide) (by decide) (λtag' ht _=>qa ?_ ht) (λe=>absurd e (nr (by decide))) (.inl (by decide));have Qd: ∀y,y<j->y≠i->(j8 S y).stage=1:=λy hy e=>by
      have c0:=others_uncounted hi hv vA y hy e;have:=h2 y hy;simp only[cnt]at c0
      split at c0<;>omega
     have:=Go.ConcN.Mode.last (j:=j) (D:=upd (j8 S) i ⟨4,m₂,1⟩) (tag:=tag) i h1 hi (by rw[upd_same];simp) (λy hy e=>by rw[upd_ne _ _ e];exact Qd y hy e);rw[upd_same]at this;simpa using this
    ·obtain⟨x,hq⟩:=hq (by omega);have Cj:Vc j (upd (j8 S) i ⟨1,x,1⟩)=vv:=by have:=Vc_upd (j8 S) (⟨1,x,1⟩:WD) hi;have:=hq0 x;omega
     refine book hgo (aside_setCell w (stA φ.Wg) _) (j2.setSt _) bk2 df2 (.quit hq) rfl (by decide) (by decide) (by decide) (λtag' ht _=>qa ?_ ht) (λe=>absurd e (nr (by decide))) (.inl (by decide));have e:((vv:Nat):Int)*KK+((1:Nat):Int)=((Vc j (upd (j8 S) i ⟨1,x,1⟩):Nat):Int)*KK+1:=by rw[Cj];simp
     rw[e];exact .reg h1 (opq x h2) (by omega)
   |last L _ h2 h3 h4=>
    by_cases e:i=L
    ·subst e;rw[gI]at h3;omega
    ·have:=h4 i hi e;rw[gI]at this;omega
   |sema h2=>have:=h2 i hi;rw[gI]at this;omega
   |fin _ h2=>have:=h2 i hi;rw[gI]at this;omega
  ·obtain⟨g',w',es,hgo,⟨rfl,rfl⟩,lN⟩:=eP w (RW.refl w);exact idle hgo (.d1 lN) (by omega) (by decide) (by decide)
 |d2 h=>
  rcases Goes.cases h with fF|⟨m',rfl,eP⟩
  ·obtain⟨_,hx⟩:=fF w (RW.refl w);obtain⟨hW3,Qd,rfl,rfl⟩:=dL.isLast hi (by rw[gI];decide);simp only[gI]at j2;obtain⟨g',hgo,m₂,hk⟩:=hx (by simpa using j2);refine book hgo (.refl φ.Wg w) j2 (by intro e he;simp at he;subst he;exact bk_cell _ _ rfl) (by intro jx e he;match jx,he with|0,_=>exact .inr (by simp[deafBehind])|jx+1,he=>simp at he) (.d3 hk) rfl (by decide) (by decide) (by decide) (λtag' ht _=>qa ?_ ht) (λe=>absurd e (nr (by decide))) (.inl (by decide));have:=Go.ConcN.Mode.last (j:=j) (D:=upd (j8 S) i ⟨3,m₂,1⟩) (tag:=tag) i hW3 hi (by rw[upd_same];simp) (λy hy e=>by rw[upd_ne _ _ e];exact Qd y hy e);rw[upd_same]at this;simpa using this
  ·obtain⟨g',w',es,hgo,⟨rfl,rfl⟩,lN⟩:=eP w (RW.refl w);exact idle hgo (.d2 lN) (by omega) (by decide) (by decide)
 |d3 h=>
  rcases Goes.cases h with fF|⟨m',rfl,eP⟩
  ·obtain⟨_,hx⟩:=fF w (RW.refl w);obtain⟨hW3,Qd,rfl,rfl⟩:=dL.isLast hi (by rw[gI];decide);simp only[gI]at j2;obtain⟨g',hgo,m₂,hk⟩:=hx (by simpa using j2);refine book hgo (aside_setCell w (stA φ.Wg) _) (j2.setSt 0) (by intro e he;simp at he;subst he;exact bk_cell _ _ rfl) (by intro jx e he;match jx,he with|0,_=>exact .inr (by simp[deafBehind])|jx+1,he=>simp at he) (.d4 hk) rfl (by decide) (by decide) (by decide) (λtag' ht _=>qa ?_ ht) (λe=>absurd e (nr (by decide))) (.inl (by decide));have:=Go.ConcN.Mode.last (j:=j) (D:=upd (j8 S) i ⟨2,m₂,1⟩) (tag:=tag) i hW3 hi (by rw[upd_same];simp) (λy hy e=>by rw[upd_ne _ _ e];exact Qd y hy e);rw[upd_same]at this;simpa using this
  ·obtain⟨g',w',es,hgo,⟨rfl,rfl⟩,lN⟩:=eP w (RW.refl w);exact idle hgo (.d3 lN) (by omega) (by decide) (by decide)
 |d4 h=>
  rcases Goes.cases h with fF|⟨m',rfl,eP⟩
  ·obtain⟨_,hmw,hx⟩:=fF w (RW.refl w);obtain⟨hW3,Qd,rfl,rfl⟩:=dL.isLast hi (by rw[gI];decide);simp only[gI]at j2;obtain⟨g',hgo,x,hq⟩:=hx (by simpa using j2);have I0:g'.status=.running:=by
    cases x with
    |zero=>exact absurd hq.2 (by decide)
    |succ x=>exact hq.elim (λx=>absurd x.2 (by decide)) (λx=>x.1)
   refine book hgo (aside_setCell w (smA φ.Wg) _) (j2.setSm 1) (es:=semEvents (smA φ.Wg)) ?_ ?_ (.quit hq) (by simp[deafBehind,semEvents]) (by decide) (by decide) (by decide) ?_ (λe=>absurd e (nr (by decide))) (.inl (by decide))
   ·intro e he;simp[semEvents]at he;rcases he with rfl|rfl|rfl|rfl
    ·exact .inl rfl
    ·exact bk_cell _ _ rfl
    ·exact bk_cell _ _ rfl
    ·exact .inr (.inl rfl)
   ·intro jx e he
    match jx,he with
    |0,he=>simp[semEvents]at he;subst he;exact .inl rfl
    |1,_=>exact .inr (by simp[deafBehind,semEvents])
    |2,_=>exact .inr (by simp[deafBehind,semEvents])
    |3,he=>simp[semEvents]at he;subst he;exact .inl rfl
    |jx+4,he=>simp[semEvents]at he
   ·intro tag' ht hw;have hnb:=hw hmw I0;have e3:tag'=.w3:=by
     rcases ht with rfl|⟨_,rfl⟩
     ·cases tag'<;>first|rfl|exact hW3.elim|exact absurd rfl hnb
     ·rfl
    subst e3;simp only[if_true];exact .sema λy hy=>by
     by_cases e:y=i
     ·subst e;rw[upd_same]
     ·rw[upd_ne _ _ e];exact Qd y hy e
  ·obtain⟨g',w',es,hgo,⟨rfl,rfl⟩,lN⟩:=eP w (RW.refl w);exact idle hgo (.d4 lN) (by omega) (by decide) (by decide)
 |quit h=>
  cases df with
  |zero=>rw[h.1]at cT;cases cT
  |succ x=>
   rcases h with⟨hf,_⟩|⟨_,g',es,ac4,eP,hq⟩
   ·rw[hf]at cT;cases cT
   ·have CX: ∀e∈es,Bk φ.Wg e:=λe he=>bk_of_mute (ac4 e he)
    have C1: ∀jx e,es[jx]? =ae e->(cX e).touch? =ai\/0<deafBehind dd (es.extract 0 jx):=λjx e he=>.inl (touch_mute (ac4 e (ug he)))
    refine book (eP w) (.refl φ.Wg w) j2 CX C1 (.quit hq) rfl (by decide) (by decide) (by decide) (λtag' ht _=>same x (deafBehind dd es) tag' ht) (λe=>uj.app (sK e) λi' r gK hr=> ?_) (.inr ⟨rfl,by omega⟩);by_cases e':i'=i
    ·subst e';exact hr.book hdk _ _ CX C1
    ·exact hr.appNot λop hop=>by obtain⟨e,_,rfl⟩:=bj hop;simp;omega
end
end Rel
namespace Rel
open Go.Conc Go.ConcN
open Go.ConcR (KK WgAt rd wr Payload DC0 stA smA Bk)
section
variable [Payload] {φ:Ph} {Goal:au->ah->Prop} {AnchW:(Nat->Prop)->au->ah->Prop} {B0:Nat} {t0:Trace} {gs tA:Array au} {w w':ah} {sl:Option (Nat×Nat)} {t:Trace} {j:Nat} {γ γ':Nat->Gh} {S:Nat->ux} {μ:Nat->Prop} {q:Nat->Nat} {k k':Nat} {tag:CTag} {f0 d0:Nat} {a:au} {st sm BH BD:Int}
def Tn {α:Type}(f:Nat->α)(i:Nat)(x y:α):upd (upd f i x) i y=upd f i y:=by
 funext a;by_cases e:a=i
 ·subst e;rw[upd_same,upd_same]
 ·rw[upd_ne _ _ e,upd_ne _ _ e,upd_ne _ _ e]
def Ph.k7.offers {a:au}(yW: ∀μ g w,AnchW μ g w->g.status=.running)(h:φ.k7 Goal AnchW tag f0 d0 μ a w):a.status≠ .blocked\/a.offers=ai:=by
 rcases h.status yW with⟨hs,_⟩|⟨hs,rfl⟩
 ·left;rw[hs];simp
 ·cases h with
  |blk hb=>exact .inr (hb w (.refl μ w)).2.1
def OO (O:φ.Ok)(yW: ∀μ g w,AnchW μ g w->g.status=.running)(ha:gs[0]? =ae a)(tC:φ.k7 Goal AnchW tag f0 d0 μ a w)(nN:Deaf t 0=d0)(cw:φ.Com B0 t0 gs w t j γ S μ q k)(j2:WgAt φ.ty φ.Wg w st sm)(dL:fB j (j8 S) tag st sm)(ns:DW φ.n j tag)(sK:tag=.ret->φ.uj t0 j t)(fE: ∀i,i<φ.n->_root_.Acc φ.LX (S i)){i:Nat}(hi:i<j){g:au}(hg:gs[φ.lo+i]? =ae g)(cT:g.status=.running): ∃m' nZ sT,runT φ.P (crowd gs w sl) (φ.lo+i)=(.next m',nZ)/\φ.UH sT (φ.mu S q j tag f0)/\φ.Inv Goal AnchW B0 t0 sT m' (t++nZ):=by
 obtain⟨adY,M8,Qg⟩:=cw.wk i hi;obtain rfl:g=adY:=by rw[hg]at M8;exact be M8
 have zN:=O.zN;cases hS:S i with
 |l6=>rw[hS]at Qg;exact Qg.elim
 |tail d=>obtain⟨g',w',es,d',BH,BD,hgo,hMR,xO,bJ,wu,M2,mI⟩:=JF O yW ha tC nN cw j2 dL ns sK hi hg cT hS;exact uO yW fE cw.jn nN ns hi zN ha tC hg hgo hMR mI xO (λtag' h1 h2=>by rw[xH];exact wu tag' h1 h2) M2 (by rw[hS];exact bJ)
 |tree x=>
  obtain⟨γx,gx,w0⟩:=x;rw[hS]at Qg;obtain⟨h1,h2,Ss,hrel⟩:=Qg;simp only at h1 h2 Ss hrel;subst h1;subst h2;have hwd:j8 S i=⟨7,0,0⟩:=by show(S i).wd=_;rw[hS];rfl
  have nr:tag≠ .ret:=dL.not_ret hi (by rw[hwd];decide);have keep: ∀y,j8 (upd S i (.tree y))=j8 S:=λy=>by rw[xH];show upd (j8 S) i ⟨7,0,0⟩=_;rw[<-hwd,kF]
  by_cases hT:φ.TJ (γ i) gx w0
  ·obtain⟨C,v,m,hO,hC,hJ,hP,hG⟩:=hT.rely O hrel;have af8:φ.Com B0 t0 gs w t j γ (upd S i (.tail ⟨7,m,0⟩)) μ q k:=by
    refine⟨cw.size,cw.jn,cw.old,λi' gK=> ?_,λi' gK=> ?_,λi' gK=> ?_,cw.et,cw.jo,cw.norel,λi' gK hs=> ?_,cw.pre,cw.atm,cw.mute,cw.seen,cw.chan,cw.done,cw.todo,cw.over,cw.free⟩
    ·by_cases e:i'=i
     ·subst e;exact⟨gx,hg,by rw[upd_same];exact⟨C,v,hO,hC,hP,hJ,by simp,by simp,.r0 hG⟩⟩
     ·rw[upd_ne _ _ e];exact cw.wk i' gK
    ·rw[upd_ne _ _ (by omega)];exact cw.un i' gK
    ·by_cases e:i'=i
     ·subst e;rw[upd_same,cw.deaf i' gK,hS];rfl
     ·rw[upd_ne _ _ e];exact cw.deaf i' gK
    ·by_cases e:i'=i
     ·subst e;rw[upd_same]at hs;simp[ux.wd]at hs
     ·rw[upd_ne _ _ e]at hs;exact cw.rel i' gK hs
   have aec:fB j (j8 (upd S i (.tail ⟨7,m,0⟩))) tag st sm:=by
    refine dL.congr λy hy=> ?_
    rw[xH];by_cases e:y=i
    ·subst e;rw[upd_same,hwd];rfl
    ·rw[upd_ne _ _ e]
   obtain⟨g',w',es,d',BH,BD,hgo,hMR,xO,bJ,wu,M2,mI⟩:=JF O yW ha tC nN af8 j2 aec ns sK hi hg cT (upd_same _ _ _);rw[xH,Tn]at wu;exact uO yW fE cw.jn nN ns hi zN ha tC hg hgo hMR (λf hf=>by have:=mI f hf;rwa[Tn]at this) xO (λtag' h1 h2=>by rw[xH];exact wu tag' h1 h2) M2 (by rw[hS];trivial)
  ·cases Ss with
   |tail h=>exact absurd h hT
   |step g' w' es hr gI mW=>
    obtain⟨hgo,hgu⟩:=gI w hrel;have ahN:=mW w hrel;have xO:WgAt φ.ty φ.Wg (w' w) st sm:=by have hs:=cw.jo.sz;have hW:=cw.jo.B.1;exact(hgu.rest φ.Wg (by omega) (cw.Tr hi) O.Wb).trans j2
    exact uO yW fE cw.jn nN ns hi zN ha tC hg hgo (hgu.mr O cw.jo hi) (λf hf=>cw.aaj O hi hS hgu ahN _ _ f hf) xO (λtag' h1 _=>by rw[keep];exact dL.retag h1) (λe=>absurd e nr) (by rw[hS];exact⟨hT,w,hrel,.inl ⟨_,hgo,rfl⟩⟩)
   |recv hr gI M' sM=>
    have hcm:=gI w hrel;obtain⟨hk,cap,s,r,tm,vG⟩:=cw.chan;have eb:(φ.lo+i==0)=ay:=by simp;omega
    have noP: ∀b,partners (gs.setIfInBounds (φ.lo+i) Go.Conc.ph) φ.Ch b=[]:=λb=>NL (λy gy hy hgy=>by
     rcases lQ y with rfl|yz
     ·rw[ha]at hgy;cases hgy;exact tC.offers yW
     ·rcases ec y φ.lo with bJ|wq
      ·left;rcases(cw.old y gy yz bJ hgy).status with h|h<;>rw[h]<;>simp
      ·obtain⟨i',rfl⟩: ∃i',y=φ.lo+i':=⟨y-φ.lo,by omega⟩;have bJ:i'<j:=by have:=(aI.1 hgy).1;rw[cw.size]at this;omega
       obtain⟨g2,M7,tF⟩:=cw.wk i' bJ;rw[hgy]at M7;cases M7;left;rcases tF.status with h|h<;>rw[h]<;>simp) b
    have Kh: ∀fn pos,ca (φ.lo+i) fn pos #[]= #[]:=λfn pos=>by rw[ofEvents_eq];simp
    rcases ec k φ.nj with bJ|wq
    ·obtain⟨n,hn⟩: ∃n,φ.nj-k=n+1:=⟨φ.nj-k-1,by omega⟩;have zL:=crowd_recv_buf (P:=φ.P) (sl:=sl) hg (by rw[eb];exact hcm) vG (by simp;omega) (noP aw);have e1:((gg k (φ.nj-k)).map φ.jv).toArray.getD 0 undef=φ.jv k:=by rw[hn];simp[List.range'_succ]
     have e2:((gg k (φ.nj-k)).map φ.jv).toArray.extract 1 ((gg k (φ.nj-k)).map φ.jv).toArray.size=((gg (k+1) (φ.nj-(k+1))).map φ.jv).toArray:=by rw[hn,show φ.nj-(k+1)=n by omega];simp[List.range'_succ];exact ck (by simp)
     rw[e1,e2,Kh,kU,finishComm_recv]at zL;have hnh: ¬(γ i).held k:=cw.todo k i (ax _) hi;have mI:=cw.ab7 O hi (g:=gx) hS bJ vG (M' w k hrel bJ hnh (cw.free k (ax _) bJ)) gx.frame.fn gx.frame.place;refine yB fE cw.jn nN ns hi zN mI (a':=a) (tag':=tag) (f':=f0) (by rw[aK (by omega)];exact ha) (tC.rely (abK O cw.adM _ _ _ _ _ _)) (.inl rfl) (λop hop=>by simp only[qi,cj,jH,or_false]at hop;rcases hop with rfl|rfl<;>rfl) zL ?_ (by rw[keep];exact dL) (λe=>absurd e nr) (by rw[hS];exact⟨hT,w,hrel,.inr ⟨_,_,_,_,hcm,rfl,.inl ⟨k,bJ,hnh,cw.free k (ax _) bJ,rfl,rfl⟩⟩⟩)
     exact j2.of_block (by show(w.heap.setIfInBounds φ.Ch _)[φ.Wg]? =_;rw[aK O.hCW])
    ·have Uo:k=φ.nj:=by omega
     rw[show φ.nj-k=0 by omega]at vG;have zL:=crowd_recv_closed (P:=φ.P) (sl:=sl) hg (by rw[eb];exact hcm) vG (noP aw);rw[Kh,kU,finishComm_recv]at zL;have mI:=cw.ZJ O hi (g:=gx) hS Uo (sM w hrel) gx.frame.fn gx.frame.place;exact yB fE cw.jn nN ns hi zN mI (a':=a) (tag':=tag) (f':=f0) (by rw[aK (by omega)];exact ha) tC (.inl rfl) (λop hop=>by simp only[qi,cj,jH,or_false]at hop;rcases hop with rfl;rfl) zL j2 (by rw[keep];exact dL) (λe=>absurd e nr) (by rw[hS];exact⟨hT,w,hrel,.inr ⟨_,_,_,_,hcm,rfl,.inr ⟨rfl,rfl⟩⟩⟩)
end
section
variable [Payload] {φ:Ph} {Goal:au->ah->Prop} {AnchW:(Nat->Prop)->au->ah->Prop} {B0:Nat} {t0:Trace} {gs tA:Array au} {w w':ah} {sl:Option (Nat×Nat)} {t:Trace} {j:Nat} {γ γ':Nat->Gh} {S:Nat->ux} {μ sT:Nat->Prop} {q:Nat->Nat} {k k':Nat} {tag tag':CTag} {f0 f' d0:Nat} {a a':au} {st sm BH BD:Int} {es:Array Event}
def Ph.Com.main (O:φ.Ok)(h:φ.Com B0 t0 gs w t j γ S μ q k){ops:Trace}(f:au->au)(hf: ∀o,o.status=.running\/o.status=.finished->f o=o)(iA: ∀op∈ops,op.g=0)(hrel: ∀i,i<j->φ.e9 (γ i) w w')(het:ET (φ.yw γ j sT) φ.lo (φ.lo+j) (t++ops))(ad7:φ.V1 B0 γ j sT w'.heap.size)(hnr: ∀op∈ops,op.act≠ .mark (.release (stA φ.Wg)))(Nj: ∀op∈ops,∀x,op.act.touch? =ae x->x.loc.low w'.heap.size)(kJ:w.heap.size<=w'.heap.size)(vG:w'.heap[φ.Ch]? =w.heap[φ.Ch]?)(oi: ∀p a,φ.jl p a->w'.heap[a.block]? =w.heap[a.block]?):φ.Com B0 t0 ((gs.map f).setIfInBounds 0 a') w' (t++ops) j γ S sT q k:=by
 have zN:=O.zN;refine⟨by simp[h.size],h.jn,λi' x h0 hl hx=> ?_,λi' gK=> ?_,h.un,λi' gK=> ?_,het,ad7,λp hp Ks=> ?_,λi' gK gI=> ?_,?_,λp op x hp hop hg hx hk=> ?_,λp op hp hop hg bJ=> ?_,λop hop x hx=> ?_,?_,h.done,h.todo,h.over,λp hp Nf=>O.j0 _ _ p (λa ha=>by unfold c8;rw[oi p a ha]) (h.free p hp Nf)⟩
 ·rw[get_map_set _ _ _ _ (by omega)]at hx;obtain⟨y,hy,rfl⟩:=aJ.1 hx;have hq:=h.old i' y h0 hl hy;rw[hf y hq.status,Deaf_other t (g':=0) (by omega) _ iA];exact hq
 ·obtain⟨x,hx,Wv⟩:=h.wk i' gK;exact⟨x,by rw[get_map_set _ _ _ _ (by omega),hx,fS,hf x Wv.status],Wv.rely O (hrel i' gK)⟩
 ·rw[Deaf_other t (g':=0) (by omega) _ iA];exact h.deaf i' gK
 ·obtain⟨op,hop,ha⟩:=aJ.1 Ks;rcases getElem?_append_cases hop with⟨_,ru⟩|⟨_,ry⟩
  ·exact h.norel p hp (by rw[act?_of ru,ha])
  ·exact hnr op ry ha
 ·obtain⟨r,hr⟩:=h.rel i' gK gI;exact⟨r,hr.appNot λop hop=>by rw[iA op hop];omega⟩
 ·obtain⟨u,rfl⟩:=h.pre;exact⟨u++ops,by rw[Array.append_assoc]⟩
 ·rcases getElem?_append_cases hop with⟨_,ru⟩|⟨_,ry⟩
  ·exact h.atm p op x hp ru hg hx hk
  ·exact absurd (iA op ry) hg
 ·rcases getElem?_append_cases hop with⟨_,ru⟩|⟨_,ry⟩
  ·exact h.mute p op hp ru hg bJ
  ·exact absurd (iA op ry) hg
 ·rcases o4.1 hop with y|y
  ·exact Loc.low_mono kJ (h.seen op y x hx)
  ·exact Nj op y x hx
 ·obtain⟨hk,cap,s,r,tm,hc⟩:=h.chan;exact⟨hk,cap,s,r,tm,vG.trans hc⟩
def tI (fE: ∀i,i<φ.n->_root_.Acc φ.LX (S i))(nN:Deaf t 0=d0)(ns:DW φ.n j tag')(ha:gs[0]? =ae a)(hgo:stepG φ.P aw a w=.go a' w' es)(LR:0<φ.lo)(cw:φ.Com B0 t0 gs w t j γ S μ q k)(mI: ∀f:au->au,(∀o,o.status=.running\/o.status=.finished->f o=o)->φ.Com B0 t0 ((gs.map f).setIfInBounds 0 a') w' (t++ca 0 a.frame.fn a.frame.place es) j γ S sT q k)(wo:φ.k7 Goal AnchW tag' f' (deafBehind d0 es) sT a' w')(j2:WgAt φ.ty φ.Wg w' BH BD)(dL:fB j (j8 S) tag' BH BD)(sK:tag'=.ret->φ.uj t0 j (t++ca 0 a.frame.fn a.frame.place es))(bJ:jG (Vc j (j8 S)) tag'<jG (Vc j (j8 S)) tag\/(jG (Vc j (j8 S)) tag'=jG (Vc j (j8 S)) tag/\f'<f0)): ∃m' nZ sT,runT φ.P (crowd gs w sl) 0=(.next m',nZ)/\φ.UH sT (φ.mu S q j tag f0)/\φ.Inv Goal AnchW B0 t0 sT m' (t++nZ):=by
 refine⟨_,_,φ.mu S q j tag' f',runT_crowd_go (P:=φ.P) (sl:=sl) (i:=0) ha (by simpa using hgo),?_,_,w',sl,j,γ,S,sT,q,k,tag',f',deafBehind d0 es,a',BH,BD,rfl,get_map_set_same _ _ _ (by rw[cw.size];omega),wo,by rw[Deaf_own,nN],mI _ λo ho=> ?_,j2,dL,ns,sK,fE,rfl⟩
 ·refine Prod.Lex.right _ (Prod.Lex.right _ ?_);rcases bJ with h|⟨h1,h2⟩
  ·exact Prod.Lex.left _ _ h
  ·rw[h1];exact Prod.Lex.right _ h2
 ·unfold Go.Conc.woken
  split
  ·exact again_running _ ho
  ·rfl
def oH {e:Event}(h:φ.EvM μ e):(e.loc≠ .mark .disable/\e.loc≠ .mark .enable)/\cX e≠ .mark (.release (stA φ.Wg))/\ ∀x,(cX e).touch? =ae x->(ShN φ.Wg x.loc/\x.kind≠ .plain)\/(∃b,wE x.loc=ae b/\μ b)\/(x.write=ay/\ ∃b,wE x.loc=ae b/\φ.oS b):=by
 rcases h with rfl|⟨a,ha,rfl|rfl⟩|⟨hs,b,hb,h⟩
 ·exact⟨⟨by simp,by simp⟩,by simp[cX],λx hx=>by cases hx⟩
 ·refine⟨⟨by simp,by simp⟩,by simp[cX],λx hx=>.inl ?_⟩;simp only[cX,sU,dS]at hx;subst hx;exact⟨⟨a,rfl,ha⟩,by simp⟩
 ·refine⟨⟨by simp,by simp⟩,by simp[cX],λx hx=>.inl ?_⟩;simp only[cX,sU,dS]at hx;subst hx;exact⟨⟨a,rfl,ha⟩,by simp⟩
 ·obtain⟨h1,h2⟩:=wH hb hs;refine⟨⟨λx=>(by rw[x]at hb;cases hb),λx=>by rw[x]at hb;cases hb⟩,by rw[h1];simp,λx hx=> ?_⟩;rw[h2]at hx;cases hx;rcases h with h|⟨hw,hr⟩
  ·exact .inr (.inl ⟨b,hb,h⟩)
  ·exact .inr (.inr ⟨hw,b,hb,hr⟩)
def ab8 (O:φ.Ok)(hg:φ.V1 B0 γ j μ w.heap.size)(h:Ph.Al w w'){i:Nat}(hi:i<j):φ.e9 (γ i) w w':=by
 obtain⟨hW,hC,hR,xq⟩:=hg.B;have hs:=hg.sz;refine⟨λb hb=>h.rest b (hg.Du i b hi hb).2,λb hb=>h.rest b (by have:=hR b hb;omega),λp ad _ uK=> ?_,λb hb=> ?_,λ⟨st,sm,hl⟩=>⟨st,sm,(h.rest φ.Wg (by omega)).trans hl⟩,h.size,h.tape,h.os,h.output⟩
 ·unfold c8;rw[h.rest _ (by have:=xq _ (O.nw p ad uK);omega)]
 ·unfold fL;rw[h.rest _ (by have:=xq b hb;omega)]
omit [Payload]in
def RZ (w:ah):Ph.Al w w:=⟨λ_ _=>rfl,ax _,rfl,rfl,rfl⟩
def Ph.Com.KH (O:φ.Ok)(h:φ.Com B0 t0 gs w t j γ S μ q k)(Kt:Ph.Al w w')(jJ: ∀e∈es,φ.EvM (vk μ w w') e)(fn:bK)(pos:String)(f:au->au)(hf: ∀o,o.status=.running\/o.status=.finished->f o=o):φ.Com B0 t0 ((gs.map f).setIfInBounds 0 a') w' (t++ca 0 fn pos es) j γ S (vk μ w w') q k:=by
 obtain⟨hW,hC,hR,xq⟩:=h.jo.B;have hs:=h.jo.sz;have hz:=Kt.size;have P7:φ.V1 B0 γ j (vk μ w w') w'.heap.size:=by
  refine⟨h.jo.ME,λi b hi hb hm=> ?_,λi b hi hb=> ?_,λb hb=> ?_,h.jo.Eu,h.jo.bJ,by omega,h.jo.B,h.jo.st⟩
  ·rcases hm with hm|⟨h1,_⟩
   ·exact h.jo.mine i b hi hb hm
   ·have:=(h.jo.Du i b hi hb).2;omega
  ·have:=h.jo.Du i b hi hb;omega
  ·rcases hb with hb|⟨h1,h2⟩
   ·have:=h.jo.yH b hb;omega
   ·omega
 have iA: ∀op∈ca 0 fn pos es,op.g=0:=λop hop=>by obtain⟨e,_,rfl⟩:=bj hop;rfl
 refine h.main O f hf iA (λi hi=>ab8 O h.jo Kt hi) ?_ P7 (λop hop=> ?_) (λop hop x hx=> ?_) hz (Kt.rest φ.Ch (by omega)) (λp a ha=>Kt.rest _ (by have:=xq _ (O.nw p a ha);omega))
 ·refine ET.afF (P7.apart O) O.zN (Nat.le_add_right _ _) (h.et.yw rfl (λkk _ _ l hl=>.inl hl) (λl hl=>hl) (λl hl=>hl) λl hl=> ?_) λop hop=>⟨iA op hop,λx hx=> ?_⟩
  ·obtain⟨b,hb,hm|⟨h1,_⟩⟩:=hl
   ·exact .inl ⟨b,hb,hm⟩
   ·exact .inr (yn h.seen hb h1)
  ·obtain⟨e,he,rfl⟩:=bj hop;rcases(oH (jJ e he)).2.2 x hx with h1|⟨b,hb,hm⟩|⟨hw,b,hb,hr⟩
   ·exact .inl h1
   ·exact .inr (.inl ⟨b,hb,hm⟩)
   ·exact .inr (.inr ⟨⟨b,hb,hr⟩,hw⟩)
 ·obtain⟨e,he,rfl⟩:=bj hop;exact(oH (jJ e he)).2.1
 ·obtain⟨e,he,rfl⟩:=bj hop;rcases(oH (jJ e he)).2.2 x hx with⟨⟨ad,h1,h2⟩,_⟩|⟨b,hb,hm⟩|⟨hw,b,hb,hr⟩
  ·rw[h1];exact(by rw[h2];omega:ad.block<w'.heap.size)
  ·refine EG λb' jP=> ?_
   rw[hb]at jP;cases jP;exact(P7.yH b hm).2
  ·refine EG λb' jP=> ?_
   rw[hb]at jP;cases jP;have:=hR b hr;omega
omit [Payload]in
def uJ (μ:Nat->Prop)(w:ah):vk μ w w=μ:=by funext b;apply propext;exact⟨λh=>h.elim id λ⟨h1,h2⟩=>absurd h2 (by omega),.inl⟩
def sj (O:φ.Ok)(fE: ∀i,i<φ.n->_root_.Acc φ.LX (S i))(nN:Deaf t 0=d0)(ns:DW φ.n j tag)(ha:gs[0]? =ae a)(cw:φ.Com B0 t0 gs w t j γ S μ q k)(j2:WgAt φ.ty φ.Wg w st sm)(dL:fB j (j8 S) tag st sm)(sK:tag=.ret->φ.uj t0 j t)(hgo:stepG φ.P aw a w=.go a' w' es)(hD:φ.DM μ w w' es)(wo:φ.k7 Goal AnchW tag f' d0 μ a' w')(bJ:f'<f0): ∃m' nZ sT,runT φ.P (crowd gs w sl) 0=(.next m',nZ)/\φ.UH sT (φ.mu S q j tag f0)/\φ.Inv Goal AnchW B0 t0 sT m' (t++nZ):=by obtain⟨rfl,jJ⟩:=hD;have Ui:deafBehind d0 es=d0:=deafBehind_idle (λe he=>(oH (jJ e he)).1) d0;refine tI fE nN ns ha hgo O.zN cw (λf hf=> ?_) (by rw[Ui];exact wo) j2 dL (λe=>uj.app (sK e) λi r _ hr=>hr.appNot λop hop=>by obtain⟨e,_,rfl⟩:=bj hop;have:=O.zN;simp;omega) (.inr ⟨rfl,bJ⟩);have:=cw.KH (a':=a') O (RZ w') (es:=es) (by rw[uJ];exact jJ) a.frame.fn a.frame.place f hf;rwa[uJ]at this
def ti (O:φ.Ok)(fE: ∀i,i<φ.n->_root_.Acc φ.LX (S i))(nN:Deaf t 0=d0)(ns:DW φ.n j tag')(ha:gs[0]? =ae a)(cw:φ.Com B0 t0 gs w t j γ S μ q k)(hgo:stepG φ.P aw a w=.go a' w' es)(tB:Go.Conc.Aside φ.Wg w w')(xO:WgAt φ.ty φ.Wg w' BH BD)(CX: ∀e∈es,Bk φ.Wg e)(wo:φ.k7 Goal AnchW tag' f' (deafBehind d0 es) μ a' w')(wu:fB j (j8 S) tag' BH BD)(eb:tag'≠ .ret)(bJ:jG (Vc j (j8 S)) tag'<jG (Vc j (j8 S)) tag\/(jG (Vc j (j8 S)) tag'=jG (Vc j (j8 S)) tag/\f'<f0)): ∃m' nZ sT,runT φ.P (crowd gs w sl) 0=(.next m',nZ)/\φ.UH sT (φ.mu S q j tag f0)/\φ.Inv Goal AnchW B0 t0 sT m' (t++nZ):=by
 have iA: ∀op∈ca 0 a.frame.fn a.frame.place es,op.g=0:=λop hop=>by obtain⟨e,_,rfl⟩:=bj hop;rfl
 have abk:φ.Wg<w'.heap.size:=by have:=cw.jo.B.1;have:=cw.jo.sz;rw[tB.size];omega
 refine tI fE nN ns ha hgo O.zN cw (λf hf=>cw.main O f hf iA (λi hi=>S6 O (cw.Tr hi) tB ⟨_,_,xO⟩) ?_ (by rw[tB.size];exact cw.jo) (λop hop=> ?_) (λop hop x hx=> ?_) (by rw[tB.size];exact ax _) (tB.block φ.Ch O.hCW) λp a ha=>tB.block _ λe=>O.Wb (e▸O.nw p a ha)) wo xO wu (λe=>absurd e eb) bJ
 ·refine ET.afF (cw.jo.apart O) O.zN (Nat.le_add_right _ _) cw.et λop hop=>⟨iA op hop,λx hx=> ?_⟩
  obtain⟨e,he,rfl⟩:=bj hop;obtain⟨h1,h2⟩:=(D4 (CX e he)).1 x hx;exact .inl ⟨h2,by rw[h1];simp⟩
 ·obtain⟨e,he,rfl⟩:=bj hop;exact(D4 (CX e he)).2.1
 ·obtain⟨e,he,rfl⟩:=bj hop;obtain⟨ad,h1,h2⟩:=((D4 (CX e he)).1 x hx).2;rw[h1];exact(by rw[h2];exact abk:ad.block<w'.heap.size)
end
section
variable [Payload] {φ:Ph} {Goal:au->ah->Prop} {AnchW:(Nat->Prop)->au->ah->Prop} {B0:Nat} {t0:Trace} {gs tA:Array au} {w w':ah} {sl:Option (Nat×Nat)} {t:Trace} {j:Nat} {γ γ':Nat->Gh} {S:Nat->ux} {μ sT:Nat->Prop} {q:Nat->Nat} {k k':Nat} {tag tag':CTag} {f0 f' d0:Nat} {a a':au} {st sm BH BD:Int} {es:Array Event}
def Ph.Com.spawn (O:φ.Ok)(h:φ.Com B0 t0 gs w t j γ S μ q k)(hj:j<φ.n)(hd:Deaf t 0=0){child:au}{hb:Nat->Prop}(hhb: ∀b,hb b->μ b)(Ss:φ.WT ⟨hb,λ_=>False,False⟩ child w){x y:MemOp}(hx:x.g=0/\x.act=.go (φ.lo+j))(hy:y.g=φ.lo+j/\y.act=.start):φ.Com B0 t0 ((gs.setIfInBounds 0 a').push child) w (t++ #[x,y]) (j+1) (upd γ j ⟨hb,λ_=>False,False⟩) (upd S j (.tree (⟨hb,λ_=>False,False⟩,child,w))) (λb=>μ b/\ ¬hb b) q k:=by
 have zN:=O.zN;have hm: ∀op∈(#[x,y]:Trace),(op=x\/op=y):=by intro op hop;simpa using hop
 have hmk: ∀op∈(#[x,y]:Trace),∀m,op.act≠ .mark m:=by
  intro op hop m;rcases hm op hop with rfl|rfl
  ·rw[hx.2];simp
  ·rw[hy.2];simp
 have yZ: ∀op∈(#[x,y]:Trace),op.act.touch? =ai:=by
  intro op hop;rcases hm op hop with rfl|rfl
  ·rw[hx.2];rfl
  ·rw[hy.2];rfl
 have hgk: ∀op∈(#[x,y]:Trace),op.g=0\/op.g=φ.lo+j:=by
  intro op hop;rcases hm op hop with rfl|rfl
  ·exact .inl hx.1
  ·exact .inr hy.1
 have gI: ∀g,Deaf (t++ #[x,y]) g=Deaf t g:=λg=>Deaf_still t g _ λop hop=>⟨hmk op hop _,hmk op hop _⟩
 have own: ∀{i b:Nat},i<j+1->(upd γ j ⟨hb,λ_=>False,False⟩ i).own b->(i<j/\(γ i).own b)\/(i=j/\hb b):=by
  intro i b hi ho;by_cases e:i=j
  ·subst e;rw[upd_same]at ho;exact .inr ⟨rfl,ho⟩
  ·rw[upd_ne _ _ e]at ho;exact .inl ⟨by omega,ho⟩
 have held: ∀{i p:Nat},i<j+1->(upd γ j ⟨hb,λ_=>False,False⟩ i).held p->i<j/\(γ i).held p:=by
  intro i p hi ho;by_cases e:i=j
  ·subst e;rw[upd_same]at ho;exact ho.elim
  ·rw[upd_ne _ _ e]at ho;exact⟨by omega,ho⟩
 refine⟨by simp[h.size];omega,hj,λi z h0 hl hz=> ?_,λi hi=> ?_,λi hi=> ?_,λi hi=> ?_,?_,?_,λp hp Ks=> ?_,λi hi hs=> ?_,?_,λp op z hp hop hg hz hk=> ?_,λp op hp hop hg bJ=> ?_,λop hop z hz=> ?_,h.chan,λp hp=> ?_,λp i hp hi hh=> ?_,λi hi ho=> ?_,h.free⟩
 ·rw[gI];refine h.old i z h0 hl ?_;rw[Array.getElem?_push_lt (by simp[h.size];omega),<-aX,aK (by omega)]at hz;exact hz
 ·rcases ec i j with bJ|wq
  ·obtain⟨g,hg,hsg⟩:=h.wk i bJ;refine⟨g,?_,by rw[upd_ne _ _ (by omega),upd_ne _ _ (by omega)];exact hsg⟩;rw[Array.getElem?_push_lt (by simp[h.size];omega),<-aX,aK (by omega)];exact hg
  ·obtain rfl:i=j:=by omega
   refine⟨child,?_,by rw[upd_same,upd_same];exact⟨rfl,rfl,Ss,.refl _ _⟩⟩;rw[show φ.lo+i=(gs.setIfInBounds 0 a').size by simp[h.size],Array.getElem?_push_size]
 ·rw[upd_ne _ _ (by omega)];exact h.un i (by omega)
 ·rw[gI];rcases ec i j with bJ|wq
  ·rw[upd_ne _ _ (by omega)];exact h.deaf i bJ
  ·obtain rfl:i=j:=by omega
   rw[upd_same];exact Deaf_absent λz op hz e=>by have:=h.et.gs z op hz;omega
 ·have e:φ.lo+(j+1)=φ.lo+j+1:=by omega
  rw[e];refine ET.fork (F:=φ.yw γ j μ) (F':=φ.yw (upd γ j ⟨hb,λ_=>False,False⟩) (j+1) (λb=>μ b/\ ¬hb b)) (Nat.le_add_right _ _) h.et rfl (λkk h1 h2 l hl=> ?_) (λl hl=> ?_) (λl hl=> ?_) (λl hl=>hl) (λl hl=> ?_) (by omega) hx hy hd
  ·obtain⟨i,hi,rfl,hl⟩:=hl;rcases hl with⟨b,jP,ho⟩|⟨p,ad,hp,uK,rfl⟩
   ·rcases own hi ho with⟨bJ,ho⟩|⟨rfl,_⟩
    ·exact⟨i,bJ,rfl,.inl ⟨b,jP,ho⟩⟩
    ·omega
   ·obtain⟨bJ,hp⟩:=held hi hp;exact⟨i,bJ,rfl,.inr ⟨p,ad,hp,uK,rfl⟩⟩
  ·obtain⟨i,hi,e,hl⟩:=hl;obtain rfl:i=j:=by omega
   rcases hl with⟨b,jP,ho⟩|⟨p,ad,hp,uK,rfl⟩
   ·rw[upd_same]at ho;exact⟨b,jP,hhb b ho⟩
   ·exact absurd (held hi hp).1 (by omega)
  ·obtain⟨p,ad,hn,uK,rfl⟩:=hl;exact⟨p,ad,λi hi hp=>hn i (by omega) (by rw[upd_ne _ _ (by omega)];exact hp),uK,rfl⟩
  ·obtain⟨b,jP,hm⟩:=hl;exact⟨b,jP,hm.1⟩
 ·refine⟨λi i' b hi gK h1 h2=> ?_,λi b hi h1 hm=> ?_,λi b hi h1=> ?_,λb hm=>h.jo.yH b hm.1,λi i' p hi gK h1 h2=> ?_,λi p hi h1=>h.jo.bJ i p (held hi h1).1 (held hi h1).2,h.jo.sz,h.jo.B,h.jo.st⟩
  ·rcases own hi h1 with⟨l1,o1⟩|⟨rfl,o1⟩<;>rcases own gK h2 with⟨l2,o2⟩|⟨e,o2⟩
   ·exact h.jo.ME i i' b l1 l2 o1 o2
   ·exact absurd (hhb b o2) (h.jo.mine i b l1 o1)
   ·exact absurd (hhb b o1) (h.jo.mine i' b l2 o2)
   ·exact e.symm
  ·rcases own hi h1 with⟨l1,o1⟩|⟨rfl,o1⟩
   ·exact h.jo.mine i b l1 o1 hm.1
   ·exact hm.2 o1
  ·rcases own hi h1 with⟨l1,o1⟩|⟨rfl,o1⟩
   ·exact h.jo.Du i b l1 o1
   ·exact h.jo.yH b (hhb b o1)
  ·exact h.jo.Eu i i' p (held hi h1).1 (held gK h2).1 (held hi h1).2 (held gK h2).2
 ·obtain⟨op,hop,ha⟩:=aJ.1 Ks;rcases getElem?_append_cases hop with⟨_,ru⟩|⟨_,ry⟩
  ·exact h.norel p hp (by rw[act?_of ru,ha])
  ·exact hmk op ry _ ha
 ·rcases ec i j with bJ|wq
  ·rw[upd_ne _ _ (by omega)]at hs;obtain⟨r,hr⟩:=h.rel i bJ hs;refine⟨r,hr.appNot λop hop=> ?_⟩;rcases hgk op hop with e|e<;>omega
  ·obtain rfl:i=j:=by omega
   rw[upd_same]at hs;simp[ux.wd]at hs
 ·obtain⟨u,rfl⟩:=h.pre;exact⟨u++ #[x,y],by rw[Array.append_assoc]⟩
 ·rcases getElem?_append_cases hop with⟨_,ru⟩|⟨_,ry⟩
  ·exact h.atm p op z hp ru hg hz hk
  ·rw[yZ op ry]at hz;cases hz
 ·rcases getElem?_append_cases hop with⟨_,ru⟩|⟨_,ry⟩
  ·exact h.mute p op hp ru hg bJ
  ·exact yZ op ry
 ·rcases o4.1 hop with z'|z'
  ·exact h.seen op z' z hz
  ·rw[yZ op z']at hz;cases hz
 ·obtain⟨i,hi,hh⟩:=h.done p hp;exact⟨i,by omega,by rw[upd_ne _ _ (by omega)];exact hh⟩
 ·obtain⟨bJ,hh⟩:=held hi hh;exact h.todo p i hp bJ hh
 ·by_cases e:i=j
  ·subst e;rw[upd_same]at ho;exact ho.elim
  ·rw[upd_ne _ _ e]at ho;exact h.over i (by omega) ho
def R4: ∀e∈ #[iJ .disable],Bk φ.Wg e:=by intro e he;simp at he;subst he;exact .inl rfl
def Xu: ∀e∈ #[iJ .enable],Bk φ.Wg e:=by intro e he;simp at he;subst he;exact .inr (.inl rfl)
def J6: ∀e∈ #[rd (stA φ.Wg)],Bk φ.Wg e:=by intro e he;simp at he;subst he;exact bk_cell _ _ rfl
def Xv: ∀e∈ #[rd (stA φ.Wg),wr (stA φ.Wg)],Bk φ.Wg e:=by intro e he;simp at he;rcases he with rfl|rfl<;>exact bk_cell _ _ rfl
def aaT: ∀e∈semEvents (smA φ.Wg),Bk φ.Wg e:=by
 intro e he;simp[semEvents]at he;rcases he with rfl|rfl|rfl|rfl
 ·exact .inl rfl
 ·exact bk_cell _ _ rfl
 ·exact bk_cell _ _ rfl
 ·exact .inr (.inl rfl)
def Ph.W6 (φ:Ph)(Goal:au->ah->Prop)(B0:Nat)(t0:Trace)(mc:Machine)(t:Trace):Prop:=
 ∃(gs:Array au) (w:ah) (sl:Option (Nat×Nat)) (γ:Nat->Gh) (S:Nat->ux) (μ:Nat->Prop) (q:Nat->Nat) (k:Nat) (a:au),
  mc=crowd gs w sl/\gs[0]? =ae a/\a.status=.running/\Goal a w/\Deaf t 0=0/\φ.Com B0 t0 gs w t φ.n γ S μ q k/\WgAt φ.ty φ.Wg w 0 0/\AllQuit φ.n (j8 S)/\φ.uj t0 φ.n t
def Vx (O:φ.Ok)(hT0: ∀(i:Nat) (op:MemOp),t0[i]? =ae op->op.g<φ.lo)(hAn: ∀μ g w,AnchW μ g w-> ∃m,φ.GP μ (φ.AtW1 μ Goal (AnchW μ)) m g w)(ha:gs[0]? =ae a)(tC:φ.k7 Goal AnchW tag f0 d0 μ a w)(nN:Deaf t 0=d0)(cw:φ.Com B0 t0 gs w t j γ S μ q k)(j2:WgAt φ.ty φ.Wg w st sm)(dL:fB j (j8 S) tag st sm)(ns:DW φ.n j tag)(sK:tag=.ret->φ.uj t0 j t)(fE: ∀i,i<φ.n->_root_.Acc φ.LX (S i))(cT:a.status=.running):(tag=.ret/\ ∀az,φ.MR μ w az->Ph.AtRet Goal a az)\/ ∃m' nZ sT,runT φ.P (crowd gs w sl) 0=(.next m',nZ)/\φ.UH sT (φ.mu S q j tag f0)/\φ.Inv Goal AnchW B0 t0 sT m' (t++nZ):=by
 have hVj:=Vc_le j (j8 S);have hjn:=cw.jn;have hn:=O.n31;have w1: ∀{tag:CTag} {f0 f1:Nat},DW φ.n j .w1->fB j (j8 S) .w1 st sm->φ.GP μ (φ.AtW1 μ Goal (AnchW μ)) f1 a w->Deaf t 0=1->(jG (Vc j (j8 S)) .w1<jG (Vc j (j8 S)) tag\/(tag=.w1/\f1=f0))->
  ∃m' nZ sT,runT φ.P (crowd gs w sl) 0=(.next m',nZ)/\φ.UH sT (φ.mu S q j tag f0)/\φ.Inv Goal AnchW B0 t0 sT m' (t++nZ):=by
  intro tag f0 f1 ns dL h Pg bJ;rcases Goes.cases h with fF|⟨m',rfl,eP⟩
  ·obtain⟨_,xN⟩:=fF w (.refl μ w);obtain⟨ho,rfl,rfl,_⟩:=dL.open_inv trivial;obtain⟨a',hgo,h0,eb⟩:=xN (Vc j (j8 S)) (by omega) (by simpa[pend]using j2);have y5: ∀{tg:CTag},jG (Vc j (j8 S)) tg<jG (Vc j (j8 S)) .w1->jG (Vc j (j8 S)) tg<jG (Vc j (j8 S)) tag:=λh=>by rcases bJ with h'|⟨rfl,_⟩<;>omega
   by_cases hv:Vc j (j8 S)=0
   ·obtain⟨m₂,hk⟩:=h0 hv;refine ti O fE Pg (tag':=.ke) ns ha cw hgo (.refl φ.Wg w) j2 J6 (.ke hk) ?_ (by simp) (.inl (y5 (by simp[jG])));have e:((Vc j (j8 S)+pend .w1:Nat):Int)*KK=0:=by rw[hv];simp[pend]
    rw[e];exact .fin trivial (allQuit_of ho hv)
   ·obtain⟨m₂,hk⟩:=eb hv;exact ti O fE Pg (tag':=.w2 (Vc j (j8 S))) ns ha cw hgo (.refl φ.Wg w) j2 J6 (.w2 hk) (dL.reopen trivial trivial rfl (λvs e=>by cases e;omega)) (by simp) (.inl (y5 (by simp[jG])))
  ·obtain⟨a',w',es,hgo,hD,lN⟩:=eP w (.refl μ w);obtain⟨rfl,jJ⟩:=hD;have Ui:deafBehind 1 es=1:=deafBehind_idle (λe he=>(oH (jJ e he)).1) 1;refine tI fE Pg (tag':=.w1) (f':=m') ns ha hgo O.zN cw (λf hf=> ?_) (by rw[Ui];exact .w1 lN) j2 dL (by simp) ?_
   ·have:=cw.KH (a':=a') O (RZ w') (es:=es) (by rw[uJ];exact jJ) a.frame.fn a.frame.place f hf;rwa[uJ]at this
   ·rcases bJ with h'|⟨rfl,rfl⟩
    ·exact .inl h'
    ·exact .inr ⟨rfl,by omega⟩
 cases tC with
 |LM hr h=>
  refine .inr ?_;rcases Goes.cases h with fF|⟨m',rfl,eP⟩
  ·obtain⟨_,a',w',es,hgo,Kt,jJ,m₂,hk⟩:=fF w (.refl μ w);have Ui:deafBehind 0 es=0:=deafBehind_idle (λe he=>(oH (jJ e he)).1) 0;exact tI fE nN (tag':=.sp _ 6) ns ha hgo O.zN cw (λf hf=>cw.KH O Kt jJ _ _ f hf) (by rw[Ui];exact .al2 hr hk) (j2.of_block (Kt.rest φ.Wg (by have:=cw.jo.B.1;have:=cw.jo.sz;omega))) (dL.reopen trivial trivial rfl (by simp)) (by simp) (.inl (by simp[jG]))
  ·obtain⟨a',w',es,hgo,hD,lN⟩:=eP w (.refl μ w);exact sj O fE nN ns ha cw j2 dL (by simp) hgo hD (.LM hr lN) (by omega)
 |al2 hr h=>
  refine .inr ?_;rcases Goes.cases h with fF|⟨m',rfl,eP⟩
  ·obtain⟨_,a',w',es,hgo,Kt,jJ,m₂,hk⟩:=fF w (.refl μ w);have Ui:deafBehind 0 es=0:=deafBehind_idle (λe he=>(oH (jJ e he)).1) 0;exact tI fE nN (tag':=.sp _ 5) ns ha hgo O.zN cw (λf hf=>cw.KH O Kt jJ _ _ f hf) (by rw[Ui];exact .skd hr hk) (j2.of_block (Kt.rest φ.Wg (by have:=cw.jo.B.1;have:=cw.jo.sz;omega))) (dL.reopen trivial trivial rfl (by simp)) (by simp) (.inl (by simp[jG]))
  ·obtain⟨a',w',es,hgo,hD,lN⟩:=eP w (.refl μ w);exact sj O fE nN ns ha cw j2 dL (by simp) hgo hD (.al2 hr lN) (by omega)
 |skd hr h=>
  refine .inr ?_;rcases Goes.cases h with fF|⟨m',rfl,eP⟩
  ·obtain⟨_,a',hgo,m₂,hk⟩:=fF w (.refl μ w);exact ti O fE nN (tag':=.sp _ 4) ns ha cw hgo (.refl φ.Wg w) j2 R4 (.sa1 hr hk) (dL.reopen trivial trivial rfl (by simp)) (by simp) (.inl (by simp[jG]))
  ·obtain⟨a',w',es,hgo,hD,lN⟩:=eP w (.refl μ w);exact sj O fE nN ns ha cw j2 dL (by simp) hgo hD (.skd hr lN) (by omega)
 |sa1 hr h=>
  rename_i r
  refine .inr ?_;rcases Goes.cases h with fF|⟨m',rfl,eP⟩
  ·obtain⟨_,xN⟩:=fF w (.refl μ w);obtain⟨ho,rfl,rfl,_⟩:=dL.open_inv trivial;have aik:j+(r+1)=φ.n:=ns;obtain⟨a',hgo,m₂,hk⟩:=xN (Vc j (j8 S)) (by omega) (by simpa[pend]using j2);refine ti O fE nN (tag':=.sp r 3) ns ha cw hgo (aside_setCell w (stA φ.Wg) _) (j2.setSt _) Xv (.ske hr hk) ?_ (by simp) (.inl (by simp[jG]));have e:(((Vc j (j8 S):Nat):Int)+1)*KK=((Vc j (j8 S)+pend (.sp r 3):Nat):Int)*KK:=by simp[pend]
   rw[e];exact .opn trivial ho (by simp)
  ·obtain⟨a',w',es,hgo,hD,lN⟩:=eP w (.refl μ w);exact sj O fE nN ns ha cw j2 dL (by simp) hgo hD (.sa1 hr lN) (by omega)
 |ske hr h=>
  refine .inr ?_;rcases Goes.cases h with fF|⟨m',rfl,eP⟩
  ·obtain⟨_,a',hgo,m₂,hk⟩:=fF w (.refl μ w);exact ti O fE nN (tag':=.sp _ 2) ns ha cw hgo (.refl φ.Wg w) j2 Xu (.sgo hr hk) (dL.reopen trivial trivial rfl (by simp)) (by simp) (.inl (by simp[jG]))
  ·obtain⟨a',w',es,hgo,hD,lN⟩:=eP w (.refl μ w);exact sj O fE nN ns ha cw j2 dL (by simp) hgo hD (.ske hr lN) (by omega)
 |sgo hr h=>
  rename_i r
  refine .inr ?_;rcases Goes.cases h with fF|⟨m',rfl,eP⟩
  ·obtain⟨_,a',child,hb,Pj,hhb,Ss,si⟩:=fF w (.refl μ w);obtain⟨ho,rfl,rfl,_⟩:=dL.open_inv trivial;have aik:j+(r+1)=φ.n:=ns;have I0:=runT_crowd_spawn (P:=φ.P) (sl:=sl) (i:=0) ha (by simpa using Pj);rw[cw.size]at I0;have mI:=cw.spawn O (a':=a') (by omega) nN hhb Ss (x:={g:=0,fn:=a.frame.fn,pos:=a.frame.place,act:=.go (φ.lo+j)}) (y:={g:=φ.lo+j,fn:=child.frame.fn,pos:=a.frame.place,act:=.start}) ⟨rfl,rfl⟩ ⟨rfl,rfl⟩;have yY:((gs.setIfInBounds 0 a').push child)[0]? =ae a':=by have:=O.zN;rw[Array.getElem?_push_lt (by simp[cw.size];omega),<-aX];exact aU (by simp[cw.size];omega)
   have eW:j8 (upd S j (.tree (⟨hb,λ_=>False,False⟩,child,w)))=upd (j8 S) j ⟨7,0,0⟩:=xH _ _ _;have eV:Vc (j+1) (upd (j8 S) j ⟨7,0,0⟩)=Vc j (j8 S)+1:=by simp only[Vc,sumTo,upd_same];rw[sumTo_upd_out _ _ cnt (ax _)];rfl
   have Wt:OpenSt (j+1) (upd (j8 S) j ⟨7,0,0⟩):=λi hi=>by
    by_cases e:i=j
    ·subst e;rw[upd_same];simp
    ·rw[upd_ne _ _ e];exact ho i (by omega)
   have est: ∀tag',pend tag'=0->((Vc j (j8 S)+pend (.sp r 2):Nat):Int)*KK=((Vc (j+1) (upd (j8 S) j ⟨7,0,0⟩)+pend tag':Nat):Int)*KK:=λtag' hp=>by rw[eV,hp];simp[pend]
   have acY: ∀i,i<φ.n->_root_.Acc φ.LX (upd S j (.tree (⟨hb,λ_=>False,False⟩,child,w)) i):=λi hi=>by
    by_cases e:i=j
    ·subst e;rw[upd_same];exact Md Ss.acc
    ·rw[upd_ne _ _ e];exact fE i hi
   have af': ∀p,φ.UH (upd S j (.tree (⟨hb,λ_=>False,False⟩,child,w)),p) (φ.mu S q j (.sp r 2) f0):=λp=>Prod.Lex.left _ _ ⟨j,by omega,by rw[upd_same,cw.un j (ax _)];exact Ss.acc,λx hx=>upd_ne _ _ hx⟩
   have Sy:Deaf (t++ #[{g:=0,fn:=a.frame.fn,pos:=a.frame.place,act:=.go (φ.lo+j)},{g:=φ.lo+j,fn:=child.frame.fn,pos:=a.frame.place,act:=.start}]) 0=0:=by rw[Deaf_still t 0 _ λop hop=> ?_,nN];simp only[qi,cj,jH,or_false]at hop;rcases hop with rfl|rfl<;>simp
   have iA:(((ca 0 a.frame.fn a.frame.place #[]).push {g:=0,fn:=a.frame.fn,pos:=a.frame.place,act:=.go (φ.lo+j)}).push {g:=φ.lo+j,fn:=child.frame.fn,pos:=a.frame.place,act:=.start}:Trace)= #[{g:=0,fn:=a.frame.fn,pos:=a.frame.place,act:=.go (φ.lo+j)},{g:=φ.lo+j,fn:=child.frame.fn,pos:=a.frame.place,act:=.start}]:=by rw[ofEvents_eq];simp
   rw[iA]at I0;cases r with
   |zero=>obtain⟨Zh,hk⟩:=si;refine⟨_,_,φ.mu _ q (j+1) .kd Zh,I0,af' _,_,w,sl,j+1,_,_,_,q,k,.kd,Zh,0,a',_,_,rfl,yY,.kd hk,Sy,mI,j2,?_,by show j+1=φ.n;omega,by simp,acY,rfl⟩;rw[eW,est .kd rfl];exact .opn trivial Wt (by simp)
   |succ r'=>obtain⟨Zh,hk⟩:=si;refine⟨_,_,φ.mu _ q (j+1) (.sp r' 7) Zh,I0,af' _,_,w,sl,j+1,_,_,_,q,k,.sp r' 7,Zh,0,a',_,_,rfl,yY,.LM (by omega) hk,Sy,mI,j2,?_,by show j+1+(r'+1)=φ.n;omega,by simp,acY,rfl⟩;rw[eW,est (.sp r' 7) rfl];exact .opn trivial Wt (by simp)
  ·obtain⟨a',w',es,hgo,hD,lN⟩:=eP w (.refl μ w);exact sj O fE nN ns ha cw j2 dL (by simp) hgo hD (.sgo hr lN) (by omega)
 |kd h=>
  refine .inr ?_;rcases Goes.cases h with fF|⟨m',rfl,eP⟩
  ·obtain⟨_,a',hgo,m₂,hk⟩:=fF w (.refl μ w);exact ti O fE nN (tag':=.anch) ns ha cw hgo (.refl φ.Wg w) j2 R4 (.anch hk) (dL.reopen trivial trivial rfl (by simp)) (by simp) (.inl (by simp[jG]))
  ·obtain⟨a',w',es,hgo,hD,lN⟩:=eP w (.refl μ w);exact sj O fE nN ns ha cw j2 dL (by simp) hgo hD (.kd lN) (by omega)
 |anch h=>
  refine .inr ?_;rcases Goes.cases h with fF|⟨m',rfl,eP⟩
  ·obtain⟨m₂,hk⟩:=hAn μ a w (fF w (.refl μ w));exact w1 ns (dL.reopen trivial trivial rfl (by simp)) hk nN (.inl (by simp[jG]))
  ·obtain⟨a',w',es,hgo,hD,lN⟩:=eP w (.refl μ w);exact sj O fE nN ns ha cw j2 dL (by simp) hgo hD (.anch lN) (by omega)
 |w1 h=>exact .inr (w1 ns dL h nN (.inr ⟨rfl,rfl⟩))
 |w2 h=>
  rename_i vs
  refine .inr ?_;rcases Goes.cases h with fF|⟨m',rfl,eP⟩
  ·obtain⟨_,xN⟩:=fF w (.refl μ w);obtain⟨ho,rfl,rfl,Qj⟩:=dL.open_inv trivial;obtain⟨hle,h1⟩:=Qj vs rfl;obtain⟨ah5,agq⟩:=xN (Vc j (j8 S)) (by omega) (by simpa[pend]using j2);by_cases e:Vc j (j8 S)=vs
   ·obtain⟨a',hgo,m₂,hk⟩:=ah5 e;exact ti O fE nN (tag':=.w3) ns ha cw hgo (aside_setCell w (stA φ.Wg) _) (j2.setSt _) Xv (.w3 hk) (.reg trivial ho (by omega)) (by simp) (.inl (by simp[jG,e]))
   ·obtain⟨a',hgo,m₂,hk⟩:=agq e;exact ti O fE nN (tag':=.anch) ns ha cw hgo (.refl φ.Wg w) j2 J6 (.anch hk) (dL.reopen trivial trivial rfl (by simp)) (by simp) (.inl (by simp[jG,e]))
  ·obtain⟨a',w',es,hgo,hD,lN⟩:=eP w (.refl μ w);exact sj O fE nN ns ha cw j2 dL (by simp) hgo hD (.w2 lN) (by omega)
 |w3 h=>
  refine .inr ?_;rcases Goes.cases h with fF|⟨m',rfl,eP⟩
  ·obtain⟨_,aiX,hblk,agC⟩:=fF w (.refl μ w);cases dL with
   |opn h1 _ _=>exact h1.elim
   |reg h1 h2 h3=>exact ti O fE nN (tag':=.blk) ns ha cw (hblk ⟨_,j2⟩) (.refl φ.Wg w) j2 (by simp) (.blk fF) (.reg trivial h2 h3) (by simp) (.inr ⟨rfl,by omega⟩)
   |last L h1 h2 h3 h4=>exact ti O fE nN (tag':=.blk) ns ha cw (hblk ⟨_,j2⟩) (.refl φ.Wg w) j2 (by simp) (.blk fF) (.last L trivial h2 h3 h4) (by simp) (.inr ⟨rfl,by omega⟩)
   |sema h2=>obtain⟨a',hgo,m₂,hk⟩:=agC j2;exact ti O fE nN (tag':=.w4) ns ha cw hgo (aside_setCell w (smA φ.Wg) _) (j2.setSm 0) aaT (.w4 hk) (.fin trivial h2) (by simp) (.inl (by simp[jG]))
   |fin h1 _=>exact h1.elim
  ·obtain⟨a',w',es,hgo,hD,lN⟩:=eP w (.refl μ w);exact sj O fE nN ns ha cw j2 dL (by simp) hgo hD (.w3 lN) (by omega)
 |blk h=>simp at cT
 |w4 h=>
  refine .inr ?_;rcases Goes.cases h with fF|⟨m',rfl,eP⟩
  ·obtain⟨_,hx⟩:=fF w (.refl μ w);obtain⟨hq,rfl,rfl⟩:=dL.fin_inv trivial;obtain⟨a',hgo,m₂,hk⟩:=hx j2;exact ti O fE nN (tag':=.ke) ns ha cw hgo (.refl φ.Wg w) j2 J6 (.ke hk) (.fin trivial hq) (by simp) (.inl (by simp[jG]))
  ·obtain⟨a',w',es,hgo,hD,lN⟩:=eP w (.refl μ w);exact sj O fE nN ns ha cw j2 dL (by simp) hgo hD (.w4 lN) (by omega)
 |ke h=>
  refine .inr ?_;rcases Goes.cases h with fF|⟨m',rfl,eP⟩
  ·obtain⟨_,a',hgo,m₂,hk⟩:=fF w (.refl μ w);obtain⟨hq,rfl,rfl⟩:=dL.fin_inv trivial;exact ti O fE nN (tag':=.acq) ns ha cw hgo (.refl φ.Wg w) j2 Xu (.acq hk) (.fin trivial hq) (by simp) (.inl (by simp[jG]))
  ·obtain⟨a',w',es,hgo,hD,lN⟩:=eP w (.refl μ w);exact sj O fE nN ns ha cw j2 dL (by simp) hgo hD (.ke lN) (by omega)
 |acq h=>
  refine .inr ?_;rcases Goes.cases h with fF|⟨m',rfl,eP⟩
  ·obtain⟨_,a',hgo,m₂,hk⟩:=fF w (.refl μ w);obtain⟨hq,rfl,rfl⟩:=dL.fin_inv trivial;have iA: ∀op∈ca 0 a.frame.fn a.frame.place #[iJ (.acquire (stA φ.Wg))],op.g=0/\op.act=.mark (.acquire (stA φ.Wg)):=λop hop=>by obtain⟨e,he,rfl⟩:=bj hop;simp at he;subst he;exact⟨rfl,Go.ConcR.ofEvent_mk _⟩
   refine tI fE nN (tag':=.ret) (f':=m₂) ns ha hgo O.zN cw (λf hf=>cw.main O f hf (λop hop=>(iA op hop).1) (λi hi=>.refl _ _) ?_ cw.jo (λop hop=>by rw[(iA op hop).2];simp) (λop hop x hx=>by rw[(iA op hop).2]at hx;cases hx) (ax _) rfl λ_ _ _=>rfl) (.ret hk) j2 (.fin trivial hq) (λ_=> ?_) (.inl (by simp[jG]))
   ·exact cw.et.mute (g:=0) (by have:=O.zN;omega) (λop hop=>(iA op hop).1) λop hop=>by rw[(iA op hop).2];rfl
   ·have e1:ca 0 a.frame.fn a.frame.place #[iJ (.acquire (stA φ.Wg))]= #[{g:=0,fn:=a.frame.fn,pos:=a.frame.place,act:=.mark (.acquire (stA φ.Wg))}]:=by rw[ofEvents_eq];simp[Go.ConcR.ofEvent_mk]
    have hy:(t++ #[({g:=0,fn:=a.frame.fn,pos:=a.frame.place,act:=.mark (.acquire (stA φ.Wg))}:MemOp)])[t.size]? =ae {g:=0,fn:=a.frame.fn,pos:=a.frame.place,act:=.mark (.acquire (stA φ.Wg))}:=by simp
    have hts:t0.size<=t.size:=by obtain⟨u,hu⟩:=cw.pre;rw[hu];simp
    refine⟨t.size,hts,by rw[e1,act?_of hy],by rw[e1];simp[Trace.g?],by rw[e1];exact⟨0,by simp[Trace.g?],by rw[deaf_old (ax _)];exact nN⟩,λi hi=> ?_⟩;obtain⟨r,hr⟩:=cw.rel i hi (by have:(j8 S i).stage=1:=hq i hi;show(j8 S i).stage<=6;omega);refine⟨r,hr.appNot λop hop=>by rw[(iA op hop).1];have:=O.zN;omega,lt_of_act? hr.act,Nat.le_of_not_lt λbJ=> ?_⟩;obtain⟨u,hu⟩:=cw.pre;obtain⟨op,hop,hg⟩:=aJ.1 hr.g;rw[hu,getElem?_append_old bJ]at hop;have:=hT0 r op hop;omega
  ·obtain⟨a',w',es,hgo,hD,lN⟩:=eP w (.refl μ w);exact sj O fE nN ns ha cw j2 dL (by simp) hgo hD (.acq lN) (by omega)
 |ret h=>
  rcases Goes.cases h with fF|⟨m',rfl,eP⟩
  ·exact .inl ⟨rfl,fF⟩
  ·obtain⟨a',w',es,hgo,hD,lN⟩:=eP w (.refl μ w);exact .inr (sj O fE nN ns ha cw j2 dL sK hgo hD (.ret lN) (by omega))
end
end Rel
namespace Rel
section
variable {P:aS} {c:gj}
def Nz {kR:List Item}(h:pg kR=aw):KOk [sent] kR:=⟨rfl,h,λ_=>rfl,λe=>by cases e⟩
def Xg (Q:Exit->Act->ah->Prop)(b:bp)(g:au)(w:ah):Prop:=g.callers=[fN]/\ ∃(a:Act) (t:Tape) (d:Nat),(g.frame=b.at a [sent]/\Q .normal a (dH w t d))\/(∃todo,g.frame={b.at a todo with mode:=.returning}/\Q .ret a (dH w t d))
def US (Q:Exit->Act->ah->Prop)(b:bp):HOk (Xg Q b):=by
 refine⟨λg w t d h=> ?_,λg w h=> ?_⟩
 ·obtain⟨h1,a,t',d',h2⟩:=h;exact⟨h1,a,t',d',h2⟩
 ·obtain⟨h1,a,t',d',⟨h2,_⟩|⟨todo,h2,_⟩⟩:=h
  ·exact⟨h1,.inl (by rw[h2];rfl)⟩
  ·exact⟨h1,.inr (by rw[h2])⟩
def Eh {kL kR:List Item}{π:Ren}{b:bp}(hb:b.kind=.normal){a:Act}(ht:s9 c π a.tmps a.tmps)(hd:a.defers=[]){x y:List Item}(hk:L9 c kL kR π x y)(ks:KOk kL kR):sV c kL kR π (b.at a x) (b.at a y):=⟨rfl,ht,hk,by show du (nh π) a.defers a.defers;rw[hd];exact .nil,rfl,.inl rfl,hb,hb,.none,ks,λh=>absurd rfl h⟩
def Ia (hc:c.Fits P){its:List Item}{b:bp}(hb:b.kind=.normal){a:Act}{Q:Exit->Act->ah->Prop}{w:ah}{π:Ren}(s:Sub π)(hw:cz P c.sig π w w)(ht:s9 c π a.tmps a.tmps)(hd:a.defers=[])(hk:L9 c [sent] [sent] π (its++[sent]) (its++[sent]))(hQ: ∀e a w,Q e a w->e=.normal\/e=.ret)(hT: ∀t,∃e a' w',Q e a' w'/\Arrives P (lone (b.at a (its++[sent])) [fN] (dH w t 0)) b [sent] [fN] e a' w'):LT P [sent] (Xg Q b) (jW (b.at a (its++[sent])) [fN]) w:=by
 refine yj hc (.inr rfl) s hw ⟨rfl,rfl,.one (Eh hb ht hd hk (Nz rfl)) rfl⟩ (US Q b) λt=> ?_
 obtain⟨e,a',w',hq,abl⟩:=hT t;rcases hQ _ _ _ hq with rfl|rfl
 ·exact⟨jW (b.at a' [sent]) [fN],w',abl,rfl,rfl,a',w'.tape,w'.drawn,.inl ⟨rfl,hq⟩⟩
 ·obtain⟨todo,abl⟩:=abl;exact⟨jW {b.at a' todo with mode:=.returning} [fN],w',abl,rfl,rfl,a',w'.tape,w'.drawn,.inr ⟨todo,rfl,hq⟩⟩
def acO (P:aS)(f:bK)(R:Ending->ah->Prop)(g:au)(w:ah):Prop:=g.callers=[fN]/\g.frame.fn=f/\ ∃(v:ao) (t:Tape) (d:Nat),R (.returned v) (dH w t d)/\g.frame.leaving P (dH w t d) (.returned v)
def Xy (P:aS)(f:bK)(R:Ending->ah->Prop):HOk (acO P f R):=⟨λ_ _ _ _ ⟨h1,hf,v,t',d',h2⟩=>⟨h1,hf,v,t',d',h2⟩,λ_ _ ⟨h1,_,_,_,_,_,h2⟩=>⟨h1,.inr h2.1⟩⟩
def yi (hc:c.Fits P){f:bK}(hf:c.fn f=aw){args:Array ao}{R:Ending->ah->Prop}{w:ah}{π:Ren}(s:Sub π)(hw:cz P c.sig π w w)(ha:vK c f π args args)(hR: ∀e w,R e w-> ∃v,e=.returned v)(hT: ∀t d,Calls P f args (dH w t d) R):LT P [] (acO P f R) (jW (fG P f args .normal) [fN]) w:=by
 refine yj (hc.at f) (.inl rfl) s hw ⟨rfl,rfl,.one (sV.enter hc hf ha) rfl⟩ (Xy P f R) λt=> ?_
 obtain⟨e,w',fr,hr,hs,Wk,hl⟩:=hT t 0 [fN];obtain⟨v,rfl⟩:=hR e w' hr;exact⟨jW fr [fN],w',hs,rfl,rfl,Wk,v,w'.tape,w'.drawn,hr,hl⟩
def OG (hc:c.Fits P){k kR:List Item}{bot':List bp}{g g':au}{L R:ah}{gs:Tape->Nat->au}{ws:Tape->Nat->ah}{es:Tape->Nat->Array Event}(hs: ¬vL k [fN] g)(gI: ∀t d,stepG P aw g (dH L t d)=.go (gs t d) (ws t d) (es t d)/\((gs t d).frame.mode=.run\/(gs t d).frame.mode=.returning)){π:Ren}(hw:cz P c.sig π L R)(hg:GR c k kR [fN] bot' π g g')(m:Bool): ∃gR R2 ev bQ,stepG P m g' R=.go gR R2 ev/\Ext P π bQ/\GR c k kR [fN] bot' bQ (gs R.tape R.drawn) gR/\cz P c.sig bQ (ws R.tape R.drawn) R2/\y7 π bQ L R (ws R.tape R.drawn) R2/\ ∀e∈ev,DN c.sig bQ e:=by
 have jY:cz P c.sig π (dH L R.tape R.drawn) R:=⟨hw.ok,hw.obj,hw.oE,hw.uB,hw.old⟩;obtain⟨hgo,hmo⟩:=gI R.tape R.drawn;rcases Fy hc jY hg hs aw m with⟨_,_,_,h1⟩|⟨_,_,_,h1,h2⟩|⟨g2,L2,es2,Yr,_,_,hA⟩
 ·rw[hgo]at h1;cases h1
 ·rw[hgo]at h1;cases h1;obtain⟨a,cl,ch,jD,R2,ds,hga,hm,_⟩:=h2;rw[hga]at hmo;rcases hmo with x|x<;>rw[hm]at x<;>cases x
 ·rw[hgo]at Yr;cases Yr;obtain⟨bQ,gR,R2,ev,e,hr,M7,Qj,hd,_,jJ⟩:=hA λ_ _ _=>rfl
  exact⟨gR,R2,ev,bQ,hr,e,M7,Qj,⟨hd.tape,hd.os,hd.output,hd.osL,hd.xB,hd.size,hd.Fw,hd.sizes,hd.rest,hd.Oi,hd.new,hd.all,hd.le⟩,jJ⟩
end
end Rel
namespace Rel
open Go.Conc Go.ConcN
open Go.ConcR (KK WgAt rd wr Payload DC0 stA smA Bk)
section
variable [Payload] {φ:Ph} {Goal:au->ah->Prop} {AnchW:(Nat->Prop)->au->ah->Prop} {B0:Nat} {t0:Trace} {gs tA:Array au} {w w':ah} {sl:Option (Nat×Nat)} {t:Trace} {j:Nat} {γ γ':Nat->Gh} {S:Nat->ux} {μ sT:Nat->Prop} {q:Nat->Nat} {k k':Nat} {tag tag':CTag} {f0 f' d0:Nat} {a a':au} {st sm BH BD:Int} {es:Array Event}
def KO {e:Event}(h:e.mute=aw)(a:Addr):cX e≠ .mark (.release a):=by
 obtain⟨loc,wr,sy⟩:=e;cases loc<;>simp_all[Event.mute]
 rename_i m
 cases m<;>simp_all[cX]
def Ph.Com.aer (O:φ.Ok)(h:φ.Com B0 t0 gs w t j γ S μ q k){i:Nat}(qE:0<i)(hi:i<φ.lo){g':au}{fn:bK}{pos:String}(hm: ∀e∈es,Event.mute e=aw){n':Nat}(vm:QuitsD φ.P n' (deafBehind (Deaf t i) es) g')(f:au->au)(hf: ∀o,o.status=.running\/o.status=.finished->f o=o):φ.Com B0 t0 ((gs.map f).setIfInBounds i g') w (t++ca i fn pos es) j γ S μ (upd q i n') k:=by
 have zN:=O.zN;have iA: ∀op∈ca i fn pos es,op.g=i/\op.act.touch? =ai/\op.act≠ .mark (.release (stA φ.Wg)):=by intro op hop;obtain⟨e,he,rfl⟩:=bj hop;exact⟨rfl,touch_mute (hm e he),KO (hm e he) _⟩
 have hg: ∀op∈ca i fn pos es,op.g=i:=λop hop=>(iA op hop).1
 refine⟨by simp[h.size],h.jn,λi' x h0 hl hx=> ?_,λi' gK=> ?_,h.un,λi' gK=> ?_,?_,h.jo,λp hp Ks=> ?_,λi' gK gI=> ?_,?_,λp op x hp hop lN hx hk=> ?_,λp op hp hop lN bJ=> ?_,λop hop x hx=> ?_,h.chan,h.done,h.todo,h.over,h.free⟩
 ·by_cases e:i=i'
  ·subst e;rw[aU (by simp[h.size];omega)]at hx;obtain rfl:=be hx;rw[upd_same,Deaf_own];exact vm
  ·rw[aK e,gM]at hx;obtain⟨y,hy,rfl⟩:=aJ.1 hx;have hq:=h.old i' y h0 hl hy;rw[hf y hq.status,Deaf_other t (g':=i) (by omega) _ hg,upd_ne _ _ (by omega)];exact hq
 ·obtain⟨x,hx,Wv⟩:=h.wk i' gK;exact⟨x,by rw[aK (by omega),gM,hx,fS,hf x Wv.status],Wv⟩
 ·rw[Deaf_other t (g':=i) (by omega) _ hg];exact h.deaf i' gK
 ·exact h.et.mute (g:=i) (by omega) hg λop hop=>(iA op hop).2.1
 ·obtain⟨op,hop,ha⟩:=aJ.1 Ks;rcases getElem?_append_cases hop with⟨_,ru⟩|⟨_,ry⟩
  ·exact h.norel p hp (by rw[act?_of ru,ha])
  ·exact(iA op ry).2.2 ha
 ·obtain⟨r,hr⟩:=h.rel i' gK gI;exact⟨r,hr.appNot λop hop=>by rw[hg op hop];omega⟩
 ·obtain⟨u,rfl⟩:=h.pre;exact⟨u++_,by rw[Array.append_assoc]⟩
 ·rcases getElem?_append_cases hop with⟨_,ru⟩|⟨_,ry⟩
  ·exact h.atm p op x hp ru lN hx hk
  ·rw[(iA op ry).2.1]at hx;cases hx
 ·rcases getElem?_append_cases hop with⟨_,ru⟩|⟨_,ry⟩
  ·exact h.mute p op hp ru lN bJ
  ·exact(iA op ry).2.1
 ·rcases o4.1 hop with y|y
  ·exact h.seen op y x hx
  ·rw[(iA op y).2.1]at hx;cases hx
def ab9 (φ:Ph)(γ:Gh)(w:ah)(d:Nat):φ.e9 γ w (w.at d):=⟨λ_ _=>rfl,λ_ _=>rfl,λ_ _ _ _=>rfl,λ_ _=>rfl,id,ax _,rfl,rfl,rfl⟩
def agO (φ:Ph)(μ:Nat->Prop)(w:ah)(d:Nat):φ.MR μ w (w.at d):=⟨λ_ _=>rfl,λ_ _=>rfl,λ_ _=>rfl,λ_ _=>rfl,id,ax _,rfl,rfl,rfl⟩
def Ph.Com.at (O:φ.Ok)(h:φ.Com B0 t0 gs w t j γ S μ q k)(d:Nat):φ.Com B0 t0 gs (w.at d) t j γ S μ q k:=⟨h.size,h.jn,h.old,λi hi=>let⟨g,hg,hs⟩:=h.wk i hi;⟨g,hg,hs.rely O (ab9 φ _ w d)⟩,h.un,h.deaf,h.et,h.jo,h.norel,h.rel,h.pre,h.atm,h.mute,h.seen,h.chan,h.done,h.todo,h.over,λp hp Nf=>O.j0 w (w.at d) p (λ_ _=>rfl) (h.free p hp Nf)⟩
def OM (O:φ.Ok)(yW: ∀μ g w,AnchW μ g w->g.status=.running)(ha:gs[0]? =ae a)(tC:φ.k7 Goal AnchW tag f0 d0 μ a w)(nN:Deaf t 0=d0)(cw:φ.Com B0 t0 gs w t j γ S μ q k)(j2:WgAt φ.ty φ.Wg w st sm)(dL:fB j (j8 S) tag st sm)(ns:DW φ.n j tag)(sK:tag=.ret->φ.uj t0 j t)(fE: ∀i,i<φ.n->_root_.Acc φ.LX (S i)){i:Nat}(qE:0<i)(hi:i<φ.lo){g:au}(hg:gs[i]? =ae g)(cT:g.status=.running): ∃m' nZ sT,runT φ.P (crowd gs w sl) i=(.next m',nZ)/\φ.UH sT (φ.mu S q j tag f0)/\φ.Inv Goal AnchW B0 t0 sT m' (t++nZ):=by
 have hq:=cw.old i g qE hi hg;cases hqi:q i with
 |zero=>rw[hqi]at hq;rw[hq.1]at cT;cases cT
 |succ n'=>
  rw[hqi]at hq;rcases hq with⟨hf,_⟩|⟨_,g',es,hm,gI,vm⟩
  ·rw[hf]at cT;cases cT
  have eb:(i==0)=ay:=by simp;omega
  have hgo:=gI w;obtain⟨tag',f',wo,Kz,hwk⟩:=tC.wokenBy yW (.refl μ w) g g';have lN: ∀op∈ca i g.frame.fn g.frame.place es,op.g=i:=λop hop=>by obtain⟨e,_,rfl⟩:=bj hop;rfl
  have mI:=cw.aer O qE hi (fn:=g.frame.fn) (pos:=g.frame.place) hm vm (woken φ.P g g' w) λo ho=>by
   unfold Go.Conc.woken
   split
   ·exact again_running _ ho
   ·rfl
  have Nn:sumTo φ.lo (upd q i n')<sumTo φ.lo q:=by have:=sumTo_upd q n' id hi;simp only[id,hqi]at this;change sumTo φ.lo (upd q i n')+(n'+1)=sumTo φ.lo q+n' at this;omega
  refine⟨_,_,φ.mu S (upd q i n') j tag' f',runT_crowd_go hg (by rw[eb];exact hgo),Prod.Lex.right _ (Prod.Lex.left _ _ Nn),_,w,sl,j,γ,S,μ,upd q i n',k,tag',f',d0,_,st,sm,rfl,?_,wo,?_,mI,j2,dL.retag Kz,?_,?_,fE,rfl⟩
  ·rw[aK (by omega),gM,ha];rfl
  ·rw[Deaf_other t (g':=i) (by omega) _ lN,nN]
  ·rcases Kz with rfl|⟨rfl,rfl⟩<;>exact ns
  ·intro e;rcases Kz with rfl|⟨_,rfl⟩
   ·exact uj.app (sK e) λi' r gK hr=>hr.appNot λop hop=>by rw[lN op hop];omega
   ·cases e
def Kg (yW: ∀μ g w,AnchW μ g w->g.status=.running)(ha:gs[0]? =ae a)(tC:φ.k7 Goal AnchW tag f0 d0 μ a w)(cw:φ.Com B0 t0 gs w t j γ S μ q k)(dL:fB j (j8 S) tag st sm): ∃(i:Nat) (g:au),gs[i]? =ae g/\g.status=.running:=by
 have run: ∀i,i<j->(j8 S i).stage≠1-> ∃g,gs[φ.lo+i]? =ae g/\g.status=.running:=by
  intro i hi h1;obtain⟨g,hg,hs⟩:=cw.wk i hi;refine⟨g,hg,?_⟩;change (S i).wd.stage≠1 at h1;cases hS:S i with
  |l6=>rw[hS]at hs;exact hs.elim
  |tree x=>rw[hS]at hs;obtain⟨h2,h3,h4,_⟩:=hs;exact h4.status
  |tail d=>rw[hS]at hs h1;obtain⟨C,v,_,_,_,_,_,_,h⟩:=hs;exact h.running_of h1
 rcases tC.status yW with⟨hs,_⟩|⟨_,rfl⟩
 ·exact⟨0,a,ha,hs⟩
 ·cases dL with
  |opn h1 _ _=>exact h1.elim
  |reg _ _ h3=>obtain⟨i,hi,h5⟩:=exists_counted h3;obtain⟨g,hg⟩:=run i hi (by omega);exact⟨_,g,hg⟩
  |last L _ h2 h3 _=>obtain⟨g,hg⟩:=run L h2 (by omega);exact⟨_,g,hg⟩
  |fin h1 _=>exact h1.elim
def PY (yW: ∀μ g w,AnchW μ g w->g.status=.running)(ha:gs[0]? =ae a)(tC:φ.k7 Goal AnchW tag f0 d0 μ a w)(cw:φ.Com B0 t0 gs w t j γ S μ q k): ∀g∈gs,awake g:=by
 intro g hg tm;obtain⟨i,hi⟩:=Array.mem_iff_getElem?.1 hg;rcases lQ i with rfl|yz
 ·rw[ha]at hi;cases hi;rcases tC.status yW with⟨hs,_⟩|⟨hs,_⟩<;>rw[hs]<;>simp
 ·rcases ec i φ.lo with bJ|wq
  ·rcases(cw.old i g yz bJ hi).status with h|h<;>rw[h]<;>simp
  ·obtain⟨i',rfl⟩: ∃i',i=φ.lo+i':=⟨i-φ.lo,by omega⟩;have bJ:i'<j:=by have:=(aI.1 hi).1;rw[cw.size]at this;omega
   obtain⟨g',lN,hs⟩:=cw.wk i' bJ;rw[hi]at lN;cases lN;rcases hs.status with h|h<;>rw[h]<;>simp
def T3 (O:φ.Ok)(hT0: ∀(i:Nat) (op:MemOp),t0[i]? =ae op->op.g<φ.lo)(yW: ∀μ g w,AnchW μ g w->g.status=.running)(hAn: ∀μ g w,AnchW μ g w-> ∃m,φ.GP μ (φ.AtW1 μ Goal (AnchW μ)) m g w): ∀m mc t,φ.Inv Goal AnchW B0 t0 m mc t->φ.W6 Goal B0 t0 mc t\/ ∃m' nZ sT,stepT φ.P mc=(.next m',nZ)/\φ.UH sT m/\φ.Inv Goal AnchW B0 t0 sT m' (t++nZ):=by
 rintro m mc t ⟨gs,w,sl,j,γ,S,μ,q,k,tag,f0,d0,a,st,sm,rfl,ha,tC,nN,cw,j2,dL,ns,sK,fE,rfl⟩;by_cases agw:tag=.ret/\ ∀az,φ.MR μ w az->Ph.AtRet Goal a az
 ·obtain⟨rfl,fF⟩:=agw;obtain⟨cT,Ys⟩:=fF w (.refl μ w);obtain⟨hq,rfl,rfl⟩:=dL.fin_inv trivial;obtain rfl:j=φ.n:=ns;have hd:d0=0:=by cases tC;rfl
  exact .inl ⟨gs,w,sl,γ,S,μ,q,k,a,rfl,ha,cT,Ys,nN.trans hd,cw,j2,hq,sK rfl⟩
 ·refine .inr ?_;obtain⟨i,g,d,y6,hg,cT,eP⟩:=crowd_pick (P:=φ.P) (w:=w) (sl:=sl) (PY yW ha tC cw) (Kg yW ha tC cw dL);rw[eP];have wo:=tC.rely (agO φ μ w d);have mI:=cw.at O d;have xO:WgAt φ.ty φ.Wg (w.at d) st sm:=j2;rcases lQ i with rfl|yz
  ·obtain rfl:a=g:=by rw[ha]at hg;exact be hg
   rcases Vx (sl:=y6) O hT0 hAn ha wo nN mI xO dL ns sK fE cT with⟨h1,h2⟩|h
   ·exact absurd ⟨h1,λaz h=>h2 az (Ph.MR.trans (b:=w) ⟨λ_ _=>rfl,λ_ _=>rfl,λ_ _=>rfl,λ_ _=>rfl,id,ax _,rfl,rfl,rfl⟩ h)⟩ agw
   ·exact h
  ·rcases ec i φ.lo with bJ|wq
   ·exact OM O yW ha wo nN mI xO dL ns sK fE yz bJ hg cT
   ·obtain⟨i',rfl⟩: ∃i',i=φ.lo+i':=⟨i-φ.lo,by omega⟩;have gK:i'<j:=by have:=(aI.1 hg).1;rw[cw.size]at this;omega
    exact OO O yW ha wo nN mI xO dL ns sK fE gK hg cT
def T2 (O:φ.Ok)(hT0: ∀(i:Nat) (op:MemOp),t0[i]? =ae op->op.g<φ.lo)(yW: ∀μ g w,AnchW μ g w->g.status=.running)(hAn: ∀μ g w,AnchW μ g w-> ∃m,φ.GP μ (φ.AtW1 μ Goal (AnchW μ)) m g w){m:Mu}{mc:Machine}{t:Trace}(h:φ.Inv Goal AnchW B0 t0 m mc t): ∃N mc' t',runNT φ.P N mc t=(.next mc',t')/\φ.W6 Goal B0 t0 mc' t':=by refine ace (r:=φ.UH) (φ.Inv Goal AnchW B0 t0) (φ.W6 Goal B0 t0) (T3 O hT0 yW hAn) m ?_ mc t h;obtain⟨gs,w,sl,j,γ,S,μ,q,k,tag,f0,d0,a,st,sm,_,_,_,_,_,_,_,_,_,fE,rfl⟩:=h;exact aaN S fE _
end
def ShL (Shun:Nat->Prop)(l:Loc):Prop:= ∃b,wE l=ae b/\Shun b
structure xR (Shun:Nat->Prop) (B lo:Nat) (t:Trace):Prop where
 clean: ∀said,¬Race said t
 known: ∀i a,touchAt t i=ae a->a.loc.isMemory=aw->Knows t 0 i\/(ShL Shun a.loc/\a.kind=.atomic)
 over:t.HandedOver
 hears:Deaf t 0=0
 seen: ∀op∈t,∀x,op.act.touch? =ae x->x.loc.low B
 gs: ∀(i:Nat) (op:MemOp),t[i]? =ae op->op.g<lo
structure Co (P:aS) (Shun:Nat->Prop) (B:Nat) (gs:Array au) (q:Nat->Nat) (t:Trace):Prop where
 old: ∀i g,0<i->gs[i]? =ae g->QuitsD P (q i) (Deaf t i) g
 past:xR Shun B gs.size t
 pos:0<gs.size
 Vu: ∀b,Shun b->b<B
section
variable [Payload] {φ:Ph} {Goal:au->ah->Prop} {AnchW:(Nat->Prop)->au->ah->Prop} {B0:Nat} {t0:Trace} {Shun:Nat->Prop} {gs gs0:Array au} {w w':ah} {sl:Option (Nat×Nat)} {t:Trace} {q q0:Nat->Nat} {a:au}
def Co.enter (O:φ.Ok){B:Nat}(hB:B<=φ.Wg)(h:Co φ.P Shun B gs q t)(LR:φ.lo=gs.size)(Qf: ∀b,φ.oS b->b<w.heap.size/\ ¬Shun b)(aej: ∀b,φ.Std b->b<w.heap.size)(uh: ∀b,φ.CB b->b<w.heap.size/\ ¬Shun b)(hWg:φ.Wg<w.heap.size)(hCh:φ.Ch<w.heap.size)(j2:WgAt φ.ty φ.Wg w 0 0)(vG:φ.RO 0 w)(P': ∀p,p<φ.nj->φ.J0 p w)(ha:gs[0]? =ae a)(hn:0<φ.n)(Pj:φ.Spawns (φ.Fin AnchW) φ.n (λ_=>False) a w): ∃m,φ.Inv Goal AnchW w.heap.size t m (crowd gs w sl) t:=by
 obtain⟨r,hr⟩: ∃r,φ.n=r+1:=⟨φ.n-1,by omega⟩;rw[hr]at Pj;obtain⟨m,hk⟩:=Pj;have kn: ∀{l:Loc} {b:Nat},wE l=ae b-> ¬Shun b->Perm t 0 l:=by
  intro l b hb hs i x hx e;have hm:x.loc.isMemory=aw:=by rw[e];cases l<;>first|rfl|cases hb
  rcases h.past.known i x hx hm with h1|⟨⟨b',jP,Nh⟩,_⟩
  ·exact h1
  ·rw[e,hb]at jP;cases jP;exact absurd Nh hs
 have cw:φ.Com w.heap.size t gs w t 0 (λ_=>⟨λ_=>False,λ_=>False,False⟩) (λ_=>.l6) (λ_=>False) q 0:=by
  refine⟨by rw[LR];rfl,cE _,λi g h0 _ hg=>h.old i g h0 hg,λi hi=>by omega,λ_ _=>rfl,λi hi=>by omega,?_,?_,λi hi Ks=> ?_,λi hi=>by omega,⟨#[],by simp⟩,λi op x hi hop=> ?_,λi op hi hop=> ?_,λop hop x hx=>Loc.low_mono (by omega) (h.past.seen op hop x hx),vG,λp hp=>by omega,λp i _ hi=>by omega,λi hi=>by omega,λp _ Nf=>P' p Nf⟩
  ·refine⟨h.past.clean,λi op x hi hx hs=> ?_,λk k1 k2=>by omega,λl hl=> ?_,λk k1 k2=>by omega,λl hl=> ?_,λk k1 k2=>by omega,λl hl=> ?_,λi op hi=>by have:=h.past.gs i op hi;omega⟩
   ·obtain⟨ad,hl,CX⟩:=hs;have YC:=h.past.seen op (ug hi) x hx;rw[hl]at YC;change ad.block<B at YC;omega
   ·obtain⟨p,ad,_,uK,rfl⟩:=hl;exact kn (b:=ad.block) rfl (uh _ (O.nw p ad uK)).2
   ·obtain⟨b,hb,hr⟩:=hl;exact PermW.of (kn hb (Qf b hr).2)
   ·obtain⟨b,hb,hr⟩:=hl;exact hr.elim
  ·exact⟨λi i' b hi=>by omega,λi b hi=>by omega,λi b hi=>by omega,λb hb=>hb.elim,λi i' q hi=>by omega,λi q hi=>by omega,ax _,⟨hWg,hCh,λb hb=>(Qf b hb).1,λb hb=>(uh b hb).1⟩,aej⟩
  ·have:=lt_of_act? Ks;omega
  ·have:=lt_size_of_getElem? hop;omega
  ·have:=lt_size_of_getElem? hop;omega
 refine⟨φ.mu (λ_=>.l6) q 0 (.sp r 7) m,gs,w,sl,0,_,_,_,q,0,.sp r 7,m,0,a,0,0,rfl,ha,.LM (by omega) hk,h.past.hears,cw,j2,?_,by show 0+(r+1)=φ.n;omega,by simp,λi _=>Pw,rfl⟩;have:=Mode.opn (j:=0) (D:=j8 (λ_=>.l6)) (tag:=.sp r 7) trivial (λi hi=>by omega) (by simp);simpa[Vc,sumTo,pend]using this
def Ph.W6.leave (O:φ.Ok)(hn:0<φ.n)(h0:Co φ.P Shun B0 gs0 q0 t0)(LR:φ.lo=gs0.size){mc:Machine}(h:φ.W6 Goal B0 t0 mc t): ∃(gs:Array au) (w:ah) (sl:Option (Nat×Nat)) (q:Nat->Nat) (a:au),mc=crowd gs w sl/\gs[0]? =ae a/\a.status=.running/\Goal a w/\Co φ.P (λb=>Shun b\/b=φ.Wg) w.heap.size gs q t/\B0<=w.heap.size/\ ∀p,p<φ.nj-> ∃o:Nat->Prop,(∀b,o b->B0<=b/\b<w.heap.size)/\φ.JP o p w:=by
 obtain⟨gs,w,sl,γ,S,μ,q,k,a,rfl,ha,cT,Ys,nN,cw,j2,hq,p,hp0,hpa,hpg,hph,hrel⟩:=h;have zN:=O.zN;obtain⟨u,hu⟩:=cw.pre;have stay: ∀i,i<φ.n-> ∃g d,gs[φ.lo+i]? =ae g/\S i=.tail d/\QuitsD φ.P d.fuel d.deaf g/\(γ i).over/\ ∃C,(γ i).own C/\ ∀p,(γ i).held p->φ.JP (λb=>(γ i).own b/\b≠C) p w:=by
  intro i hi;obtain⟨g,hg,hs⟩:=cw.wk i hi;have h1:(S i).wd.stage=1:=hq i hi;cases hS:S i with
  |l6=>rw[hS]at hs;exact hs.elim
  |tree x=>rw[hS]at h1;simp[ux.wd]at h1
  |tail d=>rw[hS]at hs h1;obtain⟨C,v,hO,hC,_,hJ,_,_,hW⟩:=hs;exact⟨g,d,hg,rfl,hW.quits h1,hO,C,hC,hJ⟩
 have hk:k=φ.nj:=by obtain⟨g,d,_,_,_,hO,_⟩:=stay 0 hn;exact cw.over 0 hn hO
 have new: ∀i op,t[i]? =ae op->φ.lo<=op.g->(t.counts i-> ∃j,t.g? j=ae 0/\HappensBefore t i j):=by
  intro i op hi hg hc;have bJ:=cw.et.gs i op hi;obtain⟨r,hr,hrp,hr0⟩:=hrel (op.g-φ.lo) (by omega);rw[show φ.lo+(op.g-φ.lo)=op.g by omega]at hr;have hgi:t.g? i=ae op.g:=by simp[Trace.g?,hi]
  have edge:HappensBefore t r p:=.single (.inr ⟨.marked hrp (.inr hr.act) hpa (λk hk _=>cw.norel k (by omega)),hr.heard,hph⟩);have hle:i<=r:=Nat.le_of_not_lt λbJ=>hr.after i bJ hgi hc
  rcases ec i r with bJ|wq
  ·exact⟨p,hpg,.trans (.single (.inl ⟨bJ,op.g,hgi,hr.g⟩)) edge⟩
  ·obtain rfl:i=r:=by omega
   exact⟨p,hpg,edge⟩
 refine⟨gs,w,sl,λi=>if i<φ.lo then q i else(S (i-φ.lo)).wd.fuel,a,rfl,ha,cT,Ys,⟨λi g hi hg=> ?_,⟨cw.et.nr,λi x hx hm=> ?_,λi g hgi eb hc=> ?_,nN,cw.seen,λi op hi=>by rw[cw.size];exact cw.et.gs i op hi⟩,by rw[cw.size];omega,λb hb=> ?_⟩,cw.jo.sz,λx hx=> ?_⟩
 ·show QuitsD φ.P (if i<φ.lo then q i else(S (i-φ.lo)).wd.fuel) _ g
  split
  ·rename_i bJ
   exact cw.old i g hi bJ hg
  ·obtain⟨i',rfl⟩: ∃i',i=φ.lo+i':=⟨i-φ.lo,by omega⟩;have bJ:i'<φ.n:=by have:=(aI.1 hg).1;rw[cw.size]at this;omega
   obtain⟨g',d,lN,hS,hQ,_⟩:=stay i' bJ;rw[hg]at lN;cases lN;rw[cw.deaf i' bJ,show φ.lo+i'-φ.lo=i' by omega,hS];exact hQ
 ·obtain⟨op,hop,Wx⟩:=touch_of hx;by_cases hz:op.g=0
  ·left;have:=knows_own hop;rwa[hz]at this
  ·rcases ec i t0.size with bJ|wq
   ·have aee:t0[i]? =ae op:=by rw[hu,getElem?_append_old bJ]at hop;exact hop
    rcases h0.past.known i x (by rw[touchAt_of aee];exact Wx) hm with h1|⟨⟨b,hb,hs⟩,hk⟩
    ·left;rw[hu];exact h1.app u
    ·exact .inr ⟨⟨b,hb,.inl hs⟩,hk⟩
   ·rcases ec op.g φ.lo with bJ|ad6
    ·rw[cw.mute i op wq hop hz bJ]at Wx;cases Wx
    ·by_cases hc:t.counts i
     ·obtain⟨j,hj,hb⟩:=new i op hop ad6 hc;left;unfold Trace.g? at hj;obtain⟨z,hz,hzg⟩:=aJ.1 hj;exact⟨j,z,hz,hzg,.inr hb⟩
     ·right;have vl:x.kind=.atomic:=gH λeb=>hc ⟨x,by simpa[touchAt]using hx,hm,.inl eb⟩
      obtain⟨ad,hl,CX⟩:=cw.atm i op x wq hop hz Wx (by rw[vl];decide);exact⟨⟨ad.block,by rw[hl];rfl,.inr CX⟩,vl⟩
 ·unfold Trace.g? at hgi;obtain⟨op,hop,rfl⟩:=aJ.1 hgi;rcases ec op.g φ.lo with bJ|ad6
  ·rcases ec i t0.size with hl|wq
   ·have aee:t0[i]? =ae op:=by rw[hu,getElem?_append_old hl]at hop;exact hop
    obtain⟨j,hj,hb⟩:=h0.past.over i op.g (by simp[Trace.g?,aee]) eb ((counts_old (u:=u) hl).1 (by rw[<-hu];exact hc));have sa:j<t0.size:=by unfold Trace.g? at hj;obtain⟨z,hz,_⟩:=aJ.1 hj;exact lt_size_of_getElem? hz
    exact⟨j,by rw[hu];simpa[Trace.g?,getElem?_append_old sa]using hj,by rw[hu];exact hb_app u hb⟩
   ·obtain⟨x,hx,_⟩:=hc;have Pk:op.act.touch? =ae x:=by simpa[Trace.act?,hop]using hx
    rw[cw.mute i op wq hop eb bJ]at Pk;cases Pk
  ·exact new i op hop ad6 hc
 ·rcases hb with hb|rfl
  ·have:=h0.Vu b hb;have:=cw.jo.sz;omega
  ·have:=cw.jo.B.1;have:=cw.jo.sz;omega
 ·subst hk;obtain⟨i,hi,hh⟩:=cw.done x hx;obtain⟨g,d,_,_,_,_,C,_,hJ⟩:=stay i hi;exact⟨_,λb hb=>cw.jo.Du i b hi hb.1,hJ x hh⟩
end
end Rel
section
open Go.RowKit
def gd {k:IntKind}{a b:Int}(h:a=b):Ending.returned (.int k a)=.returned (.int k b):=by rw[h]
def eu {a b:Bool}(h:a=b):Ending.returned (.bool a)=.returned (.bool b):=by rw[h]
def dt (w:ah)(g:Nat)(t:aA)(cs:Array ao):Prop:=w.heap[g]? =ae (.cells cs t (0,0))
section
variable {w w':ah} {g:Nat} {t:aA} {cs:Array ao}
def dt.lt (h:dt w g t cs):g<w.heap.size:=(aI.1 h).1
def dt.cell (h:dt w g t cs)(i:Nat):w.cell? ⟨g,i,ai⟩=cs[i]?:=cell_of_row w g i cs t (0,0) h
def dt.frozen (h:dt w g t cs)(i:Nat):w.frozen? ⟨g,i,ai⟩=ay:=by unfold dt at h;simp[World.frozen?,h]
def dt.new (w:ah)(t:aA)(cs:Array ao):dt (w.alloc (.cells cs t)) w.heap.size t cs:=heap_alloc_new w _
def dt.drew (h:dt w g t cs):dt w.drew g t cs:=h
def dt.alloc (h:dt w g t cs)(o:Obj):dt (w.alloc o) g t cs:=(Below.heap_alloc w o g h.lt).trans h
def dt.below {B:Nat}(h:dt w g t cs)(hb:Below B w w')(hg:g<B):dt w' g t cs:=(hb.block g hg).trans h
def dt.after (h:dt w g t cs)(hb:Below w.heap.size w w'):dt w' g t cs:=h.below hb h.lt
def ahC (w:ah)(t1 t2 t3:aA)(c1 c2 c3:Array ao):dt (((w.alloc (.cells c1 t1)).alloc (.cells c2 t2)).alloc (.cells c3 t3)) w.heap.size t1 c1/\dt (((w.alloc (.cells c1 t1)).alloc (.cells c2 t2)).alloc (.cells c3 t3)) (w.heap.size+1) t2 c2/\dt (((w.alloc (.cells c1 t1)).alloc (.cells c2 t2)).alloc (.cells c3 t3)) (w.heap.size+1+1) t3 c3:=
 ⟨((dt.new w t1 c1).alloc _).alloc _,by have:=(dt.new (w.alloc (.cells c1 t1)) t2 c2).alloc (.cells c3 t3);simpa using this,
   by have:=dt.new ((w.alloc (.cells c1 t1)).alloc (.cells c2 t2)) t3 c3;simpa using this⟩
def ahB (w:ah)(t1 t2:aA)(c1 c2:Array ao):dt ((w.alloc (.cells c1 t1)).alloc (.cells c2 t2)) w.heap.size t1 c1/\dt ((w.alloc (.cells c1 t1)).alloc (.cells c2 t2)) (w.heap.size+1) t2 c2:=⟨(dt.new w t1 c1).alloc _,by have:=dt.new (w.alloc (.cells c1 t1)) t2 c2;simpa using this⟩
end
def FH {P:aS}{w:ah}{ops:Array Oper}{rest:List Oper}{o:Oper}{a:Act}{Q:Exit->Act->ah->Prop}(sN:o.guard=ai)(s x:cG)(t:aA)(ho:o.op=.call {callee:=.builtin .append,args:= #[s,x],argTypes:= #[t,t]})(base:Nat)(e:aA)(i:TypeInfo)(z:ao)(size bytes:Nat)(ht:P.underlying t=ae (.slice e))(hi:P.info? e=ae i)(hz:i.zero=ae z)(wy:i.size=size)(M3:i.bytes=bytes)(SG:z.cells.size=size)(kJ:0<size)(v:ao)(n:Nat)(xs:List ao)(hs:a.eval s=v)(jg:w.ownsRow base e size v n xs)(news:List ao)(hx:a.eval x=.slice (ae ⟨w.heap.size,0,ai⟩) 1 1)(hl:news.length=size)(h1: ∀u∈news,u.oneCell'=aw)(Yc:n+1<=maxLen)(rq:(n+1)*bytes<=140737488355328)(IW:base<=w.heap.size)(h: ∀v' w',w'.ownsRow base e size v' (n+1) (xs++news)->(w.alloc (.cells news.toArray e)).grownBy w' v.ownBlock->Below base w w'->wpList P ops Q rest (a.put o.dst v') w'):wpList P ops Q (o::rest) a (w.alloc (.cells news.toArray e)):=by
 refine wpList_append_own _ sN s x t ho base e i z size bytes ht hi hz wy M3 SG kJ v n xs hs (jg.alloc _) ⟨w.heap.size,0,ai⟩ 1 1 news hx (by rw[hl,jE]) ?_ h1 Yc rq (by simp;omega) ?_
 ·intro j u hu;rw[show(⟨w.heap.size,0,ai⟩:Addr).add j=⟨w.heap.size,j,ai⟩from by unfold Addr.add;split<;>simp_all];rw[cell_of_row _ w.heap.size j news.toArray e (0,0) (heap_alloc_new w _)];simpa using hu
 ·intro v' w' Ci hg _;refine h v' w' Ci hg (((Below.refl base w).alloc IW _).grown hg (by simp;omega) ?_);intro k hk;exact(jg.lt k hk).1
def Reads (w:ah)(B size:Nat)(A:Option Addr)(n:Nat)(xs:List ao):Prop:=xs.length=n*size/\(0<n-> ∃b o,A=ae ⟨b,o,ai⟩/\b<B/\ ∀j u,xs[j]? =ae u->w.cell? ⟨b,o+j,ai⟩=ae u)
section
variable {w w':ah} {B B' size n:Nat} {A:Option Addr} {xs:List ao}
def Reads.keep (h:Reads w B size A n xs)(hk: ∀b o,b<B->w'.cell? ⟨b,o,ai⟩=w.cell? ⟨b,o,ai⟩):Reads w' B size A n xs:=⟨h.1,λhn=>by obtain⟨b,o,e,hb,hc⟩:=h.2 hn;exact⟨b,o,e,hb,λj u hu=>(hk _ _ hb).trans (hc j u hu)⟩⟩
def Reads.below (h:Reads w B size A n xs)(hb:Below B w w'):Reads w' B size A n xs:=h.keep λb o hp=>hb.cell (p:=⟨b,o,ai⟩) hp
def Reads.Zk {base:Nat}{e:aA}{c:Nat}(h:w.ownsRow base e size (.slice A n c) n xs):Reads w w.heap.size size A n xs:=by
 refine⟨h.1,λhn=> ?_⟩;rcases h.2 with⟨_,h0⟩|⟨g,cap,cur,hv,hbg,hg,_⟩
 ·omega
 ·have bJ:=(aI.1 hg).1;have hA:A=ae ⟨g,0,ai⟩:=by injection hv
  refine⟨g,0,hA,bJ,λj u hu=> ?_⟩;have:=h.cells (g:=g) (by rw[hA];rfl) j u hu;rwa[Addr.add_lit]at this
def Reads.at1 {k:Nat}(h:Reads w B 1 A n xs)(hk:k<n): ∃b o u,A=ae ⟨b,o,ai⟩/\b<B/\xs[k]? =ae u/\w.cell? ⟨b,o+k,ai⟩=ae u:=by
 obtain⟨b,o,e,hb,hc⟩:=h.2 (by omega);have hl:k<xs.length:=by have:=h.1;omega
 exact⟨b,o,xs[k],e,hb,aq hl,hc k _ (aq hl)⟩
end
def sE (w:ah)(B:Nat)(A:Option Addr)(n:Nat)(zs:List Int):Prop:=Reads w B 1 A n (zs.map (aF .i64))
def sE.len {w:ah}{B:Nat}{A:Option Addr}{n:Nat}{zs:List Int}(h:sE w B A n zs):zs.length=n:=by have:=h.1;simpa using this
def sE.at_ {w:ah}{B:Nat}{A:Option Addr}{n k:Nat}{zs:List Int}(h:sE w B A n zs)(hk:k<n): ∃b o,A=ae ⟨b,o,ai⟩/\b<B/\ ∃h:k<zs.length,w.cell? ⟨b,o+k,ai⟩=ae (.int .i64 zs[k]):=by obtain⟨b,o,u,e,hb,hu,hc⟩:=Reads.at1 h hk;have hl:=h.len;refine⟨b,o,e,hb,by omega,?_⟩;rw[dN,aq (by omega)]at hu;simp at hu;rw[hc,hu]
def ql (w:ah)(B:Nat)(v:ao)(zs:List Int):Prop:=w.ownsRow B 3 1 v zs.length (zs.map (aF .i64))
def ql.nil (w:ah)(B:Nat):ql w B (.slice ai 0 0) []:=oh _ _ _ _
def ql.form {w:ah}{B:Nat}{v:ao}{zs:List Int}(h:ql w B v zs): ∃A c,v=.slice A zs.length c/\sE w w.heap.size A zs.length zs:=by
 rcases h.2 with⟨rfl,h0⟩|⟨g,cap,cur,rfl,r⟩
 ·have:zs=[]:=ft h0;subst this;exact⟨ai,0,rfl,by simp,by simp⟩
 ·exact⟨_,_,rfl,Reads.Zk (c:=cap) h⟩
def ql.kept {w w':ah}{B:Nat}{v:ao}{zs:List Int}(h:ql w B v zs)(hb:Below w.heap.size w w'):ql w' B v zs:=World.ownsRow.kept (row:=ai) h ⟨hb.os,hb.tape,hb.output,hb.size,λk hk _=>hb.block k hk⟩ (by cases v.ownBlock<;>simp)
def Xe (w:ah)(zs:List Int)(e:Ending)(w':ah):Prop:= ∃v,e=.returned v/\ql w' w.heap.size v zs/\Below w.heap.size w w'
def Nt:(Tryz.prog.info? 3).map (λi=>(i.zero,i.size,i.bytes))=ae (ae (.int .i64 0),1,8):=by kernel_rfl
def vu {w:ah}{ops:Array Oper}{rest:List Oper}{o:Oper}{a:Act}{Q:Exit->Act->ah->Prop}(sN:o.guard=ai)(s x:cG)(ho:o.op=.call {callee:=.builtin .append,args:= #[s,x],argTypes:= #[32,32]})(base:Nat)(v:ao)(zs:List Int)(hs:a.eval s=v)(jg:ql w base v zs)(y:Int)(hx:a.eval x=.slice (ae ⟨w.heap.size,0,ai⟩) 1 1)(hlen:zs.length+1<=17592186044416)(IW:base<=w.heap.size)(h: ∀v' w',ql w' base v' (zs++[y])->(w.alloc (.cells #[.int .i64 y] 3)).grownBy w' v.ownBlock->Below base w w'->wpList aj ops Q rest (a.put o.dst v') w'):wpList aj ops Q (o::rest) a (w.alloc (.cells #[.int .i64 y] 3)):=by obtain⟨i0,qE,uM,sX,tH⟩:=info_parts Nt;refine FH sN s x 32 ho base 3 i0 (.int .i64 0) 1 8 Tryz.underlying32 qE uM sX tH rfl (by decide) v zs.length _ hs jg [.int .i64 y] hx rfl (by simp[kT]) (by unfold maxLen;omega) (by omega) IW ?_;intro v' w' h1 h2 h3;exact h v' w' (by unfold ql;rw[aZ,ey];exact h1) h2 h3
structure After (W:ah)where
 w:ah
 below:Below W.heap.size W w
instance (W:ah):Nonempty (After W):=⟨⟨W,Below.refl _ _⟩⟩
def After.cell {W:ah}{b o:Nat}{v:ao}(h:W.cell? ⟨b,o,ai⟩=ae v)(n:After W):n.w.cell? ⟨b,o,ai⟩=ae v:=(n.below.cell (p:=⟨b,o,ai⟩) (rX W _ h)).trans h
def ep {P:aS}{f:bK}{args:Array ao}{W:ah}{n:After W}{v:ao}(h:Calls P f args n.w λe w'=>e=.returned v/\Below n.w.heap.size n.w w'):Calls P f args n.w λe w''=>e=.returned v/\ ∃m:After W,w''=m.w:=h.mono λ_ w' ⟨he,hb⟩=>⟨he,⟨w',n.below.trans (hb.mono n.below.size)⟩,rfl⟩
def jr {P:aS}{f:bK}{args:Array ao}{W:ah}{n:After W}{v:ao}(h:Calls P f args n.w λe w'=>e=.returned v/\n.w=w'):Calls P f args n.w λe w''=>e=.returned v/\ ∃m:After W,w''=m.w:=h.mono λ_ _ ⟨he,hw⟩=>⟨he,n,hw.symm⟩
def bF {P:aS}{id:Nat}{Q:Exit->Act->ah->Prop}{a:Act}{w:ah}{l:List Oper}(hm:P.follows .mixedOrders=aw)(hB:Region.lexB .any l.toArray=aw)(h:wpQuiet P l.toArray (λw'=> ∃n:After w,w'=n.w) (λa'=> ∀w',(∃n:After w,w'=n.w)->Q .normal a' w') l a):(Code.region id l.toArray aw).wp P Q a w:=wp_region_quiet (C:=λw'=> ∃n:After w,w'=n.w) hm hB ⟨⟨_,(Below.refl _ _).drew⟩,rfl⟩ (by simpa using h)
def tmod_neg (n m:Int)(h0:0<m)(h:n.tmod m<0):n.tmod m+m=n % m:=by
 have h3:=Int.tmod_eq_emod (a:=n) (b:=m);have h4:=Int.emod_nonneg n (b:=m) (by omega);rw[h3]at h|-
 split at h
 ·omega
 ·rename_i hx;rw[if_neg hx];omega
def aag (n m:Int)(h0:0<m)(h:0<=n.tmod m):n.tmod m=n % m:=by
 have h3:=Int.tmod_eq_emod (a:=n) (b:=m);have h4:=Int.emod_lt_of_pos n h0;rw[h3]at h|-
 split at h
 ·rename_i hx;rw[if_pos hx];omega
 ·omega
def ZK (n m:Int)(w:ah)(h0:0<m)(hm:m<=1000000000000):Calls aj 14 #[.int .i64 n,.int .i64 m] w λe w'=>e=.returned (.int .i64 (n % m))/\w=w':=by
 have h1:n.tmod m<m:=by have:=Int.tmod_lt_of_pos n h0;omega
 have h2: -m<n.tmod m:=by have:=Int.lt_tmod_of_pos n h0;omega
 have h5:Hid (n.tmod m<0->n.tmod m+m=n % m):=tmod_neg n m h0;have h6:Hid (0<=n.tmod m->n.tmod m=n % m):=aag n m h0
 go_enter Tryz.func14,Tryz.ntmps14
 go_wp2
 ·go_ret;exact⟨gd (h5.out (by assumption)),rfl⟩
 ·go_ret;exact⟨gd (h6.out (by assumption)),rfl⟩
def NG (m a b c:Int)(w:ah):Calls aj 89 #[.int .i64 m,.agg #[.int .i64 a,.int .i64 b,.int .i64 c]] w λe w'=>e=.returned (.bool (lU m a b c))/\Below w.heap.size w w':=by
 by_cases ha:bits .and .i64 m a=a
 ·by_cases hb:bits .and .i64 m b=0
  ·by_cases hc:c=0
   ·have hv:Hid (lU m a b c=aw):=by simp[Hid,lU,ha,hb,hc]
    subst hc
    go_enter Tryz.func89,Tryz.ntmps89
    go_wp2
    all_goals go_ret
    all_goals exact⟨eu hv.out.symm,(Below.refl _ _).alloc (ax _) _⟩
   ·have hv:Hid (lU m a b c=(c==0||bits .and .i64 m c !=0)):=by simp[Hid,lU,ha,hb]
    go_enter Tryz.func89,Tryz.ntmps89
    go_wp2
    all_goals go_ret
    all_goals exact⟨eu hv.out.symm,(Below.refl _ _).alloc (ax _) _⟩
  ·have hv:Hid (lU m a b c=ay):=by simp[Hid,lU,ha,hb]
   go_enter Tryz.func89,Tryz.ntmps89
   go_wp2
   all_goals go_ret
   all_goals exact⟨eu hv.out.symm,(Below.refl _ _).alloc (ax _) _⟩
 ·have hv:Hid (lU m a b c=ay):=by simp[Hid,lU,ha]
  go_enter Tryz.func89,Tryz.ntmps89
  go_wp2
  all_goals go_ret
  all_goals exact⟨eu hv.out.symm,(Below.refl _ _).alloc (ax _) _⟩
def NO:Lib.ntz8tab.size=256:=by decide+kernel
def abO: ∀b:Fin 256,(Lib.ntz8tab[b.val]'(by rw[NO];exact b.isLt)).toNat=tz8 b.val:=by decide+kernel
def aeW: ∀b:Fin 256,tz8 b.val<=8:=by decide+kernel
def aeX (b:Nat)(w:ah)(hb:b<256):Calls aj 145 #[.int .u8 b] w λe w'=>e=.returned (.int .i64 (tz8 b))/\w=w':=by
 have hs:b<Lib.ntz8tab.size:=by rw[NO];exact hb
 have h:Hid (Lib.ntz8tab[b].toNat=tz8 b/\tz8 b<=8):=⟨abO ⟨b,hb⟩,aeW ⟨b,hb⟩⟩;clear hb
 go_enter Tryz.func145,Tryz.ntmps145
 go_wp2
 go_ret;refine⟨gd ?_,rfl⟩;rw[h.out.1];have:=h.out.2;unfold wrap64;omega
def m8 (m:Int):Nat:=(m % 256).toNat
def agM (m:Int):m8 m<256:=by unfold m8;omega
def abF (m:Int):((m8 m:Nat):Int)=m % 256:=by unfold m8;omega
def aeY: ∀n:Fin 256,n.val≠0->bits .and .u8 (n.val:Int) ((n.val:Int)-1)=((low n.val:Nat):Int):=by decide+kernel
def eQ (m:Nat):List Int:=(kinds m).map Int.ofNat
def Qv (m:Nat):(eQ m).length<=8:=by unfold eQ;rw[aL];exact qF m
def wD (m:Int)(w:ah):Calls aj 88 #[.int .i64 m] w (Xe w (eQ (m8 m))):=by
 have hm:Hid (((m8 m:Nat):Int)=m % 256):=abF m;have bJ:=agM m
 go_enter Tryz.func88,Tryz.ntmps88
 go_wp2_with fail
 go_loopw [3,4] (λout b wr=> ∃(n:Nat) (xs:List Int),n<256/\b=.int .u8 n/\xs++eQ n=eQ (m8 m)/\ql wr w.heap.size out xs/\Below w.heap.size w wr) (λ_ b _=>(intOf b).toNat)
 case atStart=>exact⟨m8 m,[],bJ,by rw[hm.out],rfl,ql.nil _ _,Below.refl _ _⟩
 case round=>
  obtain⟨n,xs,hn,rfl,SF,jg,hb⟩:=hrel;have SE:xs.length+(eQ n).length<=8:=by have:=congrArg List.length SF;have h2:=Qv (m8 m);simp at this;omega
  have HX:=af SF;clear SF;by_cases h0:n=0
  ·subst h0
   go_wp2_with fail
   go_ret;have SF:=HX.out;rw[show eQ 0=[]from by rw[eQ,Qx];rfl,ew]at SF;subst SF;exact⟨_,rfl,jg,hb⟩
  ·have eb:((n:Int)==0)=ay:=by simp;omega
   have hu:=af (aeY ⟨n,hn⟩ h0);obtain⟨hk,hl⟩:=Qw n hn h0;have HK:=af hk;clear hk
   go_wp2_with fail
   refine(aeX n _ hn).mono ?_;rintro e w' ⟨rfl,rfl⟩
   go_wp2_with (at_builtin;refine vu rfl _ _ rfl w.heap.size _ xs rfl jg _ rfl ?_ ?_ ?_)
   case refine_1=>omega
   case refine_2=>exact hb.size
   intro v' w1 Nb _ lJ
   go_wp2_with fail
   go_roundw
   case rel=>
    refine⟨low n,xs++[Int.ofNat (tz8 n)],by omega,?_,?_,Nb,hb.trans lJ⟩
    ·rw[hu.out]
    ·rw[<-HX.out];show _=xs++(kinds n).map Int.ofNat;rw[HK.out];simp[eQ]
   case measure=>rw[hu.out];simp[intOf];omega
def YW (x:Int)(zs:List Int):Int:=if x∈zs then(zs.idxOf x:Int)else-1
def aen {x:Int}{zs:List Int}{k:Nat}(hk:k<zs.length)(h: ∀j,j<k->zs.getD j 0≠x)(e:zs.getD k 0=x):YW x zs=k:=by
 have hm:x∈zs:=by rw[<-e];simp[bB,hk]
 unfold YW;rw[if_pos hm];congr 1;have h1:zs.idxOf x<zs.length:=List.idxOf_lt_length_of_mem hm;have h2:zs[zs.idxOf x]=x:=List.getElem_idxOf h1;have e':zs[k]=x:=by rw[<-e];simp[bB,hk]
 rcases Nat.lt_trichotomy (zs.idxOf x) k with bJ|heq|hgt
 ·exact absurd (by rw[show zs.getD (zs.idxOf x) 0=zs[zs.idxOf x]by simp[bB,h1]];exact h2) (h _ bJ)
 ·exact heq
 ·exfalso;have:=List.not_of_lt_findIdx (p:=(· ==x)) (xs:=zs) (i:=k) hgt;simp[e']at this
def YX {x:Int}{zs:List Int}(h: ∀j,j<zs.length->zs.getD j 0≠x):YW x zs= -1:=by unfold YW;rw[if_neg];intro hm;obtain⟨i,hi,e⟩:=dK.1 hm;exact h i hi (by simp[bB,hi,e])
def Qk (A:Option Addr)(c:Nat)(zs:List Int)(x:Int)(w:ah)(h:sE w w.heap.size A zs.length zs)(hn:zs.length<=maxLen):Calls aj 91 #[.slice A zs.length c,.int .i64 x] w λe w'=>e=.returned (.int .i64 (YW x zs))/\w=w':=by
 have H:=af h;have hnm:(zs.length:Int)<=9223372036854775807:=by unfold maxLen at hn;omega
 clear h
 go_enter Tryz.func91,Tryz.ntmps91
 go_wp2_with fail
 go_loopw [8] (λi w'=> ∃k:Nat,k<=zs.length/\i=.int .i64 k/\(∀j,j<k->zs.getD j 0≠x)/\w=w') (λi _=>zs.length-(intOf i).toNat)
 case atStart=>exact⟨0,by omega,rfl,λj hj=>by omega,rfl⟩
 case round=>
  obtain⟨k,hk,rfl,Es,rfl⟩:=hrel;have yo:=af Es;clear Es;by_cases bJ:k<zs.length
  ·have vI:(k:Int)<zs.length:=by omega
   obtain⟨g,o,rfl,hgl,C0,sM⟩:=H.out.at_ bJ;have sN:Hid (zs.getD k 0=zs[k]):=by simp[Hid,bB,aq bJ]
   have hIX:Hid (zs[k]=x->YW x zs=k):=λh=>aen bJ yo.out (sN.out.trans h)
   generalize zs[k]=y at*;by_cases hx:x=y
   ·have HIX:Hid (YW x zs=k):=hIX.out hx.symm;have hxe:(x==y)=aw:=by simpa using hx
    clear hx hIX
    go_wp2_with fail
    go_ret;exact⟨gd HIX.out.symm,rfl⟩
   ·have hxe:(x==y)=ay:=by simpa using hx
    have HP:Hid (y≠x):=λe=>hx e.symm
    clear hx hIX
    go_wp2_with fail
    go_roundw
    case rel=>
     refine⟨k+1,by omega,by go_num,λj hj=> ?_,trivial⟩;by_cases yy:j=k
     ·rw[yy,sN.out];exact HP.out
     ·exact yo.out j (by omega)
    case measure=>simp[intOf];omega
  ·have Uo:k=zs.length:=by omega
   subst Uo;have HIX:Hid (YW x zs= -1):=YX yo.out
   go_wp2_with fail
   go_ret;exact⟨gd HIX.out.symm,rfl⟩
def G' (A:Option Addr)(c:Nat)(zs:List Int)(x:Int)(w:ah)(h:sE w w.heap.size A zs.length zs)(hn:zs.length<=maxLen):Calls aj 40 #[.slice A zs.length c,.int .i64 x] w λe w'=>e=.returned (.bool (decide (x∈zs)))/\w=w':=by
 have HI:=af (Qk A c zs x w h hn);have hd:Hid (decide (0<=YW x zs)=decide (x∈zs)):=by
  unfold Hid YW
  split<;>rename_i hm<;>simp[hm]
 clear h;generalize YW x zs=y at*
 go_enter Tryz.func40,Tryz.ntmps40
 go_wp2_with fail
 refine HI.out.mono ?_;rintro e w' ⟨rfl,rfl⟩
 go_wp2_with fail
 go_ret;exact⟨eu hd.out,rfl⟩
def ints (xs:List Int):Array ao:=(xs.map (aF .i64)).toArray
def bD (xs:List Int):(ints xs).size=xs.length:=by simp[ints]
def lg (xs:List Int)(i:Nat):(ints xs)[i]? =xs[i]?.map (aF .i64):=by simp[ints]
def ints_at {xs:List Int}{i:Nat}(h:i<xs.length):(ints xs)[i]? =ae (.int .i64 xs[i]):=by rw[lg,aq h];rfl
def ints_set (xs:List Int)(i:Nat)(x:Int):(ints xs).setIfInBounds i (.int .i64 x)=ints (xs.set i x):=by unfold ints;rw[List.setIfInBounds_toArray,List.map_set]
def Nu {xs ys:List Int}(h:ints xs=ints ys):xs=ys:=by have h2:=List.map_inj_right (f:=aF .i64) (l:=xs) (l':=ys) (λa b e=>by injection e);exact h2.1 (by simpa[ints]using h)
def ja (xs:List Int):(ints xs).toList=xs.map (aF .i64):=by simp[ints]
def row? (w:ah)(g o n:Nat):Option (Array ao):=
 match w.heap[g]? with
 |some (.cells cs _ _)=>if o+n<=cs.size then ae (cs.extract o (o+n))else ai
 |_=>ai
def dt.row {w:ah}{g:Nat}{t:aA}{cs:Array ao}(h:dt w g t cs)(o n:Nat)(hn:o+n<=cs.size):row? w g o n=ae (cs.extract o (o+n)):=by unfold dt at h;simp[row?,h,hn]
def dt.bt {w:ah}{g:Nat}{t:aA}{xs:List Int}(h:dt w g t (ints xs)){n:Nat}(hn:xs.length=n):row? w g 0 n=ae (ints xs):=by rw[dt.row h 0 n (by rw[bD];omega),bS,<-hn,<-bD,Array.extract_size]
def dt.eJ {w:ah}{g:Nat}{t:aA}{xs:List Int}(h:dt w g t (ints xs))(o n:Nat)(hn:o+n<=xs.length):row? w g o n=ae (ints ((xs.drop o).take n)):=by rw[dt.row h o n (by rw[bD];omega)];congr 1;apply oz;rw[Array.toList_extract,ja,ja,List.extract_eq_take_drop,iL,List.map_take,List.map_drop]
def dt.set {w:ah}{g:Nat}{t:aA}{cs:Array ao}(h:dt w g t cs)(i:Nat)(v:ao):dt (w.setCell ⟨g,i,ai⟩ v) g t (cs.setIfInBounds i v):=by unfold dt at h|-;simp[dJ,bq,h]
def dt.Hb {w:ah}{g g':Nat}{t:aA}{cs:Array ao}(h:dt w g t cs)(eb:g≠g')(i:Nat)(v:ao):dt (w.setCell ⟨g',i,ai⟩ v) g t cs:=(Below.heap_setCell w ⟨g',i,ai⟩ v g eb).trans h
def jw (t:aA)(a:Addr):Sem ao:=loadVar t a
section
variable {P:aS}
def Bu (w:ah)(g o:Nat)(cs:Array ao)(t:aA)(fr:Nat×Nat)(hg:w.heap[g]? =ae (.cells cs t fr))(n:Nat)(hn:o+n<=cs.size):(loadCells ⟨g,o,ai⟩ n).run P w=.ok (cs.extract o (o+n)) w:=by
 have h:=run_loadCells_list (P:=P) w ⟨g,o,ai⟩ (cs.extract o (o+n)).toList (λj v hv=>by
  rw[Addr.add_lit,cell_of_row w g (o+j) cs t fr hg];rw[Array.getElem?_toList]at hv;rw[Array.getElem?_extract]at hv
  split at hv
  ·exact hv
  ·cases hv)
 have hs:(cs.extract o (o+n)).toList.length=n:=by simp;omega
 rw[hs,Array.toArray_toList]at h;exact h
def C8 (w:ah)(ty:aA)(g o n:Nat)(d:TypeDesc)(hu:P.underlying ty=ae d)(hd:(match d with| .struct _| .array _ _=>aw|_=>ay)=aw)(hi:(P.info? ty).map (·.size)=ae n):(loadVar ty ⟨g,o,ai⟩).run P w=match row? w g o n with|some cs=>.ok (.agg cs) w|none=>(jw ty ⟨g,o,ai⟩).run P w:=by
 split
 ·rename_i cs hr
  unfold row? at hr
  split at hr
  ·rename_i cs' t fr hg
   split at hr
   ·rename_i hn
    have hl:=Bu (P:=P) w g o cs' t fr hg n hn;cases hq:P.info? ty with
    |none=>simp[hq]at hi
    |some i=>
     have hs:i.size=n:=by simpa[hq]using hi
     have Yl:(isAgg ty).run P w=.ok aw w:=by unfold isAgg;rw[eH,run_underlying hu w];cases d<;>simp_all
     simp only[dS]at hr;simp[loadVar,eH,Yl,sizeOf,typeInfo,hq,hs,hl,hr]
   ·cases hr
  ·cases hr
 ·rfl
end
def fA (t:aA)(v:ao):Sem ao:=eh t v
def fits (w:ah)(g o n:Nat):Bool:=
 match w.heap[g]? with
 |some (.cells cs _ (0,0))=>decide (o+n<=cs.size)
 |_=>ay
def putRow (w:ah)(g o:Nat)(xs:List Int):ah:=
 {w with heap:=w.heap.modify g λ
    | .cells cs e fr=>.cells (cs.toList.take o++xs.map (aF .i64)++cs.toList.drop (o+xs.length)).toArray e fr
    |o=>o}
def dh (t:aA)(p v:ao):Sem Unit:=eZ t p v
def en (t:aA)(g o:Nat)(v:ao):Sem Unit:=storeVar t ⟨g,o,ai⟩ v
def dt.fits {w:ah}{g:Nat}{t:aA}{cs:Array ao}(h:dt w g t cs)(o n:Nat)(hn:o+n<=cs.size):fits w g o n=aw:=by unfold dt at h;unfold Go.Proofs.YtknejlcijdngoaaGreat.fits;rw[h];simpa using hn
def dt.put {w:ah}{g:Nat}{t:aA}{ys:List Int}(h:dt w g t (ints ys))(o:Nat)(xs:List Int):dt (putRow w g o xs) g t (ints (ys.take o++xs++ys.drop (o+xs.length))):=by unfold dt at h|-;simp[putRow,bq,h,ja];simp[ints]
def dt.eU {w:ah}{g:Nat}{t:aA}{ys:List Int}(h:dt w g t (ints ys))(xs:List Int)(hl:xs.length=ys.length):dt (putRow w g 0 xs) g t (ints xs):=by have:=h.put 0 xs;rwa[List.take_zero,cy,bS,hl,List.drop_length,ew]at this
@[go_sem] theorem XY (w:ah)(cs:Array ao)(t:aA)(o n:Nat):Go.Proofs.YtknejlcijdngoaaGreat.fits (w.alloc (.cells cs t)) w.heap.size o n=decide (o+n<=cs.size):=by
  have h:(w.alloc (.cells cs t)).heap[w.heap.size]? =ae (.cells cs t (0,0)):=heap_alloc_new w _;unfold Go.Proofs.YtknejlcijdngoaaGreat.fits;rw[h]
  rfl
attribute [go_sem] bD
@[go_sem] theorem ag3 (w:ah)(g o n:Nat):row? w.drew g o n=row? w g o n:=rfl
@[go_sem] theorem aff (w:ah)(g o n:Nat):Go.Proofs.YtknejlcijdngoaaGreat.fits w.drew g o n=Go.Proofs.YtknejlcijdngoaaGreat.fits w g o n:=rfl
@[go_sem] theorem putRow_drew (w:ah)(g o:Nat)(xs:List Int):putRow w.drew g o xs=(putRow w g o xs).drew:=rfl
def fz (w:ah)(g o:Nat)(xs:List Int)(k:Nat)(h:k≠g):(putRow w g o xs).heap[k]? =w.heap[k]?:=by simp[putRow,bq,Ne.symm h]
def dt.zW {w:ah}{g g':Nat}{t:aA}{cs:Array ao}(h:dt w g t cs)(o:Nat)(xs:List Int)(eb:g≠g'):dt (putRow w g' o xs) g t cs:=(fz w g' o xs g eb).trans h
def jb (w:ah)(g o:Nat)(xs:List Int):(putRow w g o xs).heap.size=w.heap.size:=by simp[putRow]
def jL {B:Nat}{a w:ah}(h:Below B a w){g:Nat}(hg:B<=g)(o:Nat)(xs:List Int):Below B a (putRow w g o xs):=h.trans ⟨rfl,rfl,rfl,by rw[jb];exact ax _,λk hk=>fz w g o xs k (by omega)⟩
section
variable {P:aS}
def ga (w:ah)(ty:aA)(g o n:Nat)(d:TypeDesc)(hu:P.underlying ty=ae d)(hd:(match d with| .struct _| .array _ _=>aw|_=>ay)=aw)(hi:(P.info? ty).map (·.size)=ae n):(fA ty (.pointer (ae ⟨g,o,ai⟩))).run P w=match row? w g o n with|some cs=>.ok (.agg cs) w|none=>(jw ty ⟨g,o,ai⟩).run P w:=C8 w ty g o n d hu hd hi
def ib (w:ah)(ty:aA)(g o n:Nat)(xs:List Int)(hi:(P.info? ty).map (·.size)=ae n):(dh ty (.pointer (ae ⟨g,o,ai⟩)) (.agg (ints xs))).run P w=if fits w g o n=aw/\xs.length=n then .ok () (putRow w g o xs)else(en ty g o (.agg (ints xs))).run P w:=by
 split
 ·rename_i h
  obtain⟨hf,hl⟩:=h;unfold fits at hf
  split at hf
  ·rename_i cs e hg
   have hn:o+n<=cs.size:=by simpa using hf
   cases hq:P.info? ty with
   |none=>simp[hq]at hi
   |some i=>
    have hs:i.size=n:=by simpa[hq]using hi
    have gI:=run_storeCells_at P g o e (xs.map (aF .i64)) 0 cs w hg (by simp;omega) (by intro v hv;obtain⟨x,_,rfl⟩:=aH.1 hv;rfl);have hlen:(ints xs).size=i.size:=by rw[bD];omega
    simp only[dh,eZ,Instr.sureAddr,storeVar,eH,sizeOf,typeInfo,run_program,ij,hq,Sem.run_pure,iQ,hlen,ne_eq,not_true_eq_false,if_false,ja,gI];congr 1;unfold putRow World.setRow;congr 1;apply Array.ext_getElem?;intro k;rw[bq,bq]
    split
    ·rename_i hk
     subst hk;rw[hg];simp
    ·rfl
  ·cases hf
 ·rfl
end
def gD (w:ah)(t:aA)(ys xs:List Int)(hl:xs.length=ys.length):dt (putRow (w.alloc (.cells (ints ys) t)) w.heap.size 0 xs) w.heap.size t (ints xs):=(dt.new w t (ints ys)).eU xs hl
def dV (w:ah)(t:aA)(ys xs:List Int):Below w.heap.size w (putRow (w.alloc (.cells (ints ys) t)) w.heap.size 0 xs):=jL ((Below.refl _ _).alloc (ax _) _) (ax _) _ _
def vr {P:aS}{fn:Func}{p u:Tmp}{ty:aA}(h:fn.results= #[.cell p ty,.tmp u])(tmps:Array ao)(w:ah)(g:Nat)(t:aA)(cs:Array ao)(fr:Nat×Nat)(d:TypeDesc)(hp:tmps.getD p undef=.pointer (ae ⟨g,0,ai⟩))(hg:w.heap[g]? =ae (.cells cs t fr))(hu:P.underlying ty=ae d)(hd:(match d with| .struct _| .array _ _=>aw|_=>ay)=aw)(hi:(P.info? ty).map (·.size)=ae cs.size):(results fn tmps).run P w=.ok (.tuple #[.agg cs,tmps.getD u undef]) w:=by rw[results_cell_tmp h,hp];simp[asAddr,run_loadVar_row w g t ty cs fr d hg hu hd hi]
def cN {P:aS}{fn:Func}{R:Ending->ah->Prop}{a:Act}{w:ah}{p u:Tmp}{ty:aA}(h:fn.results= #[.cell p ty,.tmp u])(g:Nat)(t:aA)(cs:Array ao)(x:ao)(d:TypeDesc)(hp:a.tmps.getD p undef=.pointer (ae ⟨g,0,ai⟩))(hx:a.tmps.getD u undef=x)(hg:dt w g t cs)(hu:P.underlying ty=ae d)(hd:(match d with| .struct _| .array _ _=>aw|_=>ay)=aw)(hi:(P.info? ty).map (·.size)=ae cs.size)(Ui:a.defers=[])(hR:R (.returned (.tuple #[.agg cs,x])) w):bodyPost P fn R .ret a w:=bodyPost_ret (by rw[vr h a.tmps w g t cs (0,0) d hp hg hu hd hi,hx]) Ui hR
def mj {P:aS}{fn:Func}{R:Ending->ah->Prop}{a:Act}{w:ah}{p:Tmp}{ty:aA}(h:fn.results= #[.cell p ty])(g:Nat)(t:aA)(cs:Array ao)(d:TypeDesc)(hp:a.tmps.getD p undef=.pointer (ae ⟨g,0,ai⟩))(hg:dt w g t cs)(hu:P.underlying ty=ae d)(hd:(match d with| .struct _| .array _ _=>aw|_=>ay)=aw)(hi:(P.info? ty).map (·.size)=ae cs.size)(Ui:a.defers=[])(hR:R (.returned (.agg cs)) w):bodyPost P fn R .ret a w:=bodyPost_ret (results_cell_row h a.tmps w g t cs (0,0) d hp hg hu hd hi) Ui hR
def bZ {P:aS}{c:Code}{Q:Exit->Act->ah->Prop}{a:Act}{w:ah}(R:ah->Prop)(hR:R w)(h: ∀w',R w'->c.wp P Q a w'):c.wp P Q a w:=h w hR
def zy (P:aS)(ok:aA->Bool):List Field->Nat->Option Nat
 | [],acc=>ae acc
 |f::fs,acc=>if(f.name != "_" &&decide (f.offset=acc)&&ok f.type)=aw then zy P ok fs (acc+P.cellsOf f.type)else ai
def tu (P:aS):Nat->aA->Bool
 |0,_=>ay
 |n+1,t=>match P.underlying t with
  |some (.int .i64)=>decide (P.cellsOf t=1)
  |some (.struct fs)=> !P.stoodInHeld t&&(P.info? t).isSome&&decide (zy P (tu P n) fs.toList 0=ae (P.cellsOf t))
  |some (.array m e)=>(P.info? e).isSome&&(P.info? t).isSome&&tu P n e&&decide (P.cellsOf t=m*P.cellsOf e)
  |_=>ay
def valOf (P:aS)(t:aA)(xs:List Int):ao:=match P.underlying t with
 |some (.int _)=>.int .i64 (xs.getD 0 0)
 |_=>.agg (ints xs)
def sd (xs:List Int)(a n:Nat):List Int:=(xs.drop a).take n
def xG {xs:List Int}{a n:Nat}(h:a+n<=xs.length):(sd xs a n).length=n:=by simp[sd];omega
def Te (xs:List Int)(a n m:Nat):sd xs a (n+m)=sd xs a n++sd xs (a+n) m:=by unfold sd;rw[List.take_add,List.drop_drop]
def Fs {xs ys:List Int}{a n m:Nat}(hx:a+n<=xs.length)(hy:a+n<=ys.length):sd xs a (n+m)=sd ys a (n+m)↔sd xs a n=sd ys a n/\sd xs (a+n) m=sd ys (a+n) m:=by
 rw[Te,Te];constructor
 ·intro h;exact List.append_inj h (by rw[xG hx,xG hy])
 ·rintro⟨h1,h2⟩;rw[h1,h2]
def Dw (xs:List Int):sd xs 0 xs.length=xs:=by simp[sd]
section
variable {P:aS}
def qH (w:ah)(n:Nat)(t:aA)(xs:List Int)(o:Nat)(hB:tu P n t=aw)(hl:o+P.cellsOf t<=xs.length):(part t (ints xs) o).run P w=.ok (valOf P t (sd xs o (P.cellsOf t))) w:=by
 cases n with
 |zero=>simp[tu]at hB
 |succ n=>
  have agg: ∀d,P.underlying t=ae d->(match d with| .struct _| .array _ _=>aw|_=>ay)=aw->(P.info? t).isSome=aw->(part t (ints xs) o).run P w=.ok (.agg (ints (sd xs o (P.cellsOf t)))) w:=by
   intro d hu hd hi;have Yl:(isAgg t).run P w=.ok aw w:=by unfold isAgg;rw[eH,run_underlying hu w];cases d<;>simp_all
   obtain⟨i,hq⟩:=Option.isSome_iff_exists.1 hi;have hc:P.cellsOf t=i.size:=by simp[Program.cellsOf,hq]
   simp[part,eH,Yl,sizeOf,typeInfo,hq,hc];apply oz;rw[Array.toList_extract,ja,ja,List.extract_eq_take_drop,iL,sd,List.map_take,List.map_drop]
  unfold tu at hB
  split at hB
  ·rename_i hu
   have hc:P.cellsOf t=1:=by simpa using hB
   rw[hc]at hl|-;have Yl:(isAgg t).run P w=.ok ay w:=by
    unfold isAgg;rw[eH,run_underlying hu w]
    rfl
   have ho:(ints xs)[o]? =ae (.int .i64 (xs[o]'(by omega))):=ints_at (by omega);have hs:(sd xs o 1).getD 0 0=xs[o]'(by omega):=by simp only[sd,bB,ie,Nat.zero_lt_one,if_true,List.getElem?_drop,lC];rw[aq (by omega)];rfl
   simp[part,eH,Yl,ho,valOf,hu];simpa using hs.symm
  ·rename_i fs hu
   simp only[aG]at hB;rw[agg _ hu rfl hB.1.2];simp[valOf,hu]
  ·rename_i m e hu
   simp only[aG]at hB;rw[agg _ hu rfl hB.1.1.2];simp[valOf,hu]
  ·cases hB
def decide_and {p q:Prop}[Decidable p][Decidable q]:decide (p/\q)=(decide p&&decide q):=by by_cases hp:p<;>by_cases hq:q<;>simp[hp,hq]
def xT (n d:Nat)(xs ys:List Int)(ih: ∀(t:aA) (xs ys:List Int) (w:ah),tu P n t=aw->xs.length=P.cellsOf t->ys.length=P.cellsOf t->(Op.equalIn (d+n) t (valOf P t xs) (valOf P t ys)).run P w=.ok (decide (xs=ys)) w): ∀(fs:List Field) (acc e:Nat) (w:ah),zy P (tu P n) fs acc=ae e->e<=xs.length->e<=ys.length->acc<=e/\(Op.eqFields (d+n) (ints xs) (ints ys) fs).run P w=.ok (decide (sd xs acc (e-acc)=sd ys acc (e-acc))) w
 | [],acc,e,w,h,_,_=>by simp only[zy,dS]at h;subst h;exact⟨ax _,by simp[Op.eqFields,sd]⟩
 |f::fs,acc,e,w,h,hx,hy=>by
  unfold zy at h
  split at h
  ·rename_i hc
   simp only[aG,bne_iff_ne,ne_eq,decide_eq_true_eq]at hc;obtain⟨⟨hn,ho⟩,hB⟩:=hc;obtain⟨hle,hr⟩:=xT n d xs ys ih fs _ e w h hx hy;have hse:e-acc=P.cellsOf f.type+(e-(acc+P.cellsOf f.type)):=by omega
   refine⟨by omega,?_⟩;have h1:=qH (P:=P) w n f.type xs acc hB (by omega);have h2:=qH (P:=P) w n f.type ys acc hB (by omega);have h3:=ih f.type (sd xs acc (P.cellsOf f.type)) (sd ys acc (P.cellsOf f.type)) w hB (xG (by omega)) (xG (by omega));have hd:decide (sd xs acc (e-acc)=sd ys acc (e-acc))=(decide (sd xs acc (P.cellsOf f.type)=sd ys acc (P.cellsOf f.type))&&decide (sd xs (acc+P.cellsOf f.type) (e-(acc+P.cellsOf f.type))=sd ys (acc+P.cellsOf f.type) (e-(acc+P.cellsOf f.type)))):=by rw[<-decide_and,hse];exact decide_eq_decide.2 (Fs (by omega) (by omega))
   rw[hd];simp only[Op.eqFields,ho,ne_eq,hn,not_false_eq_true,if_true,eH,h1,h2,h3,ij];cases decide (sd xs acc (P.cellsOf f.type)=sd ys acc (P.cellsOf f.type))
   ·simp
   ·simpa using hr
  ·cases h
def xl: ∀(n d:Nat) (t:aA) (xs ys:List Int) (w:ah),tu P n t=aw->xs.length=P.cellsOf t->ys.length=P.cellsOf t->(Op.equalIn (d+n) t (valOf P t xs) (valOf P t ys)).run P w=.ok (decide (xs=ys)) w
 |0,_,_,_,_,_,h,_,_=>by simp[tu]at h
 |n+1,d,t,xs,ys,w,hB,hx,hy=>by
  have ih:=xl n d;unfold tu at hB
  split at hB
  ·rename_i hu
   have hc:P.cellsOf t=1:=by simpa using hB
   rw[hc]at hx hy
   match xs,hx,ys,hy with
   | [x],_,[y],_=>
     have hv: ∀z,valOf P t [z]=.int .i64 z:=λz=>by simp[valOf,hu]
     rw[hv,hv,<-sZ,run_equalIn_int w _ t .i64 .i64 x y hu];congr 1;rw[l8];simp
  ·rename_i fs hu
   simp only[aG,iT,decide_eq_true_eq]at hB;obtain⟨⟨h1,_⟩,h2⟩:=hB;have hf:P.fieldsOf t=fs:=by simp[Program.fieldsOf,hu]
   have hv: ∀z,valOf P t z=.agg (ints z):=λz=>by simp[valOf,hu]
   rw[hv,hv,<-sZ,run_equalIn_struct w (d+n) t (ints xs) (ints ys) (by rw[hf];exact hu) h1,hf];obtain⟨_,hr⟩:=xT n d xs ys (λt' xs' ys' w'=>ih t' xs' ys' w') fs.toList 0 _ w h2 (by omega) (by omega);rw[hr,Nat.sub_zero];congr 1;rw[<-hx,Dw,hx,<-hy,Dw]
  ·rename_i m e hu
   simp only[aG,decide_eq_true_eq]at hB;obtain⟨⟨⟨hi,_⟩,hB⟩,hc⟩:=hB;obtain⟨i,hq⟩:=Option.isSome_iff_exists.1 hi;have hie:P.cellsOf e=i.size:=by simp[Program.cellsOf,hq]
   have hv: ∀z,valOf P t z=.agg (ints z):=λz=>by simp[valOf,hu]
   rw[hv,hv,<-sZ];simp only[Op.equalIn,eH,run_underlying hu,ij,sizeOf,typeInfo,run_program,hq,Sem.run_pure];simp only[Std.Legacy.Range.forIn_eq_forIn_range',Std.Legacy.Range.size,Nat.sub_zero,Nat.add_one_sub_one,Nat.div_one];have key: ∀(k a:Nat),a+k<=m->(Sem.run P (forIn (gg a k 1) ((ai,()):Option Bool×Unit) λi_1 __s=>do
                                                                                                                                                                                                                                       let __do_lift<-part e (ints xs) (i_1*i.size)
                                                                                                                                                                                                                                       let __do_lift_1<-part e (ints ys) (i_1*i.size)
                                                                                                                                                                                                                                       let __do_lift<-Op.equalIn (d+n) e __do_lift __do_lift_1
                                                                                                                                                                                                                                       if(!__do_lift)=aw then pure (ForInStep.done (ae ay,()))else pure (ForInStep.yield (ai,()))) w)=
    .ok (if sd xs (a*i.size) (k*i.size)=sd ys (a*i.size) (k*i.size)then(ai,())else(ae ay,())) w:=by
    intro k
    induction k with
    |zero=>intro a _;simp[sd]
    |succ k ihk=>
     intro a ha;have lJ:a*i.size+i.size<=m*i.size:=by rw[<-Nat.succ_mul];exact fC _ (by omega)
     have h1:=qH (P:=P) w n e xs (a*i.size) hB (by rw[hx,hc,hie];exact lJ);have h2:=qH (P:=P) w n e ys (a*i.size) hB (by rw[hy,hc,hie];exact lJ);have h3:=ih e (sd xs (a*i.size) (P.cellsOf e)) (sd ys (a*i.size) (P.cellsOf e)) w hB (xG (by rw[hx,hc,hie];exact lJ)) (xG (by rw[hy,hc,hie];exact lJ));have Qh:=Fs (xs:=xs) (ys:=ys) (a:=a*i.size) (n:=i.size) (m:=k*i.size) (by rw[hx,hc,hie];exact lJ) (by rw[hy,hc,hie];exact lJ);rw[hie]at h1 h2 h3;have hmul:(k+1)*i.size=i.size+k*i.size:=by rw[Nat.succ_mul,dA]
     have CW:(a+1)*i.size=a*i.size+i.size:=Nat.succ_mul _ _;rw[List.range'_succ,List.forIn_cons,hmul];simp only[eH,h1,h2,h3,ij];by_cases vm:sd xs (a*i.size) i.size=sd ys (a*i.size) i.size
     ·have hkk:=ihk (a+1) (by omega);rw[CW]at hkk;simp only[vm,decide_true,Bool.not_true,dP,if_false,Sem.run_pure,ij,hkk];congr 1;by_cases hr:sd xs (a*i.size+i.size) (k*i.size)=sd ys (a*i.size+i.size) (k*i.size)
      ·rw[if_pos hr,if_pos (Qh.2 ⟨vm,hr⟩)]
      ·rw[if_neg hr,if_neg (λh=>hr (Qh.1 h).2)]
     ·rw[if_neg (λh=>vm (Qh.1 h).1)];simp[vm]
   rw[key m 0 (by omega),Nat.zero_mul];have hxm:m*i.size=xs.length:=by rw[hx,hc,hie]
   have hym:m*i.size=ys.length:=by rw[hy,hc,hie]
   have Wv:sd xs 0 (m*i.size)=xs:=by rw[hxm,Dw]
   have hsy:sd ys 0 (m*i.size)=ys:=by rw[hym,Dw]
   rw[Wv,hsy];by_cases he:xs=ys
   ·simp[he]
   ·simp[he]
  ·cases hB
def Ae (n:Nat)(t:aA)(xs ys:List Int)(w:ah)(hn:n<=10000)(hB:tu P n t=aw)(ha:valOf P t []=.agg (ints []))(hx:xs.length=P.cellsOf t)(hy:ys.length=P.cellsOf t):(binOp .eql t (.agg (ints xs)) (.agg (ints ys))).run P w=.ok (.bool (decide (xs=ys))) w:=by
 have hv: ∀z,valOf P t z=.agg (ints z):=by
  intro z;unfold valOf at ha|-;split at ha
  ·cases ha
  ·rfl
 have h:=xl (P:=P) n (10000-n) t xs ys w hB hx hy;rw[hv,hv,show 10000-n+n=10000 from by omega]at h;rw[run_eql_struct,h]
 rfl
def Af (n:Nat)(t:aA)(xs ys:List Int)(w:ah)(hn:n<=10000)(hB:tu P n t=aw)(ha:valOf P t []=.agg (ints []))(hx:xs.length=P.cellsOf t)(hy:ys.length=P.cellsOf t):(binOp .neq t (.agg (ints xs)) (.agg (ints ys))).run P w=.ok (.bool (!decide (xs=ys))) w:=by
 have hv: ∀z,valOf P t z=.agg (ints z):=by
  intro z;unfold valOf at ha|-;split at ha
  ·cases ha
  ·rfl
 have h:=xl (P:=P) n (10000-n) t xs ys w hB hx hy;rw[hv,hv,show 10000-n+n=10000 from by omega]at h;rw[run_neq_struct,h]
 rfl
end
def JJ:(Tryz.prog.info? 46).map (·.size)=ae 8:=by kernel_rfl
@[go_sem ↓] theorem ac' (v:ao):eh 46 v=fA 46 v:=rfl
@[go_sem ↓] theorem acx (p v:ao):eZ 46 p v=dh 46 p v:=rfl
@[go_sem] theorem aax (w:ah)(g o:Nat):(fA 46 (.pointer (ae ⟨g,o,ai⟩))).run aj w=match row? w g o 8 with|some cs=>.ok (.agg cs) w|none=>(jw 46 ⟨g,o,ai⟩).run aj w:=ga w _ g o 8 _ Tryz.underlying46 rfl JJ
@[go_sem] theorem Fq (w:ah)(g o:Nat)(xs:List Int):(dh 46 (.pointer (ae ⟨g,o,ai⟩)) (.agg (ints xs))).run aj w=if fits w g o 8=aw/\xs.length=8 then .ok () (putRow w g o xs)else(en 46 g o (.agg (ints xs))).run aj w:=ib w _ g o 8 xs JJ
@[go_sem] theorem Re (w:ah)(g o:Nat)(a0 a1 a2 a3 a4 a5 a6 a7:Int):(dh 46 (.pointer (ae ⟨g,o,ai⟩)) (.agg #[.int .i64 a0,.int .i64 a1,.int .i64 a2,.int .i64 a3,.int .i64 a4,.int .i64 a5,.int .i64 a6,.int .i64 a7])).run aj w=if fits w g o 8=aw then .ok () (putRow w g o [a0,a1,a2,a3,a4,a5,a6,a7])else(en 46 g o (.agg (ints [a0,a1,a2,a3,a4,a5,a6,a7]))).run aj w:=by have h:=Fq w g o [a0,a1,a2,a3,a4,a5,a6,a7];simp only[aD,aP,Nat.reduceAdd,and_true]at h;exact h
def lR:(Tryz.prog.info? 48).map (·.size)=ae 9:=by kernel_rfl
def sf:Tryz.prog.cellsOf 48=9:=by kernel_rfl
@[go_sem ↓] theorem abB (v:ao):eh 48 v=fA 48 v:=rfl
@[go_sem ↓] theorem aaB (p v:ao):eZ 48 p v=dh 48 p v:=rfl
@[go_sem] theorem ZU (w:ah)(g o:Nat):(fA 48 (.pointer (ae ⟨g,o,ai⟩))).run aj w=match row? w g o 9 with|some cs=>.ok (.agg cs) w|none=>(jw 48 ⟨g,o,ai⟩).run aj w:=ga w _ g o 9 _ Tryz.underlying48 rfl lR
@[go_sem] theorem C9 (w:ah)(g o:Nat)(xs:List Int):(dh 48 (.pointer (ae ⟨g,o,ai⟩)) (.agg (ints xs))).run aj w=if fits w g o 9=aw/\xs.length=9 then .ok () (putRow w g o xs)else(en 48 g o (.agg (ints xs))).run aj w:=ib w _ g o 9 xs lR
@[go_sem] theorem Pm (w:ah)(g o:Nat)(a0 a1 a2 a3 a4 a5 a6 a7 a8:Int):(dh 48 (.pointer (ae ⟨g,o,ai⟩)) (.agg #[.int .i64 a0,.int .i64 a1,.int .i64 a2,.int .i64 a3,.int .i64 a4,.int .i64 a5,.int .i64 a6,.int .i64 a7,.int .i64 a8])).run aj w=if fits w g o 9=aw then .ok () (putRow w g o [a0,a1,a2,a3,a4,a5,a6,a7,a8])else(en 48 g o (.agg (ints [a0,a1,a2,a3,a4,a5,a6,a7,a8]))).run aj w:=by have h:=C9 w g o [a0,a1,a2,a3,a4,a5,a6,a7,a8];simp only[aD,aP,Nat.reduceAdd,and_true]at h;exact h
def Iw (xs ys:List Int)(hx:xs.length=9)(hy:ys.length=9)(w:ah):(binOp .eql 48 (.agg (ints xs)) (.agg (ints ys))).run aj w=.ok (.bool (decide (xs=ys))) w:=Ae 5 _ xs ys w (by decide) (by kernel_rfl) (by kernel_rfl) (by rw[sf];exact hx) (by rw[sf];exact hy)
def Jg (xs ys:List Int)(hx:xs.length=9)(hy:ys.length=9)(w:ah):(binOp .neq 48 (.agg (ints xs)) (.agg (ints ys))).run aj w=.ok (.bool (!decide (xs=ys))) w:=Af 5 _ xs ys w (by decide) (by kernel_rfl) (by kernel_rfl) (by rw[sf];exact hx) (by rw[sf];exact hy)
def E2:(Tryz.prog.info? 52).map (·.size)=ae 3:=by kernel_rfl
@[go_sem ↓] theorem abD (v:ao):eh 52 v=fA 52 v:=rfl
@[go_sem ↓] theorem aaD (p v:ao):eZ 52 p v=dh 52 p v:=rfl
@[go_sem] theorem ZW (w:ah)(g o:Nat):(fA 52 (.pointer (ae ⟨g,o,ai⟩))).run aj w=match row? w g o 3 with|some cs=>.ok (.agg cs) w|none=>(jw 52 ⟨g,o,ai⟩).run aj w:=ga w _ g o 3 _ Tryz.underlying52 rfl E2
@[go_sem] theorem Da (w:ah)(g o:Nat)(xs:List Int):(dh 52 (.pointer (ae ⟨g,o,ai⟩)) (.agg (ints xs))).run aj w=if fits w g o 3=aw/\xs.length=3 then .ok () (putRow w g o xs)else(en 52 g o (.agg (ints xs))).run aj w:=ib w _ g o 3 xs E2
@[go_sem] theorem Po (w:ah)(g o:Nat)(a0 a1 a2:Int):(dh 52 (.pointer (ae ⟨g,o,ai⟩)) (.agg #[.int .i64 a0,.int .i64 a1,.int .i64 a2])).run aj w=if fits w g o 3=aw then .ok () (putRow w g o [a0,a1,a2])else(en 52 g o (.agg (ints [a0,a1,a2]))).run aj w:=by have h:=Da w g o [a0,a1,a2];simp only[aD,aP,Nat.reduceAdd,and_true]at h;exact h
def OS:(Tryz.prog.info? 54).map (·.size)=ae 7:=by kernel_rfl
def JH:Tryz.prog.cellsOf 54=7:=by kernel_rfl
@[go_sem ↓] theorem aet (v:ao):eh 54 v=fA 54 v:=rfl
@[go_sem ↓] theorem adk (p v:ao):eZ 54 p v=dh 54 p v:=rfl
@[go_sem] theorem acg (w:ah)(g o:Nat):(fA 54 (.pointer (ae ⟨g,o,ai⟩))).run aj w=match row? w g o 7 with|some cs=>.ok (.agg cs) w|none=>(jw 54 ⟨g,o,ai⟩).run aj w:=ga w _ g o 7 _ Tryz.underlying54 rfl OS
@[go_sem] theorem Hy (w:ah)(g o:Nat)(xs:List Int):(dh 54 (.pointer (ae ⟨g,o,ai⟩)) (.agg (ints xs))).run aj w=if fits w g o 7=aw/\xs.length=7 then .ok () (putRow w g o xs)else(en 54 g o (.agg (ints xs))).run aj w:=ib w _ g o 7 xs OS
@[go_sem] theorem Td (w:ah)(g o:Nat)(a0 a1 a2 a3 a4 a5 a6:Int):(dh 54 (.pointer (ae ⟨g,o,ai⟩)) (.agg #[.int .i64 a0,.int .i64 a1,.int .i64 a2,.int .i64 a3,.int .i64 a4,.int .i64 a5,.int .i64 a6])).run aj w=if fits w g o 7=aw then .ok () (putRow w g o [a0,a1,a2,a3,a4,a5,a6])else(en 54 g o (.agg (ints [a0,a1,a2,a3,a4,a5,a6]))).run aj w:=by have h:=Hy w g o [a0,a1,a2,a3,a4,a5,a6];simp only[aD,aP,Nat.reduceAdd,and_true]at h;exact h
def eB:(Tryz.prog.info? 43).map (·.size)=ae 2:=by kernel_rfl
def zI:Tryz.prog.cellsOf 43=2:=by kernel_rfl
@[go_sem ↓] theorem aat (v:ao):eh 43 v=fA 43 v:=rfl
@[go_sem ↓] theorem Z8 (p v:ao):eZ 43 p v=dh 43 p v:=rfl
@[go_sem] theorem WB (w:ah)(g o:Nat):(fA 43 (.pointer (ae ⟨g,o,ai⟩))).run aj w=match row? w g o 2 with|some cs=>.ok (.agg cs) w|none=>(jw 43 ⟨g,o,ai⟩).run aj w:=ga w _ g o 2 _ Tryz.underlying43 rfl eB
@[go_sem] theorem Bx (w:ah)(g o:Nat)(xs:List Int):(dh 43 (.pointer (ae ⟨g,o,ai⟩)) (.agg (ints xs))).run aj w=if fits w g o 2=aw/\xs.length=2 then .ok () (putRow w g o xs)else(en 43 g o (.agg (ints xs))).run aj w:=ib w _ g o 2 xs eB
@[go_sem] theorem OB (w:ah)(g o:Nat)(a0 a1:Int):(dh 43 (.pointer (ae ⟨g,o,ai⟩)) (.agg #[.int .i64 a0,.int .i64 a1])).run aj w=if fits w g o 2=aw then .ok () (putRow w g o [a0,a1])else(en 43 g o (.agg (ints [a0,a1]))).run aj w:=by have h:=Bx w g o [a0,a1];simp only[aD,aP,Nat.reduceAdd,and_true]at h;exact h
def yv (xs ys:List Int)(hx:xs.length=2)(hy:ys.length=2)(w:ah):(binOp .eql 43 (.agg (ints xs)) (.agg (ints ys))).run aj w=.ok (.bool (decide (xs=ys))) w:=Ae 5 _ xs ys w (by decide) (by kernel_rfl) (by kernel_rfl) (by rw[zI];exact hx) (by rw[zI];exact hy)
def tY:(Tryz.prog.info? 50).map (·.size)=ae 11:=by kernel_rfl
def Jy:Tryz.prog.cellsOf 50=11:=by kernel_rfl
@[go_sem ↓] theorem aes (v:ao):eh 50 v=fA 50 v:=rfl
@[go_sem ↓] theorem adj (p v:ao):eZ 50 p v=dh 50 p v:=rfl
@[go_sem] theorem acf (w:ah)(g o:Nat):(fA 50 (.pointer (ae ⟨g,o,ai⟩))).run aj w=match row? w g o 11 with|some cs=>.ok (.agg cs) w|none=>(jw 50 ⟨g,o,ai⟩).run aj w:=ga w _ g o 11 _ Tryz.underlying50 rfl tY
@[go_sem] theorem Hx (w:ah)(g o:Nat)(xs:List Int):(dh 50 (.pointer (ae ⟨g,o,ai⟩)) (.agg (ints xs))).run aj w=if fits w g o 11=aw/\xs.length=11 then .ok () (putRow w g o xs)else(en 50 g o (.agg (ints xs))).run aj w:=ib w _ g o 11 xs tY
@[go_sem] theorem Tc (w:ah)(g o:Nat)(a0 a1 a2 a3 a4 a5 a6 a7 a8 a9 a10:Int):(dh 50 (.pointer (ae ⟨g,o,ai⟩)) (.agg #[.int .i64 a0,.int .i64 a1,.int .i64 a2,.int .i64 a3,.int .i64 a4,.int .i64 a5,.int .i64 a6,.int .i64 a7,.int .i64 a8,.int .i64 a9,.int .i64 a10])).run aj w=if fits w g o 11=aw then .ok () (putRow w g o [a0,a1,a2,a3,a4,a5,a6,a7,a8,a9,a10])else(en 50 g o (.agg (ints [a0,a1,a2,a3,a4,a5,a6,a7,a8,a9,a10]))).run aj w:=by have h:=Hx w g o [a0,a1,a2,a3,a4,a5,a6,a7,a8,a9,a10];simp only[aD,aP,Nat.reduceAdd,and_true]at h;exact h
def abL (xs ys:List Int)(hx:xs.length=11)(hy:ys.length=11)(w:ah):(binOp .neq 50 (.agg (ints xs)) (.agg (ints ys))).run aj w=.ok (.bool (!decide (xs=ys))) w:=Af 5 _ xs ys w (by decide) (by kernel_rfl) (by kernel_rfl) (by rw[Jy];exact hx) (by rw[Jy];exact hy)
def Ij:(Tryz.prog.info? 45).map (·.size)=ae 4:=by kernel_rfl
@[go_sem ↓] theorem ac8 (v:ao):eh 45 v=fA 45 v:=rfl
@[go_sem ↓] theorem acv (p v:ao):eZ 45 p v=dh 45 p v:=rfl
@[go_sem] theorem aav (w:ah)(g o:Nat):(fA 45 (.pointer (ae ⟨g,o,ai⟩))).run aj w=match row? w g o 4 with|some cs=>.ok (.agg cs) w|none=>(jw 45 ⟨g,o,ai⟩).run aj w:=ga w _ g o 4 _ Tryz.underlying45 rfl Ij
@[go_sem] theorem Fp (w:ah)(g o:Nat)(xs:List Int):(dh 45 (.pointer (ae ⟨g,o,ai⟩)) (.agg (ints xs))).run aj w=if fits w g o 4=aw/\xs.length=4 then .ok () (putRow w g o xs)else(en 45 g o (.agg (ints xs))).run aj w:=ib w _ g o 4 xs Ij
@[go_sem] theorem Rc (w:ah)(g o:Nat)(a0 a1 a2 a3:Int):(dh 45 (.pointer (ae ⟨g,o,ai⟩)) (.agg #[.int .i64 a0,.int .i64 a1,.int .i64 a2,.int .i64 a3])).run aj w=if fits w g o 4=aw then .ok () (putRow w g o [a0,a1,a2,a3])else(en 45 g o (.agg (ints [a0,a1,a2,a3]))).run aj w:=by have h:=Fp w g o [a0,a1,a2,a3];simp only[aD,aP,Nat.reduceAdd,and_true]at h;exact h
def B9:(Tryz.prog.info? 149).map (·.size)=ae 20:=by kernel_rfl
@[go_sem ↓] theorem aas (v:ao):eh 149 v=fA 149 v:=rfl
@[go_sem ↓] theorem Z7 (p v:ao):eZ 149 p v=dh 149 p v:=rfl
@[go_sem] theorem WA (w:ah)(g o:Nat):(fA 149 (.pointer (ae ⟨g,o,ai⟩))).run aj w=match row? w g o 20 with|some cs=>.ok (.agg cs) w|none=>(jw 149 ⟨g,o,ai⟩).run aj w:=ga w _ g o 20 _ Tryz.underlying149 rfl B9
@[go_sem] theorem Bw (w:ah)(g o:Nat)(xs:List Int):(dh 149 (.pointer (ae ⟨g,o,ai⟩)) (.agg (ints xs))).run aj w=if fits w g o 20=aw/\xs.length=20 then .ok () (putRow w g o xs)else(en 149 g o (.agg (ints xs))).run aj w:=ib w _ g o 20 xs B9
@[go_sem] theorem OA (w:ah)(g o:Nat)(a0 a1 a2 a3 a4 a5 a6 a7 a8 a9 a10 a11 a12 a13 a14 a15 a16 a17 a18 a19:Int):(dh 149 (.pointer (ae ⟨g,o,ai⟩)) (.agg #[.int .i64 a0,.int .i64 a1,.int .i64 a2,.int .i64 a3,.int .i64 a4,.int .i64 a5,.int .i64 a6,.int .i64 a7,.int .i64 a8,.int .i64 a9,.int .i64 a10,.int .i64 a11,.int .i64 a12,.int .i64 a13,.int .i64 a14,.int .i64 a15,.int .i64 a16,.int .i64 a17,.int .i64 a18,.int .i64 a19])).run aj w=if fits w g o 20=aw then .ok () (putRow w g o [a0,a1,a2,a3,a4,a5,a6,a7,a8,a9,a10,a11,a12,a13,a14,a15,a16,a17,a18,a19])else(en 149 g o (.agg (ints [a0,a1,a2,a3,a4,a5,a6,a7,a8,a9,a10,a11,a12,a13,a14,a15,a16,a17,a18,a19]))).run aj w:=by have h:=Bw w g o [a0,a1,a2,a3,a4,a5,a6,a7,a8,a9,a10,a11,a12,a13,a14,a15,a16,a17,a18,a19];simp only[aD,aP,Nat.reduceAdd,and_true]at h;exact h
def SR:(Tryz.prog.info? 74).map (·.size)=ae 16:=by kernel_rfl
def NT:Tryz.prog.cellsOf 74=16:=by kernel_rfl
@[go_sem ↓] theorem afg (v:ao):eh 74 v=fA 74 v:=rfl
@[go_sem ↓] theorem aeS (p v:ao):eZ 74 p v=dh 74 p v:=rfl
@[go_sem] theorem adh (w:ah)(g o:Nat):(fA 74 (.pointer (ae ⟨g,o,ai⟩))).run aj w=match row? w g o 16 with|some cs=>.ok (.agg cs) w|none=>(jw 74 ⟨g,o,ai⟩).run aj w:=ga w _ g o 16 _ Tryz.underlying74 rfl SR
@[go_sem] theorem Li (w:ah)(g o:Nat)(xs:List Int):(dh 74 (.pointer (ae ⟨g,o,ai⟩)) (.agg (ints xs))).run aj w=if fits w g o 16=aw/\xs.length=16 then .ok () (putRow w g o xs)else(en 74 g o (.agg (ints xs))).run aj w:=ib w _ g o 16 xs SR
@[go_sem] theorem Vq (w:ah)(g o:Nat)(a0 a1 a2 a3 a4 a5 a6 a7 a8 a9 a10 a11 a12 a13 a14 a15:Int):(dh 74 (.pointer (ae ⟨g,o,ai⟩)) (.agg #[.int .i64 a0,.int .i64 a1,.int .i64 a2,.int .i64 a3,.int .i64 a4,.int .i64 a5,.int .i64 a6,.int .i64 a7,.int .i64 a8,.int .i64 a9,.int .i64 a10,.int .i64 a11,.int .i64 a12,.int .i64 a13,.int .i64 a14,.int .i64 a15])).run aj w=if fits w g o 16=aw then .ok () (putRow w g o [a0,a1,a2,a3,a4,a5,a6,a7,a8,a9,a10,a11,a12,a13,a14,a15])else(en 74 g o (.agg (ints [a0,a1,a2,a3,a4,a5,a6,a7,a8,a9,a10,a11,a12,a13,a14,a15]))).run aj w:=by have h:=Li w g o [a0,a1,a2,a3,a4,a5,a6,a7,a8,a9,a10,a11,a12,a13,a14,a15];simp only[aD,aP,Nat.reduceAdd,and_true]at h;exact h
def E0:(Tryz.prog.info? 132).map (·.size)=ae 2:=by kernel_rfl
@[go_sem ↓] theorem abC (v:ao):eh 132 v=fA 132 v:=rfl
@[go_sem ↓] theorem aaC (p v:ao):eZ 132 p v=dh 132 p v:=rfl
@[go_sem] theorem ZV (w:ah)(g o:Nat):(fA 132 (.pointer (ae ⟨g,o,ai⟩))).run aj w=match row? w g o 2 with|some cs=>.ok (.agg cs) w|none=>(jw 132 ⟨g,o,ai⟩).run aj w:=ga w _ g o 2 _ Tryz.underlying132 rfl E0
@[go_sem] theorem C' (w:ah)(g o:Nat)(xs:List Int):(dh 132 (.pointer (ae ⟨g,o,ai⟩)) (.agg (ints xs))).run aj w=if fits w g o 2=aw/\xs.length=2 then .ok () (putRow w g o xs)else(en 132 g o (.agg (ints xs))).run aj w:=ib w _ g o 2 xs E0
@[go_sem] theorem Pn (w:ah)(g o:Nat)(a0 a1:Int):(dh 132 (.pointer (ae ⟨g,o,ai⟩)) (.agg #[.int .i64 a0,.int .i64 a1])).run aj w=if fits w g o 2=aw then .ok () (putRow w g o [a0,a1])else(en 132 g o (.agg (ints [a0,a1]))).run aj w:=by have h:=C' w g o [a0,a1];simp only[aD,aP,Nat.reduceAdd,and_true]at h;exact h
def Ql (xs:List Int)(k:Nat)(hk:k<8)(hx:xs.length=8)(w:ah):(Instr.index 46 (.agg (ints xs)) (.int .i64 (k:Int))).run aj w=.ok (.int .i64 (xs.getD k 0)) w:=by
 have h:(ints xs)[k]? =ae (.int .i64 (xs.getD k 0)):=by rw[ints_at (by omega)];simp[bB,aq (show k<xs.length by omega)]
 have hs:(sizeOf 3).run aj w=.ok 1 w:=by kernel_rfl
 have hp:(part 3 (ints xs) k).run aj w=.ok (.int .i64 (xs.getD k 0)) w:=by
  have ha:(isAgg 3).run aj w=.ok ay w:=by kernel_rfl
  simp[part,eH,ha,h]
 unfold Instr.index;simp only[asIntOf,eH,Sem.run_pure,ij,run_underlying Tryz.underlying46];rw[if_pos (by omega)];simp only[eH,hs,ij,fw,Nat.mul_one,hp]
def Sh: ∀(cs:List ao) (off j:Nat) (base:Array ao),off+j+cs.length<=base.size->((cs.zipIdx j).foldl (λ(acc:Array ao) (x:ao×Nat)=>acc.setIfInBounds (off+x.2) x.1) base).toList=base.toList.take (off+j)++cs++base.toList.drop (off+j+cs.length)
 | [],off,j,base,_=>by simp
 |c::cs,off,j,base,h=>by
  rw[List.zipIdx_cons,l9];rw[aD]at h;rw[Sh cs off (j+1) _ (by simp;omega)];simp only[Array.toList_setIfInBounds];have hl:(base.toList.take (off+j)).length=off+j:=by rw[cK];simp;omega
  have hd:base.toList=base.toList.take (off+j)++base.toList[off+j]'(by simp;omega)::base.toList.drop (off+j+1):=by rw[<-List.drop_eq_getElem_cons,List.take_append_drop]
  have e1:(base.toList.set (off+j) c)=base.toList.take (off+j)++c::base.toList.drop (off+j+1):=by
   conv=>lhs;rw[hd]
   rw[oA _ _ (by omega),hl,Nat.sub_self,List.set_cons_zero]
  rw[e1];have e2:(base.toList.take (off+j)++c::base.toList.drop (off+j+1)).take (off+(j+1))=base.toList.take (off+j)++[c]:=by rw[List.take_append,hl,ck (by omega),show off+(j+1)-(off+j)=1 from by omega];rfl
  have e3:(base.toList.take (off+j)++c::base.toList.drop (off+j+1)).drop (off+(j+1)+cs.length)=base.toList.drop (off+j+(cs.length+1)):=by rw[qd,hl,iU (by omega),cy,show off+(j+1)+cs.length-(off+j)=cs.length+1 from by omega,mZ,List.drop_drop];congr 1;omega
  rw[e2,e3,aD,cx,cx,cx]
  rfl
def uH (cs base:Array ao)(off:Nat)(h:off+cs.size<=base.size):(cs.zipIdx.foldl (λacc (c,j)=>acc.setIfInBounds (off+j) c) base)=(base.toList.take off++cs.toList++base.toList.drop (off+cs.size)).toArray:=by apply oz;rw[<-Array.foldl_toList,Array.toList_zipIdx];have:=Sh cs.toList off 0 base (by simpa using h);simpa using this
def qD (place:Nat->Option (Nat×Nat))(z a:Array ao)(i off m:Nat)(rest:List (Nat×ao))(hp:place i=ae (off,m))(ha:a.size=m)(hz:off+m<=z.size):fI place z ((i,.agg a)::rest)=fI place (a.zipIdx.foldl (λacc (c,j)=>acc.setIfInBounds (off+j) c) z) rest:=by
 rw[fI,hp];have h1:(decide ((Value.agg a).cells.size≠m)||decide (off+(Value.agg a).cells.size>z.size))=ay:=by show(decide (a.size≠m)||decide (off+a.size>z.size))=ay;simp;omega
 simp only[h1]
 rfl
def kz (t:aA)(parts:Array (Nat×ao)):Sem ao:=gh t 1 parts
def qI (t:aA)(cs:Array ao):Sem ao:=gh t 1 #[(0,.agg cs)]
def mE {P:aS}(w:ah)(t e:aA)(n:Nat)(z cs:Array ao)(hu:P.underlying t=ae (.slice e))(hs:(sizeOf e).run P w=.ok n w)(hz:(zeroValue e).run P w=.ok (.agg z) w)(hzn:z.size=n)(hn:0<n)(hn2:n<=1000):(kz t #[(0,.agg cs)]).run P w=if cs.size=n then .ok (.slice (ae ⟨w.heap.size,0,ai⟩) 1 1) (w.alloc (.cells cs e))else(qI t cs).run P w:=by
 split
 ·rename_i hc
  have hb:((rW (1*n)).map (z[· % z.size]!)).size=n:=by simp
  have hf:fI (λi=>ae (i*n,n)) ((rW (1*n)).map (z[· % z.size]!)) [(0,Value.agg cs)]=ae cs:=by rw[qD (λi=>ae (i*n,n)) _ cs 0 (0*n) n [] rfl hc (by rw[hb];omega),fI,Nat.zero_mul,uH cs _ 0 (by rw[hb];omega)];congr 1;apply oz;simp[hc]
  unfold kz gh;have h1: ¬(1*n>2^24):=by omega
  have h2: ¬(1*n=0):=by omega
  simp only[eH,run_underlying hu,ij,hs,if_neg h1,if_neg h2,hz,Sem.run_pure,iQ,List.getElem_toArray];have hf':fI (λi=>ae (i*n,n)) ((rW (1*n)).map (z[· % z.size]!)) #[(0,Value.agg cs)].toList=ae cs:=hf;simp only[hf',eH,newRow]
  rfl
 ·rfl
@[go_sem ↓] theorem afi (parts:Array (Nat×ao)):gh 33 1 parts=kz 33 parts:=rfl
@[go_sem] theorem aay (w:ah)(cs:Array ao):(kz 33 #[(0,.agg cs)]).run aj w=if cs.size=11 then .ok (.slice (ae ⟨w.heap.size,0,ai⟩) 1 1) (w.alloc (.cells cs 50))else(qI 33 cs).run aj w:=mE w _ _ 11 (bW 11 (aF .i64 0)).toArray cs Tryz.underlying33 (by kernel_rfl) (by kernel_rfl) rfl (by decide) (by decide)
@[go_sem ↓] theorem aeQ (parts:Array (Nat×ao)):gh 34 1 parts=kz 34 parts:=rfl
@[go_sem] theorem ZY (w:ah)(cs:Array ao):(kz 34 #[(0,.agg cs)]).run aj w=if cs.size=4 then .ok (.slice (ae ⟨w.heap.size,0,ai⟩) 1 1) (w.alloc (.cells cs 45))else(qI 34 cs).run aj w:=mE w _ _ 4 (bW 4 (aF .i64 0)).toArray cs Tryz.underlying34 (by kernel_rfl) (by kernel_rfl) rfl (by decide) (by decide)
@[go_sem ↓] theorem acp (parts:Array (Nat×ao)):gh 85 1 parts=kz 85 parts:=rfl
@[go_sem] theorem Vo (w:ah)(cs:Array ao):(kz 85 #[(0,.agg cs)]).run aj w=if cs.size=20 then .ok (.slice (ae ⟨w.heap.size,0,ai⟩) 1 1) (w.alloc (.cells cs 149))else(qI 85 cs).run aj w:=mE w _ _ 20 (bW 20 (aF .i64 0)).toArray cs Tryz.underlying85 (by kernel_rfl) (by kernel_rfl) rfl (by decide) (by decide)
@[go_sem ↓] theorem acr (parts:Array (Nat×ao)):gh 122 1 parts=kz 122 parts:=rfl
@[go_sem] theorem Vp (w:ah)(cs:Array ao):(kz 122 #[(0,.agg cs)]).run aj w=if cs.size=2 then .ok (.slice (ae ⟨w.heap.size,0,ai⟩) 1 1) (w.alloc (.cells cs 43))else(qI 122 cs).run aj w:=mE w _ _ 2 (bW 2 (aF .i64 0)).toArray cs Tryz.underlying122 (by kernel_rfl) (by kernel_rfl) rfl (by decide) (by decide)
@[go_sem] theorem ac7 (xs ys:List Int):ints xs++ints ys=ints (xs++ys):=by unfold ints;simp
def agH (z a c:Array ao)(m n:Nat)(hz:z.size=m+n)(ha:a.size=m)(hc:c.size=n)(place:Nat->Option (Nat×Nat))(h0:place 0=ae (0,m))(h1:place 1=ae (m,n)):fI place z [(0,.agg a),(1,.agg c)]=ae (a++c):=by
 rw[qD place z a 0 0 m _ h0 ha (by omega)];have hs:(a.zipIdx.foldl (λacc (c,j)=>acc.setIfInBounds (0+j) c) z).size=m+n:=by rw[uH a z 0 (by omega)];simp;omega
 rw[qD place _ c 1 m n _ h1 hc (by rw[hs];omega),fI,uH c _ m (by rw[hs];omega),uH a z 0 (by omega)];congr 1;apply oz;simp only[List.take_zero,cy,bS,Array.toList_append];have Kt:a.toList.length=m:=by simpa using ha
 have hzl:(z.toList.drop a.size).length=n:=by rw[List.length_drop];simp;omega
 rw[List.take_left' Kt,iU (by rw[aZ,Kt,hzl];omega),ew]
def agI (z a c d:Array ao)(m n q:Nat)(hz:z.size=m+n+q)(ha:a.size=m)(hc:c.size=n)(hd:d.size=q)(place:Nat->Option (Nat×Nat))(h0:place 0=ae (0,m))(h1:place 1=ae (m,n))(h2:place 2=ae (m+n,q)):fI place z [(0,.agg a),(1,.agg c),(2,.agg d)]=ae (a++c++d):=by
 rw[qD place z a 0 0 m _ h0 ha (by omega)];have hs:(a.zipIdx.foldl (λacc (c,j)=>acc.setIfInBounds (0+j) c) z)=(a.toList++z.toList.drop m).toArray:=by rw[uH a z 0 (by omega)];simp[ha]
 rw[hs,qD place _ c 1 m n _ h1 hc (by simp;omega)];have tF:(c.zipIdx.foldl (λacc (c,j)=>acc.setIfInBounds (m+j) c) (a.toList++z.toList.drop m).toArray)=(a.toList++c.toList++z.toList.drop (m+n)).toArray:=by
  rw[uH c _ m (by simp;omega)];have Kt:a.toList.length=m:=by simpa using ha
  simp only[List.toList_toArray];rw[List.take_left' Kt,qd,iU (by omega),cy,Kt,List.drop_drop,hc];congr 3;omega
 rw[tF,qD place _ d 2 (m+n) q _ h2 hd (by simp;omega),fI,uH d _ (m+n) (by simp;omega)];congr 1;apply oz;have Kt:(a.toList++c.toList).length=m+n:=by simp;omega
 have hzl:(z.toList.drop (m+n)).length=q:=by rw[List.length_drop];simp;omega
 simp only[Array.toList_append,List.toList_toArray];rw[List.take_left' Kt,iU (by rw[aZ,Kt,hzl];omega),ew]
def ky (t:aA)(parts:Array (Nat×ao)):Sem ao:=Instr.build t parts
def ub (t:aA)(parts:Array (Nat×ao)):Sem ao:=Instr.build t parts
def yf {P:aS}(w:ah)(t:aA)(m n:Nat)(z a c:Array ao)(f1 f2:Field)(hu:P.underlying t=ae (.struct #[f1,f2]))(h1:(sizeOf f1.type).run P w=.ok m w)(h2:(sizeOf f2.type).run P w=.ok n w)(o1:f1.offset=0)(o2:f2.offset=m)(hz:(zeroValue t).run P w=.ok (.agg z) w)(hzn:z.size=m+n):(ky t #[(0,.agg a),(1,.agg c)]).run P w=if a.size=m/\c.size=n then .ok (.agg (a++c)) w else(ub t #[(0,.agg a),(1,.agg c)]).run P w:=by
 split
 ·rename_i h
  unfold ky Instr.build;simp[eH,hz,run_underlying hu,h1,h2,iQ,o1,o2];have:=agH z a c m n hzn h.1 h.2 (λi=>[(0,m),(m,n)][i]?) rfl rfl;rw[this]
  rfl
 ·rfl
def Hw {P:aS}(w:ah)(t:aA)(m n q:Nat)(z a c d:Array ao)(f1 f2 f3:Field)(hu:P.underlying t=ae (.struct #[f1,f2,f3]))(h1:(sizeOf f1.type).run P w=.ok m w)(h2:(sizeOf f2.type).run P w=.ok n w)(h3:(sizeOf f3.type).run P w=.ok q w)(o1:f1.offset=0)(o2:f2.offset=m)(o3:f3.offset=m+n)(hz:(zeroValue t).run P w=.ok (.agg z) w)(hzn:z.size=m+n+q):(ky t #[(0,.agg a),(1,.agg c),(2,.agg d)]).run P w=if a.size=m/\c.size=n/\d.size=q then .ok (.agg (a++c++d)) w else(ub t #[(0,.agg a),(1,.agg c),(2,.agg d)]).run P w:=by
 split
 ·rename_i h
  unfold ky Instr.build;simp[eH,hz,run_underlying hu,h1,h2,h3,iQ,o1,o2,o3];have:=agI z a c d m n q hzn h.1 h.2.1 h.2.2 (λi=>[(0,m),(m,n),(m+n,q)][i]?) rfl rfl rfl;rw[this];simp
 ·rfl
@[go_sem ↓] theorem afe (parts:Array (Nat×ao)):Instr.build 50 parts=ky 50 parts:=rfl
@[go_sem] theorem ZR (w:ah):(ky 50 #[]).run aj w=.ok (.agg (ints [0,0,0,0,0,0,0,0,0,0,0])) w:=by kernel_rfl
@[go_sem] theorem aau (w:ah)(a c:Array ao):(ky 50 #[(0,.agg a),(1,.agg c)]).run aj w=if a.size=2/\c.size=9 then .ok (.agg (a++c)) w else(ub 50 #[(0,.agg a),(1,.agg c)]).run aj w:=yf w _ 2 9 (bW 11 (aF .i64 0)).toArray a c _ _ Tryz.underlying50 (by kernel_rfl) (by kernel_rfl) rfl rfl (by kernel_rfl) rfl
@[go_sem ↓] theorem adK (parts:Array (Nat×ao)):Instr.build 45 parts=ky 45 parts:=rfl
@[go_sem] theorem Wz (w:ah):(ky 45 #[]).run aj w=.ok (.agg (ints [0,0,0,0])) w:=by kernel_rfl
@[go_sem] theorem ZT (w:ah)(a c:Array ao):(ky 45 #[(0,.agg a),(1,.agg c)]).run aj w=if a.size=2/\c.size=2 then .ok (.agg (a++c)) w else(ub 45 #[(0,.agg a),(1,.agg c)]).run aj w:=yf w _ 2 2 (bW 4 (aF .i64 0)).toArray a c _ _ Tryz.underlying45 (by kernel_rfl) (by kernel_rfl) rfl rfl (by kernel_rfl) rfl
@[go_sem ↓] theorem aaU (parts:Array (Nat×ao)):Instr.build 149 parts=ky 149 parts:=rfl
@[go_sem] theorem Ta (w:ah):(ky 149 #[]).run aj w=.ok (.agg (ints [0,0,0,0,0,0,0,0,0,0,0,0,0,0,0,0,0,0,0,0])) w:=by kernel_rfl
@[go_sem] theorem Vm (w:ah)(a c d:Array ao):(ky 149 #[(0,.agg a),(1,.agg c),(2,.agg d)]).run aj w=if a.size=2/\c.size=9/\d.size=9 then .ok (.agg (a++c++d)) w else(ub 149 #[(0,.agg a),(1,.agg c),(2,.agg d)]).run aj w:=Hw w _ 2 9 9 (bW 20 (aF .i64 0)).toArray a c d _ _ _ Tryz.underlying149 (by kernel_rfl) (by kernel_rfl) (by kernel_rfl) rfl rfl rfl (by kernel_rfl) rfl
@[go_sem] theorem afh (w:ah)(k g o n:Nat):row? (w.drewN k) g o n=row? w g o n:=rfl
@[go_sem] theorem adT (w:ah)(k g o n:Nat):Go.Proofs.YtknejlcijdngoaaGreat.fits (w.drewN k) g o n=Go.Proofs.YtknejlcijdngoaaGreat.fits w g o n:=rfl
@[go_sem] theorem ade (a b:Int)(xs:List Int):(#[aF .i64 a,.int .i64 b]:Array ao)++ints xs=ints (a::b::xs):=by unfold ints;apply oz;simp
def fi (w:ah)(B size:Nat)(A:Option Addr)(rs:List (List Int)):Prop:=(∀r∈rs,r.length=size)/\(0<rs.length-> ∃b o,A=ae ⟨b,o,ai⟩/\b<B/\ ∀k r,rs[k]? =ae r->row? w b (o+k*size) size=ae (ints r))
def kB {w w':ah}{B g:Nat}(hb:Below B w w')(hg:g<B)(o n:Nat):row? w' g o n=row? w g o n:=by unfold row?;rw[hb.block g hg]
def fi.below {w w':ah}{B size:Nat}{A:Option Addr}{rs:List (List Int)}(h:fi w B size A rs)(hb:Below B w w'):fi w' B size A rs:=⟨h.1,λh0=>by obtain⟨b,o,e,bJ,hc⟩:=h.2 h0;exact⟨b,o,e,bJ,λk r hr=>(kB hb bJ _ _).trans (hc k r hr)⟩⟩
def fi.more {w:ah}{B B' size:Nat}{A:Option Addr}{rs:List (List Int)}(h:fi w B size A rs)(hB:B<=B'):fi w B' size A rs:=⟨h.1,λh0=>by obtain⟨b,o,e,bJ,hc⟩:=h.2 h0;exact⟨b,o,e,by omega,hc⟩⟩
def fi.at_ {w:ah}{B size:Nat}{A:Option Addr}{rs:List (List Int)}(h:fi w B size A rs){k:Nat}(hk:k<rs.length): ∃b o,A=ae ⟨b,o,ai⟩/\b<B/\row? w b (o+k*size) size=ae (ints rs[k]):=by obtain⟨b,o,e,bJ,hc⟩:=h.2 (by omega);exact⟨b,o,e,bJ,hc k _ (aq hk)⟩
def lI (size:Nat)(xs:List Int)(n:Nat):List (List Int):=(bP n).map λk=>(xs.drop (k*size)).take size
def lS (size:Nat)(xs:List Int)(n:Nat):(lI size xs n).length=n:=by simp[lI]
def qq {size:Nat}{xs:List Int}{n:Nat}(h:xs.length=n*size): ∀r∈lI size xs n,r.length=size:=by intro r hr;obtain⟨k,hk,rfl⟩:=aH.1 hr;have Cg:k+1<=n:=ng.1 hk;have:=fC size Cg;rw[gY,jE]at this;rw[cK,List.length_drop];omega
def Cd {size:Nat}{xs:List Int}{n:Nat}: ∀r∈lI size xs n,∀x∈r,x∈xs:=by intro r hr x hx;obtain⟨k,_,rfl⟩:=aH.1 hr;exact List.mem_of_mem_drop (pN hx)
def Lf {w:ah}{b o n:Nat}{r:List Int}(hr:r.length=n)(hn:0<n)(h: ∀j x,r[j]? =ae x->w.cell? ⟨b,o+j,ai⟩=ae (.int .i64 x)):row? w b o n=ae (ints r):=by
 have h0:=h (n-1) _ (aq (by omega));unfold c8 at h0;unfold row?
 split at h0
 ·rename_i cs t fr hg
  simp only at hg;rw[hg];simp only at h0|-;have kJ:=(aI.1 h0).1;rw[if_pos (by omega)];congr 1;apply Array.ext
  ·simp[bD];omega
  ·intro i h1 h2;rw[bD]at h2;have:=h i _ (aq h2);rw[cell_of_row w b (o+i) cs t fr hg]at this;obtain⟨h3,h4⟩:=aI.1 this;simp[ints,h4]
 ·cases h0
def Reads.chunks {w:ah}{B size:Nat}{A:Option Addr}{n:Nat}{xs:List Int}(h:Reads w B size A n (xs.map (aF .i64)))(hs:0<size):fi w B size A (lI size xs n):=by
 have hl:xs.length=n*size:=by have:=h.1;simpa using this
 refine⟨qq hl,λh0=> ?_⟩;rw[lS]at h0;obtain⟨b,o,e,hb,hc⟩:=h.2 h0;refine⟨b,o,e,hb,λk r hr=> ?_⟩;have hk:k<n:=by have:=(bz.1 hr).1;rwa[lS]at this
 have jB:=qq hl r (pM hr);refine Lf jB hs λj x hx=> ?_
 have Av:(xs.drop (k*size)).take size=r:=by simpa[lI,hk]using hr
 rw[<-Av,ie]at hx
 split at hx
 ·rw[List.getElem?_drop]at hx;have:=hc (k*size+j) (.int .i64 x) (by rw[dN,hx];rfl);rwa[sZ]
 ·cases hx
def oa (xs ys:List (List Int)):Bool:=decide (xs=ys)
def Hv (n:Nat)(hn:n<=1000000)(w:ah):(Instr.makeSlice 32 (.int .i64 (n:Int)) (.int .i64 (n:Int))).run aj w=.ok (.slice (ae ⟨w.heap.size,0,ai⟩) n n) (w.alloc (.cells (ints (bW n 0)) 3)):=by
 obtain⟨i,hi,hz,hs,M3⟩: ∃i,Tryz.prog.info? 3=ae i/\i.zero=ae (.int .i64 0)/\i.size=1/\i.bytes=8:=by
  have:=Nt;cases h:Tryz.prog.info? 3 with
  |none=>rw[h]at this;cases this
  |some i=>rw[h]at this;simp at this;exact⟨i,rfl,this⟩
 rw[run_make w _ _ i _ Tryz.underlying32 hi hz .i64 .i64 n n (by omega) (by omega) (by rw[M3];omega) (by omega)];congr 2;have:=toList_madeCells_one (.int .i64 0) ((n:Int).toNat*i.size);congr 1;apply oz;rw[ja,show(aF .i64 0).cells= #[.int .i64 0]from rfl,this,hs];simp
def ql.EP {w:ah}{B g:Nat}{zs:List Int}(h:dt w g 3 (ints zs))(hB:B<=g)(hn:zs.length<=maxLen):ql w B (.slice (ae ⟨g,0,ai⟩) zs.length zs.length) zs:=⟨by simp,bO ⟨g,zs.length,ints zs,rfl,hB,h,ax _,hn,by simp[bD],by rw[ja];exact ck (by simp)⟩⟩
def dB:Sys:=⟨⟨0,0,0⟩,0,0,0,0⟩
def vi (w:ah)(B:Nat)(A:Option Addr)(ss:List Sys):Prop:=fi w B 7 A (ss.map Sys.list)
def vi.at_ {w:ah}{B:Nat}{A:Option Addr}{ss:List Sys}(h:vi w B A ss){k:Nat}(hk:k<ss.length): ∃b o,A=ae ⟨b,o,ai⟩/\b<B/\row? w b (o+k*7) 7=ae (ints (ss.getD k dB).list):=by obtain⟨b,o,e,bJ,hr⟩:=fi.at_ h (k:=k) (by simpa using hk);refine⟨b,o,e,bJ,?_⟩;rw[hr,List.getElem_map];simp[bB,aq hk]
def vi.below {w w':ah}{B:Nat}{A:Option Addr}{ss:List Sys}(h:vi w B A ss)(hb:Below B w w'):vi w' B A ss:=fi.below h hb
def aai (r:List Int):Sys:=⟨⟨r.getD 0 0,r.getD 1 0,r.getD 2 0⟩,r.getD 3 0,r.getD 4 0,r.getD 5 0,r.getD 6 0⟩
def FB {r:List Int}(h:r.length=7):(aai r).list=r:=by
 match r,h with
 | [_,_,_,_,_,_,_],_=>rfl
def gU (ss:List Sys)(p:List Int)(s:Sys):Nat->Int
 |0=>0
 |k+1=>if gQ s (ss.getD k dB)then max (gU ss p s k) (p.getD k 0+1)else gU ss p s k
def cA (ss:List Sys):Nat->List Int
 |0=>[]
 |i+1=>cA ss i++[gU ss (cA ss i) (ss.getD i dB) i]
def eF (ss:List Sys):List Int×Int:=if 20<ss.length then([],2)else if iM (ss.map fa)=0 then(cA ss ss.length,0)else([],iM (ss.map fa))
def fc (ss:List Sys): ∀i,(cA ss i).length=i
 |0=>rfl
 |i+1=>by simp[cA,fc ss i]
def zU {ss:List Sys}{p q:List Int}{s:Sys}: ∀i,(∀k,k<i->p.getD k 0=q.getD k 0)->gU ss p s i=gU ss q s i
 |0,_=>rfl
 |i+1,h=>by unfold gU;rw[zU i λk hk=>h k (by omega),h i (by omega)]
def Bo (ss:List Sys): ∀n i,i<=n-> ∀k,k<i->(cA ss n).getD k 0=(cA ss i).getD k 0
 |0,i,h,k,hk=>by omega
 |n+1,i,h,k,hk=>by
  by_cases hi:i=n+1
  ·rw[hi]
  ·rw[<-Bo ss n i (by omega) k hk];simp only[cA,bB,List.getElem?_append];rw[if_pos (by rw[fc];omega)]
def zV (ss:List Sys)(n i:Nat)(h:i<n):(cA ss n).getD i 0=gU ss (cA ss n) (ss.getD i dB) i:=by
 rw[Bo ss n (i+1) (by omega) i (by omega)];have:(cA ss (i+1)).getD i 0=gU ss (cA ss i) (ss.getD i dB) i:=by simp[cA,bB,List.getElem?_append,fc]
 rw[this];exact zU i λk hk=>(Bo ss n i (by omega) k hk).symm
def Bn {ss:List Sys}{p:List Int}{s:Sys}: ∀i,0<=gU ss p s i/\ ∀k,k<i->gQ s (ss.getD k dB)=aw->p.getD k 0+1<=gU ss p s i
 |0=>⟨by simp[gU],λk hk=>by omega⟩
 |i+1=>by
  obtain⟨h1,h2⟩:=Bn (ss:=ss) (p:=p) (s:=s) i;unfold gU
  split
  ·refine⟨by omega,λk hk hc=> ?_⟩;by_cases hi:k=i
   ·subst hi;omega
   ·have:=h2 k (by omega) hc;omega
  ·rename_i hn
   refine⟨h1,λk hk hc=> ?_⟩;by_cases hi:k=i
   ·subst hi;exact absurd hc hn
   ·exact h2 k (by omega) hc
def xD {ss:List Sys}{p:List Int}{s:Sys}: ∀i,gU ss p s i=0\/ ∃k,k<i/\gQ s (ss.getD k dB)=aw/\gU ss p s i=p.getD k 0+1
 |0=>bm rfl
 |i+1=>by
  have ih:=xD (ss:=ss) (p:=p) (s:=s) i;unfold gU
  split
  ·rename_i hc
   by_cases hm:gU ss p s i<=p.getD i 0+1
   ·exact bO ⟨i,by omega,hc,by omega⟩
   ·rcases ih with h|⟨k,hk,h1,h2⟩
    ·rw[h]at hm|-;exact bm (by omega)
    ·exact bO ⟨k,by omega,h1,by omega⟩
  ·rcases ih with h|⟨k,hk,h1,h2⟩
   ·exact bm h
   ·exact bO ⟨k,by omega,h1,h2⟩
def Ds (ss:List Sys)(n:Nat): ∀i,i<n->0<=(cA ss n).getD i 0/\(cA ss n).getD i 0<=i:=by
 intro i
 induction i using mQ with
 |ind i ih=>
  intro hi;rw[zV ss n i hi];refine⟨(Bn i).1,?_⟩;rcases xD (ss:=ss) (p:=cA ss n) (s:=ss.getD i dB) i with h|⟨k,hk,_,h⟩
  ·omega
  ·have:=(ih k hk (by omega)).2;omega
def EN (ss:List Sys)(p:List Int)(i:Nat):Nat->Bool
 |0=>p.getD i 0==0
 |k+1=>EN ss p i k||(gQ (ss.getD k dB) (ss.getD i dB)&&p.getD k 0==p.getD i 0-1)
def Bf {ss:List Sys}{p:List Int}{i:Nat}: ∀k,(p.getD i 0=0\/ ∃j,j<k/\gQ (ss.getD j dB) (ss.getD i dB)=aw/\p.getD j 0=p.getD i 0-1)->EN ss p i k=aw
 |0,h=>by
  rcases h with h|⟨j,hj,_⟩
  ·simp only[EN,h];rfl
  ·omega
 |k+1,h=>by
  unfold EN;rcases h with h|⟨j,hj,h1,h2⟩
  ·rw[Bf k (bm h),Bool.true_or]
  ·by_cases yy:j=k
   ·subst yy;rw[h1,h2];simp
   ·rw[Bf k (bO ⟨j,by omega,h1,h2⟩),Bool.true_or]
def NZ (ss:List Sys)(hs: ∀s∈ss,fa s=0)(yA: ∀s:Sys,fa s=0->cY s.read=aw/\cY s.write=aw)(i:Nat)(hi:i<ss.length):(∀k,k<i->gQ (ss.getD k dB) (ss.getD i dB)=aw->(cA ss ss.length).getD k 0<(cA ss ss.length).getD i 0)/\EN ss (cA ss ss.length) i i=aw/\(∀k,k<ss.length->k≠i->(cA ss ss.length).getD k 0=(cA ss ss.length).getD i 0->gQ (ss.getD k dB) (ss.getD i dB)=ay):=by
 have jB: ∀k,k<ss.length->ss.getD k dB∈ss:=λk hk=>by simp[bB,aq hk]
 have cw: ∀j k,j<ss.length->k<ss.length->gQ (ss.getD j dB) (ss.getD k dB)=gQ (ss.getD k dB) (ss.getD j dB):=by intro j k hj hk;obtain⟨a1,a2⟩:=yA _ (hs _ (jB j hj));obtain⟨b1,b2⟩:=yA _ (hs _ (jB k hk));exact PO b1 b2 a1 a2
 have bJ: ∀i,i<ss.length-> ∀k,k<i->gQ (ss.getD k dB) (ss.getD i dB)=aw->(cA ss ss.length).getD k 0<(cA ss ss.length).getD i 0:=by intro i hi k hk hc;rw[zV ss ss.length i hi];have:=(Bn (ss:=ss) (p:=cA ss ss.length) (s:=ss.getD i dB) i).2 k hk (by rw[cw i k hi (by omega)];exact hc);omega
 refine⟨bJ i hi,Bf i ?_,?_⟩
 ·have e:=zV ss ss.length i hi;rcases xD (ss:=ss) (p:=cA ss ss.length) (s:=ss.getD i dB) i with h|⟨k,hk,h1,h2⟩
  ·exact bm (e.trans h)
  ·refine bO ⟨k,hk,by rw[cw k i (by omega) hi];exact h1,?_⟩;rw[e,h2];omega
 ·intro k hk eb LS;cases hc:gQ (ss.getD k dB) (ss.getD i dB)with
  |false=>rfl
  |true=>
   exfalso;rcases Nat.lt_or_gt_of_ne eb with h|h
   ·have:=bJ i hi k h hc;omega
   ·have:=bJ k hk i h (by rw[cw i k hi hk];exact hc);omega
def MQ {ss:List Sys}{i:Nat}(hi:i<ss.length)(h: ∀k,k<i->fa (ss.getD k dB)=0)(he:fa (ss.getD i dB)≠0):iM (ss.map fa)=fa (ss.getD i dB):=by
 induction ss generalizing i with
 |nil=>simp at hi
 |cons a l ih=>
  cases i with
  |zero=>simp only[List.getD_cons_zero]at he|-;rw[eN,iM,if_neg he]
  |succ i=>have h0:=h 0 (by omega);simp only[List.getD_cons_zero]at h0;simp only[List.getD_cons_succ]at he|-;rw[eN,iM,if_pos h0];exact ih (by simpa using hi) (λk hk=>by simpa using h (k+1) (by omega)) he
def He {ss:List Sys}(h: ∀k,k<ss.length->fa (ss.getD k dB)=0):iM (ss.map fa)=0:=by
 induction ss with
 |nil=>rfl
 |cons a l ih=>have h0:=h 0 (by simp);simp only[List.getD_cons_zero]at h0;rw[eN,iM,if_pos h0];exact ih λk hk=>by simpa using h (k+1) (by simpa using hk)
def tJ (m:Int)(w:ah):Calls aj 103 #[.int .i64 m] w λe w'=>e=.returned (.bool (cY m))/\w=w':=by
 by_cases h:0<=m
 ·have hv:Hid (cY m=decide (m<=255)):=by simp[Hid,cY,h]
  go_enter Tryz.func103,Tryz.ntmps103
  go_wp2
  go_ret;exact⟨eu hv.out.symm,rfl⟩
 ·have hv:Hid (cY m=ay):=by simp[Hid,cY,h]
  have h':m<0:=by omega
  clear h
  go_enter Tryz.func103,Tryz.ntmps103
  go_wp2
  go_ret;exact⟨eu hv.out.symm,rfl⟩
def qW (b:aQ)(hb:b.v.length=8)(w:ah):Calls aj 46 #[.agg (ints b.list)] w λe w'=>e=.returned (.int .i64 (bI b))/\Below w.heap.size w w':=by
 have i0:(ints b.list)[0]? =ae (.int .i64 b.k):=rfl;have fg:row? (w.alloc (.cells (ints b.list) 48)) w.heap.size 1 8=ae (ints b.v):=by rw[(dt.new w 48 (ints b.list)).eJ 1 8 (by simp[aQ.list,hb])];simp[aQ.list,<-hb]
 have HB:=af hb;clear hb;by_cases hs:cY b.k=aw
 ·have hk:0<=b.k/\b.k<=255:=by simpa[cY]using hs
  have hK:Hid (((b.k.toNat:Nat):Int)=b.k):=by unfold Hid;omega
  have hK2:b.k.toNat<256:=by omega
  have hEN:=af (sG b hs);have hEA:=af (λj hj=>B2 b j hj hs)
  go_enter Tryz.func46,Tryz.ntmps46
  go_wp2_with fail
  refine(tJ b.k _).mono ?_;rintro e w' ⟨rfl,rfl⟩;rw[hs];clear hs
  go_wp2_with fail
  go_loop [11] (λi=> ∃k:Nat,k<=8/\i=.int .i64 k/\ ∀j,j<k->lG b j=0) (λi=>8-(intOf i).toNat)
  case atStart=>exact⟨0,by omega,rfl,by omega⟩
  case round=>
   obtain⟨k,tD,rfl,h0⟩:=hrel;have H0:=af h0;clear h0;by_cases bJ:k<8
   ·have aiS:=Ql b.v k bJ HB.out;have hv:lG b k=if b.k.toNat.testBit k=ay/\b.v.getD k 0≠0 then 4 else if b.v.getD k 0< -1000000000\/1000000000<b.v.getD k 0 then 1 else 0:=rfl
    have nm:=J1 b.k.toNat k hK2 bJ;rw[hK.out]at nm;generalize b.v.getD k 0=x at*;have hE:=λhe=>hEA.out k bJ H0.out he
    cases hB:b.k.toNat.testBit k with
    |false=>
     rw[hB]at hv nm;have h1:(bits BinOp.and IntKind.i64 (b.k / 2^k) 1==0)=aw:=by rw[nm];rfl
     by_cases hx:x=0
     ·have h2:(x !=0)=ay:=by simp[hx]
      have h3: ¬x< -1000000000:=by omega
      have h4: ¬1000000000<x:=by omega
      have HN:Hid (∀j,j<k+1->lG b j=0):=by
       intro j hj;by_cases yy:j=k
       ·subst yy;rw[hv];simp[hx]
       ·exact H0.out j (by omega)
      clear hx hv nm hB hE
      go_wp2
      go_round
      case rel=>exact⟨k+1,by omega,by go_num,HN.out⟩
      case measure=>simp[intOf];omega
     ·have h2:(x !=0)=aw:=by simpa using hx
      have HN:Hid (bI b=4):=by
       unfold Hid;have:lG b k=4:=by rw[hv];simp[hx]
       rw[hE (by omega),this]
      clear hx hv nm hB hE
      go_wp2
      go_ret;exact⟨gd HN.out.symm,(Below.refl _ _).alloc (ax _) _⟩
    |true=>
     rw[hB]at hv nm;have h1:(bits BinOp.and IntKind.i64 (b.k / 2^k) 1==0)=ay:=by rw[nm];rfl
     by_cases hx:x< -1000000000
     ·have HN:Hid (bI b=1):=by
       unfold Hid;have:lG b k=1:=by rw[hv];simp[hx]
       rw[hE (by omega),this]
      clear hv nm hB hE
      go_wp2
      go_ret;exact⟨gd HN.out.symm,(Below.refl _ _).alloc (ax _) _⟩
     ·by_cases Hl:1000000000<x
      ·have HN:Hid (bI b=1):=by
        unfold Hid;have:lG b k=1:=by rw[hv];simp[Hl]
        rw[hE (by omega),this]
       clear hv nm hB hE
       go_wp2
       go_ret;exact⟨gd HN.out.symm,(Below.refl _ _).alloc (ax _) _⟩
      ·have HN:Hid (∀j,j<k+1->lG b j=0):=by
        intro j hj;by_cases yy:j=k
        ·subst yy;rw[hv];simp[hx,Hl]
        ·exact H0.out j (by omega)
       clear hv nm hB hE
       go_wp2
       go_round
       case rel=>exact⟨k+1,by omega,by go_num,HN.out⟩
       case measure=>simp[intOf];omega
   ·have Cg:k=8:=by omega
    subst Cg;have HN:=af (hEN.out H0.out)
    go_wp2
    go_ret;exact⟨gd HN.out.symm,(Below.refl _ _).alloc (ax _) _⟩
 ·have Nh:cY b.k=ay:=by simpa using hs
  have HN:Hid (bI b=1):=by unfold Hid bI;rw[if_neg hs]
  go_enter Tryz.func46,Tryz.ntmps46
  go_wp2_with fail
  refine(tJ b.k _).mono ?_;rintro e w' ⟨rfl,rfl⟩;rw[Nh];clear hs Nh
  go_wp2_with fail
  go_ret;exact⟨gd HN.out.symm,(Below.refl _ _).alloc (ax _) _⟩
def EI (m:Int)(q:Query)(w:ah):Calls aj 89 #[.int .i64 m,.agg (ints q.list)] w λe w'=>e=.returned (.bool (fO m q))/\Below w.heap.size w w':=NG m q.qx q.nt q.any w
def qX (q:Query)(w:ah):Calls aj 93 #[.agg (ints q.list)] w λe w'=>e=.returned (.int .i64 (kr q))/\Below w.heap.size w w':=by
 have i0:(ints q.list)[0]? =ae (.int .i64 q.qx):=rfl;have i1:(ints q.list)[1]? =ae (.int .i64 q.nt):=rfl;have i2:(ints q.list)[2]? =ae (.int .i64 q.any):=rfl;have ad5:Hid (kr q=if cY q.qx&&cY q.nt&&cY q.any then 0 else 1):=rfl;cases ha:cY q.qx<;>cases hb:cY q.nt<;>cases hc:cY q.any
 all_goals
  have HD:=af ad5.out;rw[ha,hb,hc]at HD
  go_enter Tryz.func93,Tryz.ntmps93
  go_wp2_with fail
  refine(tJ _ _).mono ?_;rintro e w' ⟨rfl,rfl⟩;rw[ha]
  go_wp2_with fail
  try(refine(tJ _ _).mono ?_;rintro e w' ⟨rfl,rfl⟩;rw[hb];go_wp2_with fail)
  try(refine(tJ _ _).mono ?_;rintro e w' ⟨rfl,rfl⟩;rw[hc];go_wp2_with fail)
  go_ret;exact⟨gd HD.out.symm,(Below.refl _ _).alloc (ax _) _⟩
def EB (m:Int)(w:ah):Calls aj 102 #[.int .i64 m] w λe w'=>e=.returned (.bool (cY m))/\w=w':=by
 by_cases h:0<=m
 ·have hv:Hid (cY m=decide (m<=255)):=by simp[Hid,cY,h]
  go_enter Tryz.func102,Tryz.ntmps102
  go_wp2
  go_ret;exact⟨eu hv.out.symm,rfl⟩
 ·have hv:Hid (cY m=ay):=by simp[Hid,cY,h]
  have h':m<0:=by omega
  clear h
  go_enter Tryz.func102,Tryz.ntmps102
  go_wp2
  go_ret;exact⟨eu hv.out.symm,rfl⟩
def TR (s:Sys)(w:ah):Calls aj 45 #[.agg (ints s.list)] w λe w'=>e=.returned (.int .i64 (fa s))/\Below w.heap.size w w':=by
 have hB0:Hid (dt (w.alloc (.cells (ints s.list) 54)) w.heap.size 54 (ints s.list)):=dt.new _ _ _;have fg:row? (w.alloc (.cells (ints s.list) 54)) w.heap.size 0 3=ae (ints s.q.list):=hB0.out.eJ 0 3 (by simp[Sys.list]);have i3:(ints s.list)[3]? =ae (.int .i64 s.read):=rfl;have i4:(ints s.list)[4]? =ae (.int .i64 s.write):=rfl;have i5:(ints s.list)[5]? =ae (.int .i64 s.act):=rfl;have i6:(ints s.list)[6]? =ae (.int .i64 s.n):=rfl;by_cases hq:kr s.q=0
 ·have HD:Hid (fa s=if !(cY s.read)|| !(cY s.write)||decide (s.act<1)||decide (3<s.act)||decide (s.n< -1000000)||decide (1000000<s.n)then 1
   else if(decide (s.act=3)&&decide (s.n≠0))||(decide (s.act≠2)&&decide (s.read≠0))then 4 else 0):=by
   unfold Hid fa;rw[if_neg (by simp[hq])]
  cases hr:cY s.read<;>cases hw:cY s.write
  all_goals
   go_enter Tryz.func45,Tryz.ntmps45
   go_wp2_with fail
   refine(qX _ _).mono ?_;rintro e w1 ⟨rfl,lJ⟩;rw[hq];have Eo:dt w1 w.heap.size 54 (ints s.list):=hB0.out.after lJ;have k3:w1.cell? ⟨w.heap.size,3,ai⟩=ae (.int .i64 s.read):=Eo.cell 3;have k4:w1.cell? ⟨w.heap.size,4,ai⟩=ae (.int .i64 s.write):=Eo.cell 4;have k5:w1.cell? ⟨w.heap.size,5,ai⟩=ae (.int .i64 s.act):=Eo.cell 5;have k6:w1.cell? ⟨w.heap.size,6,ai⟩=ae (.int .i64 s.n):=Eo.cell 6;have lJ:=af (((Below.refl w.heap.size w).alloc (ax _) (.cells (ints s.list) 54)).trans (lJ.mono (by simp)))
   rename_i hbx
   clear hbx Eo i3 i4 i5 i6 fg;rw[hr,hw]at HD;clear hq
   go_wp2_with fail
   refine(EB _ _).mono ?_;rintro e w' ⟨rfl,rfl⟩;rw[hr]
   go_wp2_with fail
   try(refine(EB _ _).mono ?_;rintro e w' ⟨rfl,rfl⟩;rw[hw];go_wp2_with fail)
   all_goals go_ret
   all_goals
    refine⟨gd ?_,lJ.out⟩;rw[HD.out]
    first
     |rfl
     |(simp only[Bool.not_true,Bool.not_false,Bool.false_or,Bool.true_or,gi,aG,decide_eq_true_eq,bne_iff_ne,ne_eq,bne_eq_false_iff_eq]at*
       repeat' split
       all_goals first|rfl|omega)
 ·have HD:Hid (fa s=kr s.q):=by unfold Hid fa;rw[if_pos hq]
  have h1:(kr s.q !=0)=aw:=by simpa using hq
  clear hq
  go_enter Tryz.func45,Tryz.ntmps45
  go_wp2_with fail
  refine(qX _ _).mono ?_;rintro e w1 ⟨rfl,lJ⟩;have lJ:=af (((Below.refl w.heap.size w).alloc (ax _) (.cells (ints s.list) 54)).trans (lJ.mono (by simp)))
  go_wp2_with fail
  go_ret;exact⟨gd HD.out.symm,lJ.out⟩
structure lD where
 d:Int
 b:aQ
 a:Hd
 t:Hd
 k:Int
 n:Int
def lD.list (o:lD):List Int:=[o.d]++o.b.list++[o.a.1,o.a.2,o.t.1,o.t.2,o.k,o.n]
def acC (r:List Int):lD:=⟨r.getD 0 0,⟨r.getD 1 0,(r.drop 2).take 8⟩,(r.getD 10 0,r.getD 11 0),(r.getD 12 0,r.getD 13 0),r.getD 14 0,r.getD 15 0⟩
def BK {r:List Int}(h:r.length=16):(acC r).list=r/\(acC r).b.v.length=8:=by
 match r,h with
 | [_,_,_,_,_,_,_,_,_,_,_,_,_,_,_,_],_=>exact⟨rfl,rfl⟩
def vg (w:ah)(B:Nat)(A:Option Addr)(os:List lD):Prop:=fi w B 16 A (os.map lD.list)
def vg.below {w w':ah}{B:Nat}{A:Option Addr}{ss:List lD}(h:vg w B A ss)(hb:Below B w w'):vg w' B A ss:=fi.below h hb
def vg.at_ {w:ah}{B:Nat}{A:Option Addr}{ss:List lD}(h:vg w B A ss){k:Nat}(hk:k<ss.length): ∃b o,A=ae ⟨b,o,ai⟩/\b<B/\row? w b (o+k*16) 16=ae (ints (lD.list ss[k])):=by obtain⟨b,o,e,hb,hr⟩:=fi.at_ h (k:=k) (by simpa using hk);exact⟨b,o,e,hb,by simpa using hr⟩
def lD.len {o:lD}(h:o.b.v.length=8):o.list.length=16:=by simp[lD.list,aQ.list,h]
def mq (b:List Int):List Int:=(bP 9).map λi=>b.getD i 0
def nine {l:List Int}(h:l.length=9): ∃a b c d e f g i j:Int,l=[a,b,c,d,e,f,g,i,j]:=by
 match l,h with
 | [a,b,c,d,e,f,g,i,j],_=>exact⟨a,b,c,d,e,f,g,i,j,rfl⟩
def il (b:List Int):(mq b).length=9:=by simp[mq]
def Kk {b:List Int}(h:b.length=9):mq b=b:=by obtain⟨a,b,c,d,e,f,g,i,j,rfl⟩:=nine h;rfl
def rL (r:eE):List Int:=r.1.1::r.1.2::mq r.2
def cL (c:nM):List Int:=c.at_.1::c.at_.2::(mq c.old++mq c.now)
def ki (r:eE):Prop:=r.2.length=9
def DJ (c:nM):Prop:=c.old.length=9/\c.now.length=9
def QT (r:eE):(rL r).length=11:=by unfold rL;simp[il]
def AJ (c:nM):(cL c).length=20:=by unfold cL;simp[il]
def Jm {r:eE}(h:ki r):rL r=r.1.1::r.1.2::r.2:=by unfold rL;rw[Kk h]
def acS {c:nM}(h:DJ c):cL c=c.at_.1::c.at_.2::(c.old++c.now):=by unfold cL;rw[Kk h.1,Kk h.2]
def aeG {r s:eE}(hr:ki r)(hs:ki s)(h:rL r=rL s):r=s:=by
 rw[Jm hr,Jm hs]at h;injection h with h1 h
 injection h with h2 h
 exact Prod.ext (Prod.ext h1 h2) h
def RowsIn (w:ah)(B:Nat)(A:Option Addr)(rs:List eE):Prop:=fi w B 11 A (rs.map rL)
def Ay (w:ah)(B:Nat)(A:Option Addr)(cs:List nM):Prop:=fi w B 20 A (cs.map cL)
def RowsIn.at_ {w:ah}{B:Nat}{A:Option Addr}{rs:List eE}(h:RowsIn w B A rs){k:Nat}(hk:k<rs.length): ∃b o,A=ae ⟨b,o,ai⟩/\b<B/\row? w b (o+k*11) 11=ae (ints (rL rs[k])):=by obtain⟨b,o,e,hb,hr⟩:=fi.at_ h (k:=k) (by simpa using hk);exact⟨b,o,e,hb,by simpa using hr⟩
def Ay.at_ {w:ah}{B:Nat}{A:Option Addr}{cs:List nM}(h:Ay w B A cs){k:Nat}(hk:k<cs.length): ∃b o,A=ae ⟨b,o,ai⟩/\b<B/\row? w b (o+k*20) 20=ae (ints (cL cs[k])):=by obtain⟨b,o,e,hb,hr⟩:=fi.at_ h (k:=k) (by simpa using hk);exact⟨b,o,e,hb,by simpa using hr⟩
end
end Go.Proofs.YtknejlcijdngoaaGreat
