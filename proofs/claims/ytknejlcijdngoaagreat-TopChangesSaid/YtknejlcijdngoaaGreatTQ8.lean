/- Several texts in one, made short by a program of mine. -/
import Derived.Test.YtknejlcijdngoaaGreatTQ7
import Derived.Conc.LeavingOf
set_option linter.defProp false
set_option linter.unusedVariables false
set_option linter.unusedSimpArgs false
set_option linter.unusedSectionVars false
set_option maxHeartbeats 16000000
set_option maxRecDepth 100000
open Array renaming getD_eq_getD_getElem?→bH,getElem?_eq_some_iff→aI,getElem?_setIfInBounds_self_of_lt→aU,replicate_succ→dD,replicate_zero→dE
open Bool renaming and_eq_true→aG,false_eq_true→dP,false→ay,true→aw
open Go renaming FuncId→bK,Operand→cG,Program→aS,TypeId→aA,Value→ao,World→ah
open Go.Frame renaming enter→fG
open Go.Instr renaming buildSlice→gh
open Go.Lib renaming hid→af
open Go.Proofs.Tryz renaming prog→aj
open Go.Region renaming wanted→bu
open Go.Value renaming cells→iQ,int→aF,slice→eA
open Go.World renaming cell?→c8,cell?_of_block→da,size_alloc→dw
open List renaming append_assoc→cx,append_nil→ew,append_toArray→dT,cons_append→dF,drop_append→qd,drop_of_length_le→iU,flatMap_append→dG,flatMap_cons→bN,foldl_append→j5,getD→bB,getElem?_eq_getElem→aq,getElem?_eq_some_iff→bz,getElem?_map→dN,getElem_mem→bg,length_append→aZ,length_cons→aD,length_map→aL,length_nil→aP,length_take→cK,map_append→ey,mem_append→jh,mem_cons→cj,mem_map→aH,mem_of_mem_take→pN,mem_singleton→eO,nil_append→cy,push_toArray→ez,replicate→bW,set_append_right→oA,size_toArray→aV,take_length→dm,take_of_length_le→ck,take_succ_eq_append_getElem→bh,range→bP
open Nat renaming add_assoc→sZ,add_comm→dA,add_mul→gY,add_sub_cancel_left→iL,le_refl→ax,le_trans→bM,lt_of_lt_of_le→cc,one_mul→jE,zero_le→cE,zero_add→bS
open Option renaming none→ai,some→ae
open List.range renaming loop→cu
namespace Go.Proofs.YtknejlcijdngoaaGreat
section
open Rel
open Go.RowKit
def gZ (zs:List aQ):List Int:=zs.flatMap aQ.list
def th (zs:List aQ)(h: ∀z∈zs,z.v.length=8):(gZ zs).length=zs.length *9:=sJ aQ.list zs 9 λx hx=>by simp[aQ.list,h x hx]
def TP {pre post:List aQ}{b b':aQ}(h: ∀z∈pre,z.v.length=8)(hb:b.v.length=8)(jP:b'.v.length=8):(gZ (pre++b::post)).take (pre.length *9)++b'.list++(gZ (pre++b::post)).drop (pre.length *9+b'.list.length)=gZ (pre++b'::post):=by
 have hl:=th pre h;have e:gZ (pre++b::post)=gZ pre++(b.list++gZ post):=by simp[gZ]
 have e':gZ (pre++b'::post)=gZ pre++(b'.list++gZ post):=by simp[gZ]
 have l1:b.list.length=9:=by simp[aQ.list,hb]
 have l2:b'.list.length=9:=by simp[aQ.list,jP]
 rw[e,e',<-hl,List.take_append_of_le_length (ax _),dm,qd,iU (by omega),l2,iL,cy,qd,<-l1,List.drop_length,Nat.sub_self,List.drop_zero,cy,cx]
def TQ {pre post:List aQ}{b:aQ}(h: ∀z∈pre,z.v.length=8)(hb:b.v.length=8){k:Nat}(hk:k<8)(x:Int):(gZ (pre++b::post)).set (pre.length *9+1+k) x=gZ (pre++⟨b.k,b.v.set k x⟩::post):=by
 have hl:=th pre h;have e: ∀b:aQ,gZ (pre++b::post)=gZ pre++(b.list++gZ post):=λb=>by simp[gZ]
 rw[e,e,<-hl,sZ,oA _ _ (by omega),iL,List.set_append_left _ _ (by simp[aQ.list,hb];omega),dA 1 k]
 rfl
def PI {pre post:List aQ}{b:aQ}(h: ∀z∈pre,z.v.length=8)(hb:b.v.length=8){k:Nat}(hk:k<8):(gZ (pre++b::post))[pre.length *9+1+k]? =ae (b.v.getD k 0):=by
 have hl:=th pre h;have e:gZ (pre++b::post)=gZ pre++(b.list++gZ post):=by simp[gZ]
 rw[e,<-hl,sZ,List.getElem?_append_right (by omega),iL,List.getElem?_append_left (by simp[aQ.list,hb];omega),dA 1 k];simp[aQ.list,bB,aq (show k<b.v.length by omega)]
def Mm (n:Nat):bW (n *9) (0:Int)=gZ (bW n oP):=by
 induction n with
 |zero=>rfl
 |succ n ih=>
  rw[List.replicate_succ,Nat.succ_mul,dA,<-List.replicate_append_replicate,ih]
  rfl
def Bl (xs:List cQ)(ss:List Sys)(i:Nat):List aQ:=(xs.take i).map (λr=>iV r.b ss)++bW (xs.length-i) oP
def preB (xs:List cQ)(ss:List Sys)(i:Nat):List aQ:=(xs.take i).map (λr=>iV r.b ss)
def tU (xs:List cQ)(i:Nat):List aQ:=bW (xs.length-i-1) oP
def Jl {xs:List cQ}(ss:List Sys){i:Nat}(hi:i<xs.length):Bl xs ss i=preB xs ss i++oP::tU xs i:=by unfold Bl preB tU;rw[<-List.replicate_succ];congr 2;omega
def UN {xs:List cQ}(ss:List Sys){i:Nat}(hi:i<xs.length):preB xs ss i++iV xs[i].b ss::tU xs i=Bl xs ss (i+1):=by
 unfold Bl preB tU;rw[bh hi,ey,cx,Nat.sub_sub]
 rfl
def N0 {xs:List cQ}{ss:List Sys}{i:Nat}(hi:i<=xs.length):(preB xs ss i).length=i:=by simp[preB];omega
def QQ {xs:List cQ}{ss:List Sys}{i:Nat}(h: ∀r∈xs,r.b.v.length=8): ∀z∈preB xs ss i,z.v.length=8:=by intro z hz;obtain⟨r,hr,rfl⟩:=aH.1 hz;rw[qU,h r (pN hr)]
def Tg (b:aQ)(ss:List Sys)(k:Nat):aQ:=⟨b.k,(ss.take k).foldl (KM b) b.v⟩
def acu (b:aQ)(ss:List Sys):Tg b ss ss.length=iV b ss:=by unfold Tg iV;rw[dm]
def ag6 {b:aQ}(hb:b.v.length=8)(ss:List Sys)(k:Nat):(Tg b ss k).v.length=8:=(qU b (ss.take k)).trans hb
def miB (v:aQ)(d:aQ)(l:List Nat)(m:Nat):aQ:=⟨v.k,sP d (l.take m) v.v⟩
def agN {v:aQ}(hv:v.v.length=8)(d:aQ)(l:List Nat)(m:Nat):(miB v d l m).v.length=8:=(yF d (l.take m) v.v).trans hv
def Zb (v d:aQ){l:List Nat}{m:Nat}(hm:m<l.length):miB v d l (m+1)=⟨(miB v d l m).k,(miB v d l m).v.set l[m] (d.v.getD l[m] 0)⟩:=by unfold miB sP;rw[bh hm,j5];rfl
def abH (b:aQ)(ss:List Sys){k:Nat}(hk:k<ss.length):miB (Tg b ss k) (cD b ss[k]) (kinds ss[k].write.toNat) (kinds ss[k].write.toNat).length=Tg b ss (k+1):=by unfold miB Tg;rw[dm,bh hk,j5];rfl
def Ad {G:Nat->Prop}{w0 w:ah}{l:List bU}{A:Option Addr}{c:Nat}{xs:List cQ}(h:In G w0 (eo (.slice A xs.length c) xs::l) w)(h8: ∀r∈xs,r.b.v.length=8){i:Nat}(hi:i<xs.length): ∃g,A=ae ⟨g,0,ai⟩/\row? w g (i *11) 11=ae (ints xs[i].list):=by obtain⟨g,e,_,hr⟩:=Zo Fi h.own hi;refine⟨g,e,hr.trans ?_⟩;have:Bs xs[i]=xs[i].list:=Le (h8 _ (bg hi));unfold C7;rw[this];rfl
def Tj {G:Nat->Prop}{w0 w:ah}{l:List bU}{A:Option Addr}{c:Nat}{ss:List Sys}(h:In G w0 (nR (.slice A ss.length c) ss::l) w){i:Nat}(hi:i<ss.length): ∃g,A=ae ⟨g,0,ai⟩/\row? w g (i *7) 7=ae (ints ss[i].list):=by obtain⟨g,e,_,hr⟩:=Zo Z' h.own hi;exact⟨g,e,hr⟩
def ND (n:Nat)(hn:n<=1000)(w:ah):(Instr.makeSlice 100 (.int .i64 (n:Int)) (.int .i64 (n:Int))).run aj w=.ok (.slice (ae ⟨w.heap.size,0,ai⟩) n n) (w.alloc (.cells (ints (gZ (bW n oP))) 48)):=by
 obtain⟨i,hi,hz,hs,M3⟩:=info_parts zh;rw[run_make w _ _ i _ Tryz.underlying100 hi hz .i64 .i64 n n (by omega) (by omega) (by rw[M3];omega) (by omega),<-Mm];congr 2;congr 1;have hz9: ∀k:Nat,(ints [0,0,0,0,0,0,0,0,0])[k % 9]! =.int .i64 0:=λk=>by rcases(by omega:k % 9=0\/k % 9=1\/k % 9=2\/k % 9=3\/k % 9=4\/k % 9=5\/k % 9=6\/k % 9=7\/k % 9=8)with e|e|e|e|e|e|e|e|e<;>rw[e]<;>rfl
 have hm: ∀n':Nat,madeCells (ints [0,0,0,0,0,0,0,0,0]) n'=ints (bW n' 0):=λn'=>by unfold madeCells;rw[show(λx:Nat=>(ints [0,0,0,0,0,0,0,0,0])[x % (ints [0,0,0,0,0,0,0,0,0]).size]!)=λ_=>aF .i64 0 from funext λj=>hz9 j];refine Array.ext (by simp[bD]) λj h1 h2=>by simp[ints]
 refine(hm _).trans ?_;rw[hs];rfl
def Ms {w:ah}{g o n j:Nat}{xs:List Int}{x:Int}(h:row? w g o n=ae (ints xs))(hn:xs.length=n)(hj:xs[j]? =ae x):w.cell? ⟨g,o+j,ai⟩=ae (.int .i64 x):=by obtain⟨Um,rfl⟩:=bz.1 hj;have:=xF h j 1 (by omega);rw[List.drop_eq_getElem_cons Um,List.take_succ_cons,List.take_zero]at this;exact xg this
def In.adI {G:Nat->Prop}{w0 w:ah}{l:List bU}{g:Nat}{bs:List aQ}(h:In G w0 (br g 48 (ints (gZ bs))::l) w)(h8: ∀b∈bs,b.v.length=8)(hn:bs.length<=1000):In G w0 (nO (.slice (ae ⟨g,0,ai⟩) bs.length bs.length) bs::l) w:=by
 refine h.aiw λF hs=> ?_
 obtain⟨F1,F2,⟨h1,h2⟩,h3,h4,h5⟩:=hs;have hl:=th bs h8;have e:bs.flatMap PE=(gZ bs).map (aF .i64):=by unfold gZ;rw[List.map_flatMap];rfl
 refine⟨F1,F2,⟨⟨by rw[e,aL,hl],.inr ⟨g,bs.length,_,rfl,cE _,h1,ax _,by unfold maxLen;omega,by rw[bD,hl],?_⟩⟩,λk hk=> ?_⟩,h3,h4,h5⟩
 ·rw[e,ja,ck (by rw[aL,hl];exact ax _)]
 ·injection hk with hk;exact hk▸h2
noncomputable def AG:Code:=match Tryz.f41.body with|some (.seq _ (.seq _ (.seq _ x)))=>x|_=>.skip
section
variable {G:Nat->Prop} {w0 w:ah} {l:List bU} {Pb B4 B5 B7:Nat} {A A':Option Addr} {c c':Nat} {xs:List cQ} {ss:List Sys} {hn:Int} {fv:ao}
def ab' (hl:xd l)(h8: ∀r∈xs,r.b.v.length=8)(hlen:xs.length<=60)(hle:ss.length<=20)(Us: ∀s∈ss,fa s=0)(h:In G w0 (nl Pb (ss.map λs=>xs.map λr=>cD r.b s)::br B7 158 #[.slice (ae ⟨Pb,0,ai⟩) ss.length ss.length]::br B5 23 #[.slice A' ss.length c']::br B4 33 #[.slice A xs.length c]::eo (.slice A xs.length c) xs::nR (.slice A' ss.length c') ss::l) w):AG.wp aj (xk aj Tryz.f41 λv w'=>jU G w0 (nO v (xs.map λr=>iV r.b ss)::eo (.slice A xs.length c) xs::nR (.slice A' ss.length c') ss::l) w') ⟨#[.int .i64 hn,.slice A xs.length c,.slice A' ss.length c',undef,ptr B4,ptr B5,.slice ai 0 0,ptr B7,undef,undef,undef,undef,undef,undef,undef,.slice A' ss.length c',(.int .i64 ss.length),(.slice (ae ⟨Pb,0,ai⟩) ss.length ss.length),(.int .i64 hn),.slice A' ss.length c',(.int .i64 ss.length),fv,(.tuple #[]),undef,undef,undef,undef,undef,undef,undef,undef,undef,undef,undef,undef,undef,undef,undef,undef,undef,undef,undef,undef,undef,undef,undef,undef,undef,undef,undef,undef,undef,undef,undef,undef,undef,undef,undef,undef,undef,undef,undef,undef,undef,undef,undef,undef,undef,undef,undef,undef,undef,undef],[]⟩ w:=by
 have kZ:=af h;have c7:w.cell? ⟨B7,0,ai⟩=ae (.slice (ae ⟨Pb,0,ai⟩) ss.length ss.length):=h.swap.blk.cell 0;have c5:w.cell? ⟨B5,0,ai⟩=ae (.slice A' ss.length c'):=h.third.blk.cell 0;have c4:w.cell? ⟨B4,0,ai⟩=ae (.slice A xs.length c):=h.fourth.blk.cell 0;clear h;have aiL:(xs.length:Int)<=60:=by omega
 have aiK:(ss.length:Int)<=20:=by omega
 have hmk:=λW=>ND xs.length (by omega) W
 simp only[AG,Tryz.f41]
 go_upto_region 4 with(fail)
 refine bZ (In G w0 (br w.heap.size 48 (ints (gZ (Bl xs ss 0)))::nl Pb (ss.map λs=>xs.map λr=>cD r.b s)::br B7 158 #[.slice (ae ⟨Pb,0,ai⟩) ss.length ss.length]::br B5 23 #[.slice A' ss.length c']::br B4 33 #[.slice A xs.length c]::eo (.slice A xs.length c) xs::nR (.slice A' ss.length c') ss::l)) (by rw[show Bl xs ss 0=bW xs.length oP by simp[Bl]];exact kZ.out.alloc _ _) ?_;generalize w.heap.size=g8;clear kZ c7 c5 c4;intro w1 hI;have qB:=af hI;have c4:w1.cell? ⟨B4,0,ai⟩=ae (.slice A xs.length c):=(hI.drop.fourth).blk.cell 0;clear hI
 go_wp2_with fail
 clear c4
 go_loopw [28] (λi w'=> ∃j:Nat,j<=xs.length/\i=.int .i64 j/\In G w0 (br g8 48 (ints (gZ (Bl xs ss j)))::nl Pb (ss.map λs=>xs.map λr=>cD r.b s)::br B7 158 #[.slice (ae ⟨Pb,0,ai⟩) ss.length ss.length]::br B5 23 #[.slice A' ss.length c']::br B4 33 #[.slice A xs.length c]::eo (.slice A xs.length c) xs::nR (.slice A' ss.length c') ss::l) w') (λi _=>xs.length-(intOf i).toNat)
 case atStart=>exact⟨0,cE _,rfl,qB.out⟩
 case round=>
  clear qB;obtain⟨i,hi,rfl,hI⟩:=hrel;by_cases bJ:i<xs.length
  ·have hiI:(i:Int)<xs.length:=by omega
   obtain⟨g,rfl,q1⟩:=Ad (hI.nth 5 (by simp)) h8 bJ;have Yz:(xs[i]).list.length=11:=by simp[cQ.list,aQ.list,h8 _ (bg bJ)]
   have HI:=af hI;clear hI
   go_upto_region 7 with(fail)
   have hx:=HI.out.struct 50 [0,0,0,0,0,0,0,0,0,0,0] (xs[i]).list Yz;refine bZ (In G w0 (br wr.heap.size 50 (ints (xs[i]).list)::br g8 48 (ints (gZ (Bl xs ss i)))::nl Pb (ss.map λs=>xs.map λr=>cD r.b s)::br B7 158 #[.slice (ae ⟨Pb,0,ai⟩) ss.length ss.length]::br B5 23 #[.slice A' ss.length c']::br B4 33 #[.slice (ae ⟨g,0,ai⟩) xs.length c]::eo (.slice (ae ⟨g,0,ai⟩) xs.length c) xs::nR (.slice A' ss.length c') ss::l)) ?_ ?_
   ·exact hx
   clear hx;generalize wr.heap.size=rb;clear HI q1;intro w2 hI;have Kv:=h8 _ (bg bJ);have q2:row? w2 rb 2 9=ae (ints (xs[i]).b.list):=by rw[hI.blk.eJ 2 9 (by omega)];show ae (ints ((xs[i]).b.list.take 9))=_;rw[ck (by simp[aQ.list,Kv])]
   have kJ:(gZ (Bl xs ss i)).length=xs.length *9:=by
    rw[Jl ss bJ,th]
    ·simp[preB,tU];omega
    ·intro z hz;rcases jh.1 hz with hz|hz
     ·exact QQ h8 z hz
     ·rcases cj.1 hz with rfl|hz
      ·rfl
      ·rw[(List.mem_replicate.1 hz).2];rfl
   have q3:fits w2 g8 (i *9) 9=aw:=hI.swap.blk.fits (i *9) 9 (by rw[bD,kJ];omega);have Kw:(xs[i]).b.list.length=9:=by simp[aQ.list,Kv]
   have aeg:=hI.swap.put (i *9) (xs[i]).b.list;have hsh:=TP (post:=tU xs i) (b:=oP) (b':=(xs[i]).b) (QQ (ss:=ss) (i:=i) h8) rfl Kv;rw[N0 (by omega)]at hsh;rw[Jl ss bJ,hsh]at aeg;have HP:=af aeg;clear hI kJ aeg hsh
   go_upto_region 8 with(fail)
   refine bZ (In G w0 (br g8 48 (ints (gZ (preB xs ss i++Tg (xs[i]).b ss 0::tU xs i)))::br rb 50 (ints (xs[i]).list)::nl Pb (ss.map λs=>xs.map λr=>cD r.b s)::br B7 158 #[.slice (ae ⟨Pb,0,ai⟩) ss.length ss.length]::br B5 23 #[.slice A' ss.length c']::br B4 33 #[.slice (ae ⟨g,0,ai⟩) xs.length c]::eo (.slice (ae ⟨g,0,ai⟩) xs.length c) xs::nR (.slice A' ss.length c') ss::l)) ?_ ?_
   ·exact HP.out
   clear HP q2 q3;intro w3 hI;have c5:w3.cell? ⟨B5,0,ai⟩=ae (.slice A' ss.length c'):=(hI.nth 4 (by simp)).blk.cell 0;have HI:=af hI;clear hI
   go_wp2_with fail
   clear c5;have Ym:Hid ((xs[i]).b.v.length=8):=Kv;have HSH:Hid (preB xs ss i++iV (xs[i]).b ss::tU xs i=Bl xs ss (i+1)):=UN ss bJ;have HPI:Hid ((ss.map λs=>xs.map λr=>cD r.b s)=ss.map λs=>xs.map λr=>cD r.b s):=rfl
   go_loopw [40] (λq w'=> ∃k:Nat,k<=ss.length/\q=.int .i64 k/\In G w0 (br g8 48 (ints (gZ (preB xs ss i++Tg (xs[i]).b ss k::tU xs i)))::br rb 50 (ints (xs[i]).list)::nl Pb (ss.map λs=>xs.map λr=>cD r.b s)::br B7 158 #[.slice (ae ⟨Pb,0,ai⟩) ss.length ss.length]::br B5 23 #[.slice A' ss.length c']::br B4 33 #[.slice (ae ⟨g,0,ai⟩) xs.length c]::eo (.slice (ae ⟨g,0,ai⟩) xs.length c) xs::nR (.slice A' ss.length c') ss::l) w') (λq _=>ss.length-(intOf q).toNat)
   case atStart=>exact⟨0,cE _,rfl,HI.out⟩
   case round=>
    clear HI;obtain⟨k,hk,rfl,hI⟩:=hrel;by_cases hlk:k<ss.length
    ·have hkI:(k:Int)<ss.length:=by omega
     obtain⟨gs,rfl,qs⟩:=Tj (hI.nth 7 (by simp)) hlk;have HI:=af hI;clear hI
     go_upto_region 11 with(fail)
     have hx:=HI.out.struct 54 [0,0,0,0,0,0,0] (ss[k]).list rfl;refine bZ (In G w0 (br wr.heap.size 54 (ints (ss[k]).list)::br g8 48 (ints (gZ (preB xs ss i++Tg (xs[i]).b ss k::tU xs i)))::br rb 50 (ints (xs[i]).list)::nl Pb (ss.map λs=>xs.map λr=>cD r.b s)::br B7 158 #[.slice (ae ⟨Pb,0,ai⟩) ss.length ss.length]::br B5 23 #[.slice (ae ⟨gs,0,ai⟩) ss.length c']::br B4 33 #[.slice (ae ⟨g,0,ai⟩) xs.length c]::eo (.slice (ae ⟨g,0,ai⟩) xs.length c) xs::nR (.slice (ae ⟨gs,0,ai⟩) ss.length c') ss::l)) ?_ ?_
     ·exact hx
     clear hx qs HI;generalize wr.heap.size=sb;intro w4 hI;have k4:w4.cell? ⟨sb,4,ai⟩=ae (.int .i64 (ss[k]).write):=hI.blk.cell 4;have YR:=(rT (Us _ (bg hlk))).2;have HM8:Hid (eQ (m8 (ss[k]).write)=eQ (ss[k]).write.toNat):=by unfold cY at YR;simp only[aG,decide_eq_true_eq]at YR;unfold Hid;rw[SJ YR]
     have HI:=af hI;clear hI YR
     go_wp2_with fail
     refine(wD _ _).mono ?_;rintro e w5 ⟨v,rfl,ho,gF⟩;rw[HM8.out]at ho;have gu:=af (In.xw HI.out ho gF);obtain⟨A2,c2,rfl,Aw⟩:=gu.out.oI;have hlen:(eQ (ss[k]).write.toNat).length=(kinds (ss[k]).write.toNat).length:=by simp[eQ]
     rw[hlen]at Aw gu|-;have hn8:=qF (ss[k]).write.toNat;clear ho gF Aw HI k4 hlen HM8;have fW:=af gu.out.third;have L4:Hid (miB (Tg (xs[i]).b ss k) (cD (xs[i]).b ss[k]) (kinds ss[k].write.toNat) (kinds ss[k].write.toNat).length=Tg (xs[i]).b ss (k+1)):=abH _ ss hlk;clear gu
     go_wp2_with fail
     go_loopw [49] (λq w'=> ∃m:Nat,m<=(kinds (ss[k]).write.toNat).length/\q=.int .i64 m/\In G w0 (br g8 48 (ints (gZ (preB xs ss i++miB (Tg (xs[i]).b ss k) (cD (xs[i]).b ss[k]) (kinds ss[k].write.toNat) m::tU xs i)))::fM (.slice A2 (kinds (ss[k]).write.toNat).length c2) (eQ (ss[k]).write.toNat)::br sb 54 (ints (ss[k]).list)::br rb 50 (ints (xs[i]).list)::nl Pb (ss.map λs=>xs.map λr=>cD r.b s)::br B7 158 #[.slice (ae ⟨Pb,0,ai⟩) ss.length ss.length]::br B5 23 #[.slice (ae ⟨gs,0,ai⟩) ss.length c']::br B4 33 #[.slice (ae ⟨g,0,ai⟩) xs.length c]::eo (.slice (ae ⟨g,0,ai⟩) xs.length c) xs::nR (.slice (ae ⟨gs,0,ai⟩) ss.length c') ss::l) w') (λq _=>(kinds (ss[k]).write.toNat).length-(intOf q).toNat)
     case atStart=>exact⟨0,cE _,rfl,fW.out⟩
     case round=>
      clear fW;obtain⟨m,hm,rfl,hI⟩:=hrel;by_cases Qa:m<(kinds (ss[k]).write.toNat).length
      ·have hmI:(m:Int)<(kinds (ss[k]).write.toNat).length:=by omega
       have hlen:(eQ (ss[k]).write.toNat).length=(kinds (ss[k]).write.toNat).length:=by simp[eQ]
       obtain⟨A3,c3,e0,hr⟩:=hI.swap.oI;rw[hlen]at e0 hr;injection e0 with e1 e2 e3
       subst e1;subst e3;obtain⟨bl,o,q,rfl,hc,vH,Yy,tD,Qi⟩:=wA hr Qa;have hq:(kinds (ss[k]).write.toNat)[m]=q:=by rw[vH.out];simp[bB,Qa]
       have HS:=af (Zb (Tg (xs[i]).b ss k) (cD (xs[i]).b ss[k]) Qa);rw[hq]at HS;have xM:=hI.nth 5 (by simp);have c7:wr.cell? ⟨B7,0,ai⟩=ae (.slice (ae ⟨Pb,0,ai⟩) ss.length ss.length):=xM.blk.cell 0;have hpk:(ss.map λs=>xs.map λr=>cD r.b s)[k]? =ae (xs.map λr=>cD r.b ss[k]):=by rw[dN,aq hlk];rfl
       obtain⟨gp,cp,cP,qP⟩:=In.part (hI.nth 4 (by simp)) hpk (λz hz=>by obtain⟨r,hr,rfl⟩:=aH.1 hz;rw[fX];exact h8 r hr) (i:=i) (by simpa using bJ);rw[aL]at cP;rw[List.getElem_map]at qP;have hd8:(cD (xs[i]).b ss[k]).v.length=8:=by rw[fX];exact Ym.out
       have cV:wr.cell? ⟨gp,i *9+1+q,ai⟩=ae (.int .i64 ((cD (xs[i]).b ss[k]).v.getD q 0)):=by rw[sZ];refine Ms qP (by simp[aQ.list,hd8]) ?_;rw[dA 1 q];simp[aQ.list,bB,aq (show q<(cD (xs[i]).b ss[k]).v.length by omega)]
       have hp8:=QQ (ss:=ss) (i:=i) h8;have hm8:=agN (ag6 Ym.out ss k) (cD (xs[i]).b ss[k]) (kinds ss[k].write.toNat) m;have IZ:(preB xs ss i).length=i:=N0 (by omega);have sM:=PI (post:=tU xs i) hp8 hm8 tD;rw[IZ]at sM;have cO:wr.cell? ⟨g8,i *9+1+q,ai⟩=ae (.int .i64 ((miB (Tg (xs[i]).b ss k) (cD (xs[i]).b ss[k]) (kinds ss[k].write.toNat) m).v.getD q 0)):=by rw[hI.blk.cell,lg,sM];rfl
       have cF:wr.frozen? ⟨g8,i *9+1+q,ai⟩=ay:=hI.blk.frozen _;have yA:=hI.set (i *9+1+q) (.int .i64 ((cD (xs[i]).b ss[k]).v.getD q 0));have hbs:=TQ (post:=tU xs i) hp8 hm8 tD ((cD (xs[i]).b ss[k]).v.getD q 0);rw[IZ]at hbs;rw[ints_set,hbs,<-HS.out]at yA;have L5:=af yA;have hqI:(q:Int)<8:=by omega
       clear hI xM yA hbs sM hm8 hp8 IZ hd8 qP hpk hq vH Yy Qi hr HS e2 hlen;generalize (cD (xs[i]).b ss[k]).v.getD q 0=nv at *
       go_upto_region 14 with(fail)
       go_still_tail 16,(by kernel_rfl)
       repeat still_step
       change wpList _ _ _ _ _ wr.drew;have HD:Hid (In G w0 (br g8 48 _::_) (wr.setCell ⟨g8,i *9+1+q,ai⟩ (.int .i64 nv)).drew):=L5.out.drew
       go_wp2_with fail
       refine⟨⟨m+1,by omega,by go_num,HD.out⟩,?_⟩;simp[intOf];omega
      ·have:m=(kinds (ss[k]).write.toNat).length:=by omega
       subst this;rw[L4.out]at hI;have HI:=af (hI.swap.drop.swap.drop);clear hI
       go_wp2_with fail
       refine⟨?_,?mk⟩
       (repeat apply Exists.intro)
       refine⟨?rk,rfl⟩
       case rk=>exact⟨k+1,by omega,by go_num,HI.out⟩
       case mk=>simp[intOf];omega
    ·have:k=ss.length:=by omega
     subst this;rw[acu,HSH.out]at hI;have HI:=af hI.swap.drop;clear hI
     go_wp2_with fail
     go_roundw
     case rel=>exact⟨i+1,by omega,by go_num,HI.out⟩
     case measure=>simp[intOf];omega
  ·have:i=xs.length:=by omega
   subst this;have hob:Bl xs ss xs.length=xs.map λr=>iV r.b ss:=by simp[Bl]
   rw[hob]at hI;have hx:=(In.adI hI (by intro z hz;obtain⟨r,hr,rfl⟩:=aH.1 hz;rw[qU];exact h8 r hr) (by rw[aL];omega)).reorder 5 [1,2,3,4,0] rfl (by simp);rw[aL]at hx;have HI:=af (hx.drop.drop.drop.drop);clear hI hob hx
   go_wp2_with fail
   refine⟨.inr rfl,rfl,_,λtp d=>results_tmp rfl _ _ _,λtp d=> ?_⟩;exact jU.of (HI.out.dH (xd.cons (eD.hp _ _ _ _ _) (xd.cons (eD.hp _ _ _ _ _) (xd.cons (eD.hp _ _ _ _ _) hl))) tp 0 d)
end
end
section
open Rel
open Go.Conc Go.ConcN
open Go.ConcR (Payload WgAt)
open Go.RowKit
def QC (n:Nat)(hn:n<=1000)(w:ah):(Instr.makeSlice 158 (.int .i64 (n:Int)) (.int .i64 (n:Int))).run aj w=.ok (.slice (ae ⟨w.heap.size,0,ai⟩) n n) (w.alloc (.cells (bW n (eA ai 0 0)).toArray 100)):=by
 have hi: ∃i,Tryz.prog.info? 100=ae i/\i.zero=ae (.slice ai 0 0)/\i.size=1/\i.bytes=24:=⟨_,rfl,rfl,rfl,rfl⟩;obtain⟨i,hi,hz,hs,M3⟩:=hi;rw[run_make w _ _ i _ Tryz.underlying158 hi hz .i64 .i64 n n (by omega) (by omega) (by rw[M3];omega) (by omega)];congr 2;congr 1;rw[hs,Nat.mul_one];refine Array.ext (by simp[madeCells]) λj h1 h2=> ?_
 simp[madeCells,iQ,Nat.mod_one]
def QO {O:vO}{bd:bK->List Tmp}{old Pb N:Nat}{xs:List cQ}{ss:List Sys}{w':ah}(hf:fL w' Pb=ae (100,ss.length,0,0))(hp: ∀p,p<ss.length-> ∃o:Nat->Prop,(∀r,o r->N<=r/\r<w'.heap.size)/\jpB (cfg bd old).sig Pb xs ss o p w'): ∃V:Nat->Prop,(∀r,V r->N<=r/\r<w'.heap.size)/\ ∀r,r=Pb\/V r-> ∃o,w'.heap[r]? =ae o/\kV (mV O).sig (only V) o o:=by
 have key: ∀p,∃x:ao×(Nat->Prop),p<ss.length->(∀r,x.2 r->N<=r/\r<w'.heap.size)/\(∀r,x.2 r-> ∃ob,w'.heap[r]? =ae ob/\kV (cfg bd old).sig (only x.2) ob ob)/\w'.cell? ⟨Pb,p,ai⟩=ae x.1/\bx (cfg bd old).sig (only x.2) x.1 x.1:=by
  intro p;by_cases h:p<ss.length
  ·obtain⟨o,ho,v,hc,V,g1,g2,g3,_⟩:=hp p h;exact⟨(v,V),λ_=>⟨λr hr=>ho r (g1 r hr),g2,hc,g3⟩⟩
  ·exact⟨(undef,λ_=>False),λhh=>absurd hh h⟩
 obtain⟨f,sp⟩:=Classical.axiomOfChoice key;have ext: ∀p,p<ss.length->Ext aj (only (f p).2) (only λr=> ∃p,p<ss.length/\(f p).2 r):=λp hh=>⟨λa b h=>⟨h.1,p,hh,h.2⟩,Dr⟩
 refine⟨λr=> ∃p,p<ss.length/\(f p).2 r,λr ⟨p,h,hr⟩=>(sp p h).1 r hr,λr hr=> ?_⟩;rcases hr with rfl|⟨p,h,hr⟩
 ·unfold fL at hf;cases hh:w'.heap[r]? with
  |none=>rw[hh]at hf;cases hf
  |some o=>
   rw[hh]at hf;cases o with
   |cells cs t fr=>
    refine⟨_,rfl,.cells t fr ⟨rfl,λi a b ha hb=> ?_⟩⟩;rw[ha]at hb;cases hb;have hi:i<ss.length:=by have bJ:=(aI.1 ha).1;simp at hf;omega
    obtain⟨_,_,hc,hv⟩:=sp i hi;unfold c8 at hc;rw[hh]at hc;simp only[Option.isSome_none,dP,if_false]at hc;rw[ha]at hc;injection hc with hc
    rw[<-hc]at hv;exact bx.sig (S:=(cfg bd old).sig) (S':=(mV O).sig) (λ_ h=>h) (hv.mono (ext i hi))
   |_=>cases hf
 ·obtain⟨ob,e1,e2⟩:=(sp p h).2.1 r hr;exact⟨ob,e1,aez (e2.mono (ext p h))⟩
def AL {S:jK}{π:Ren}{w:ah}{g:Nat}{t:aA}{v:ao}(hb:dt w g t #[v])(YG: ∃o,w.heap[g]? =ae o/\kV S π o o):bx S π v v:=by
 obtain⟨o,e1,e2⟩:=YG;unfold dt at hb;rw[hb]at e1;cases e1;cases e2 with
 |cells _ _ hc=>exact hc.at_ 0 v v rfl rfl
def jU.same {G:Nat->Prop}{l:List bU}{w0 w:ah}{tp:Nat->Question->Nat}{d:Nat}(h:jU G (Rel.dH w0 tp d) l w):jU G w0 l w:=by unfold jU at h;rw[Rel.acA]at h;exact jU.of h
def zv {P:aS}{F:Func}{R R':ao->ah->Prop}{x:Code}{a:Act}{w:ah}(h:x.wp P (xk P F R) a w)(hr: ∀v w,R v w->R' v w):x.wp P (xk P F R') a w:=Code.wp_mono (λ_ _ _ ⟨h1,h2,v,h3,h4⟩=>⟨h1,h2,v,h3,λtp d=>hr _ _ (h4 tp d)⟩) h
section
variable {O:vO} {Post:ao->ah->Prop} {G:Nat->Prop} {w0 w:ah} {l:List bU} {A A':Option Addr} {c c':Nat} {xs:List cQ} {ss:List Sys} {hn:Nat}
def adH (hold:O.n<=w.heap.size)(hl:xd l)(h8: ∀r∈xs,bI r.b=0/\r.b.v.length=8)(hlen:xs.length<=60)(hle:ss.length<=20)(Us: ∀s∈ss,fa s=0)(hn1:1<=hn)(hn8:hn<=8)(h:jU G w0 (eo (.slice A xs.length c) xs::nR (.slice A' ss.length c') ss::l) w):vM aj (mV O) Post 41 #[.int .i64 hn,.slice A xs.length c,.slice A' ss.length c'] w λv w'=>jU G w0 (nO v (xs.map λr=>iV r.b ss)::eo (.slice A xs.length c) xs::nR (.slice A' ss.length c') ss::l) w':=by
 have agp:(ss.length:Int)<=20:=by omega
 refine⟨_,_,Tryz.func41,rfl,rfl,rfl,?_⟩;have hF:=oF O;have yZ:Tryz.f41.ntmps=73:=rfl;simp only[yZ,dT,dF,cy,aV,aD,aP,Nat.reduceAdd,Nat.reduceSub,dD,dE,ez];have Sw:Tryz.f41.body=ae (match Tryz.f41.body with|some x=>x|none=>.skip):=rfl;simp only[Tryz.f41];refine cB (bE ?_);refine fQ hF (w':=w.alloc (.cells #[.slice A xs.length c] 33)) (v:=ptr w.heap.size) rfl rfl (by kernel_rfl) ⟨rfl,rfl⟩ (λtp d=>by go_simp;exact⟨rfl,rfl⟩) ?_;walk_nrm;refine fQ hF (w':=(w.alloc (.cells #[.slice A xs.length c] 33)).alloc (.cells #[.slice A' ss.length c'] 23)) (v:=ptr (w.heap.size+1)) rfl rfl (by kernel_rfl) ⟨rfl,rfl⟩ (λtp d=>by go_simp;exact⟨by simp[Rel.dH],rfl⟩) ?_;walk_nrm;refine UM hF (w':=(w.alloc (.cells #[.slice A xs.length c] 33)).alloc (.cells #[.slice A' ss.length c'] 23)) (v:=.slice ai 0 0) ?_;walk_nrm;refine dz ?_;have gm:jU G w0 (br (w.heap.size+1) 23 #[.slice A' ss.length c']::br w.heap.size 33 #[.slice A xs.length c]::eo (.slice A xs.length c) xs::nR (.slice A' ss.length c') ss::l) ((w.alloc (.cells #[.slice A xs.length c] 33)).alloc (.cells #[.slice A' ss.length c'] 23)):=by have h1:jU G w0 (br w.heap.size 33 #[.slice A xs.length c]::eo (.slice A xs.length c) xs::nR (.slice A' ss.length c') ss::l) (w.alloc (.cells #[.slice A xs.length c] 33)):=In.alloc h _ _;have h2:=In.alloc (show In G _ _ (w.alloc (.cells #[.slice A xs.length c] 33))from h1) 23 #[.slice A' ss.length c'];rw[dw]at h2;exact h2
 have tF:((w.alloc (.cells #[.slice A xs.length c] 33)).alloc (.cells #[.slice A' ss.length c'] 23)).heap.size=w.heap.size+2:=by simp
 have hgA: ∀ad,A=ae ad->ad.block<w.heap.size:=λad e=>KV (In.own h) ad.block (by rw[e];rfl)
 have agd: ∀ad,A'=ae ad->ad.block<w.heap.size:=λad e=>KV (In.own (In.drop h)) ad.block (by rw[e];rfl)
 clear h;generalize (w.alloc (.cells #[.slice A xs.length c] 33)).alloc (.cells #[.slice A' ss.length c'] 23)=w2 at *;have c5: ∀tp d,(Rel.dH w2 tp d).cell? ⟨w.heap.size+1,0,ai⟩=ae (.slice A' ss.length c'):=λtp d=>gm.blk.cell 0
 have hmk:=λW=>QC ss.length (by omega) W
 show eT _ _ _ _ _ _ _ w2;refine cB (bE ?_);refine fQ hF (w':=w2) (v:=.slice A' ss.length c') rfl rfl (by kernel_rfl) ⟨rfl,rfl⟩ (λtp d=>by have hc:=c5 tp d;go_simp) ?_;walk_nrm;refine aN hF (.int .i64 ss.length) ?_;walk_nrm;refine fQ hF (w':=w2.alloc (.cells (bW ss.length (eA ai 0 0)).toArray 100)) (v:=.slice (ae ⟨w.heap.size+2,0,ai⟩) ss.length ss.length) rfl rfl (by kernel_rfl) ⟨rfl,rfl⟩ (λtp d=>by have hm:=hmk (Rel.dH w2 tp d);go_simp;exact⟨tF,rfl⟩) ?_;walk_nrm;refine fQ hF (w':=(w2.alloc (.cells (bW ss.length (eA ai 0 0)).toArray 100)).alloc (.cells #[.slice ai 0 0] 158)) (v:=ptr (w.heap.size+3)) rfl rfl (by kernel_rfl) ⟨rfl,rfl⟩ (λtp d=>by go_simp;exact⟨by simp[Rel.dH,tF],rfl⟩) ?_;walk_nrm;have gq:jU G w0 (br (w.heap.size+3) 158 #[.slice ai 0 0]::br (w.heap.size+2) 100 (bW ss.length (eA ai 0 0)).toArray::br (w.heap.size+1) 23 #[.slice A' ss.length c']::br w.heap.size 33 #[.slice A xs.length c]::eo (.slice A xs.length c) xs::nR (.slice A' ss.length c') ss::l) ((w2.alloc (.cells (bW ss.length (eA ai 0 0)).toArray 100)).alloc (.cells #[.slice ai 0 0] 158)):=by have h1:=In.alloc (show In G _ _ w2 from gm) 100 (bW ss.length (eA ai 0 0)).toArray;have h2:=In.alloc h1 158 #[.slice ai 0 0];rw[dw,tF]at h2;exact h2
 have hs4:((w2.alloc (.cells (bW ss.length (eA ai 0 0)).toArray 100)).alloc (.cells #[.slice ai 0 0] 158)).heap.size=w.heap.size+4:=by simp[tF]
 clear gm c5 hmk;generalize (w2.alloc (.cells (bW ss.length (eA ai 0 0)).toArray 100)).alloc (.cells #[.slice ai 0 0] 158)=w4 at *;clear tF;clear w2;have k1: ∀tp d,(Rel.dH w4 tp d).cell? ⟨w.heap.size+3,0,ai⟩=ae (.slice ai 0 0):=λtp d=>gq.blk.cell 0
 have k2: ∀tp d,(Rel.dH w4 tp d).frozen? ⟨w.heap.size+3,0,ai⟩=ay:=λtp d=>gq.blk.frozen 0
 refine Bj hF (w':=w4.setCell ⟨w.heap.size+3,0,ai⟩ (.slice (ae ⟨w.heap.size+2,0,ai⟩) ss.length ss.length)) rfl rfl (by kernel_rfl) (λtp d=>by have h1:=k1 tp d;have h2:=k2 tp d;go_simp;rfl) ?_;walk_nrm;refine dz ?_;have fD:jU G w0 (br (w.heap.size+2) 100 (bW ss.length (eA ai 0 0)).toArray::br (w.heap.size+3) 158 #[.slice (ae ⟨w.heap.size+2,0,ai⟩) ss.length ss.length]::br (w.heap.size+1) 23 #[.slice A' ss.length c']::br w.heap.size 33 #[.slice A xs.length c]::eo (.slice A xs.length c) xs::nR (.slice A' ss.length c') ss::l) (w4.setCell ⟨w.heap.size+3,0,ai⟩ (.slice (ae ⟨w.heap.size+2,0,ai⟩) ss.length ss.length)):=In.swap (In.set (show In G _ _ w4 from gq) 0 (.slice (ae ⟨w.heap.size+2,0,ai⟩) ss.length ss.length))
 have hs5:(w4.setCell ⟨w.heap.size+3,0,ai⟩ (.slice (ae ⟨w.heap.size+2,0,ai⟩) ss.length ss.length)).heap.size=w.heap.size+4:=by simp[hs4]
 clear gq k1 k2;generalize w4.setCell ⟨w.heap.size+3,0,ai⟩ (.slice (ae ⟨w.heap.size+2,0,ai⟩) ss.length ss.length)=w5 at *;clear hs4;clear w4;have hB:dt w5 (w.heap.size+2) 100 (bW ss.length (eA ai 0 0)).toArray:=fD.blk;have b7:dt w5 (w.heap.size+3) 158 #[.slice (ae ⟨w.heap.size+2,0,ai⟩) ss.length ss.length]:=(In.swap fD).blk;have b5:dt w5 (w.heap.size+1) 23 #[.slice A' ss.length c']:=(In.third fD).blk;have b4:dt w5 w.heap.size 33 #[.slice A xs.length c]:=(In.fourth fD).blk;have c5: ∀tp d,(Rel.dH w5 tp d).cell? ⟨w.heap.size+1,0,ai⟩=ae (.slice A' ss.length c'):=λtp d=>b5.cell 0
 show eT _ _ _ _ _ _ _ w5;refine cB (bE ?_);refine aN hF (.int .i64 hn) ?_;walk_nrm;refine fQ hF (w':=w5) (v:=.slice A' ss.length c') rfl rfl (by kernel_rfl) ⟨rfl,rfl⟩ (λtp d=>by have hc:=c5 tp d;go_simp) ?_;walk_nrm;refine aN hF (.int .i64 ss.length) ?_;walk_nrm;refine Zn (v:=.func (.func 92) #[] #[ptr w.heap.size,ptr (w.heap.size+3),ptr (w.heap.size+1)]) rfl rfl (λtp d=>by go_simp) (λtp d e he=>by simp[go_sem, *]at he) (.inr ⟨21,rfl,by show 21∈bdM 41;decide,trivial⟩) ?_;walk_nrm;have hPb:fL w5 (w.heap.size+2)=ae (100,ss.length,0,0):=by unfold fL;unfold dt at hB;rw[hB];simp
 refine UL (J:=tf (cfg (λ_=>[]) 0).sig (w.heap.size+2) xs ss) (NR:=λr=>r=w.heap.size\/r=w.heap.size+3\/r=w.heap.size+1\/(∃ad,A=ae ad/\r=ad.block)\/ ∃ad,A'=ae ad/\r=ad.block) (n:=hn) (nj:=ss.length) (jf:=92) (caps:= #[ptr w.heap.size,ptr (w.heap.size+3),ptr (w.heap.size+1)]) (by show O.n<=_;omega) rfl rfl rfl rfl rfl rfl hn1 hn8 (by omega) (J4 _ _ _ _) (λr hr=>by have:r=w.heap.size+2:=hr;omega) (λπ hs YG ht=> ?_) (λr hr hc=> ?_) (λp hp=> ?_) (λφ wp O' hP hnj Yu xq sa hJ0 hJP hRd xX hg bJ=> ?_) ?_
 ·have see: ∀(i:Nat) v,i∉bdM 41->(Act.tmps _)[i]? =ae v->bx (mV O).sig π v v:=λi v hi hv=>(ht.at_ i v v hv hv).resolve_right λh=>hi h.1
  have s4:=see 4 (ptr w.heap.size) (by decide) rfl;have s5:=see 5 (ptr (w.heap.size+1)) (by decide) rfl;have s7:=see 7 (ptr (w.heap.size+3)) (by decide) rfl;have blk: ∀r,bx (mV O).sig π (ptr r) (ptr r)->π r r:=λr h=>by
   cases h with
   |pointer ha=>exact ha.block
  have p4:=blk _ s4;have p5:=blk _ s5;have p7:=blk _ s7;have q4:=AL b4 (YG _ p4);have q5:=AL b5 (YG _ p5);have q7:=AL b7 (YG _ p7);refine⟨λr hr=> ?_,λr hr=> ?_⟩
  ·rcases hr with rfl|rfl|rfl|⟨ad,e,rfl⟩|⟨ad,e,rfl⟩
   ·exact p4
   ·exact p7
   ·exact p5
   ·rw[e]at q4;cases q4 with
    |slice _ _ ha=>exact ha.block
   ·rw[e]at q5;cases q5 with
    |slice _ _ ha=>exact ha.block
  ·have e:r=w.heap.size+2:=hr;rw[e];cases q7 with
   |slice _ _ ha=>exact ha.block
 ·have e:r=w.heap.size+2:=hc;rcases hr with h|h|h|⟨ad,e1,h⟩|⟨ad,e1,h⟩
  ·omega
  ·omega
  ·omega
  ·have:=hgA ad e1;omega
  ·have:=agd ad e1;omega
 ·show w5.cell? ⟨w.heap.size+2,p,ai⟩=ae (.slice ai 0 0);rw[hB.cell];simp[hp]
 ·have fg: ∀r,r<w.heap.size+4->wp.heap[r]? =w5.heap[r]?:=λr hr=>xX r (by omega)
  refine aeo (xs:=xs) (ss:=ss) (Pb:=w.heap.size+2) (bd:=λ_=>[]) (old:=0) (p6:=.slice A xs.length c) (Dd:=.slice A' ss.length c') O' hP hnj Yu sa hJ0 hJP hg bJ ⟨hRd _ (.inl rfl),?_,hRd _ (.inr (.inl rfl)),?_,hRd _ (.inr (.inr (.inl rfl))),?_,⟨A,c,rfl,λj hj=> ?_⟩,⟨A',c',rfl,λj hj=> ?_⟩,?_,h8,Us,hlen,hle⟩
  ·exact(da (fg _ (by show w.heap.size<_;omega))).trans (b4.cell 0)
  ·exact(da (fg _ (by show w.heap.size+3<_;omega))).trans (b7.cell 0)
  ·exact(da (fg _ (by show w.heap.size+1<_;omega))).trans (b5.cell 0)
  ·have hI:=In.drop (In.drop (In.drop (In.drop fD)));obtain⟨g,e,hr⟩:=Ad hI (λr hr=>(h8 r hr).2) hj;have:=hgA _ e;exact⟨g,e,hRd _ (.inr (.inr (.inr (.inl ⟨_,e,rfl⟩)))),(xE (fg g (by simp at this;omega)) _ _).trans hr⟩
  ·have hI:=In.drop (In.drop (In.drop (In.drop (In.drop fD))));obtain⟨g,e,hr⟩:=Tj hI hj;have:=agd _ e;exact⟨g,e,hRd _ (.inr (.inr (.inr (.inr ⟨_,e,rfl⟩)))),(xE (fg g (by simp at this;omega)) _ _).trans hr⟩
  ·unfold fL;rw[fg _ (by omega)];exact hPb
 ·intro w6 Ku hj6;obtain⟨V,e1,e2⟩:=QO (O:=O) (N:=w5.heap.size+4) ((Ku.shape _ rfl).trans hPb) hj6;refine⟨V,e1,e2,dz ?_⟩;have j6:=fD.behind Ku hj6;clear fD hj6 e1 e2 hB b7 b5 b4 c5 hPb;walk_nrm;have hx:dq ((mV O).at 41) AG=aw:=by kernel_rfl
  refine Ir hF hx λtp d=> ?_
  have hl6:xd (nl (w.heap.size+2) (ss.map λs=>xs.map λr=>cD r.b s)::br (w.heap.size+3) 158 #[.slice (ae ⟨w.heap.size+2,0,ai⟩) ss.length ss.length]::br (w.heap.size+1) 23 #[.slice A' ss.length c']::br w.heap.size 33 #[.slice A xs.length c]::eo (.slice A xs.length c) xs::nR (.slice A' ss.length c') ss::l):=.cons (nl.hp _ _) (.cons (br.hp _ _ _) (.cons (br.hp _ _ _) (.cons (br.hp _ _ _) (.cons (eD.hp _ _ _ _ _) (.cons (eD.hp _ _ _ _ _) hl)))))
  have hw:=ab' (hn:=hn) (fv:=.func (.func 92) #[] #[ptr w.heap.size,ptr (w.heap.size+3),ptr (w.heap.size+1)]) hl (λr hr=>(h8 r hr).2) hlen hle Us (j6.at_ hl6 tp 0 d);have Qj:=zv hw λv w' h=>jU.same h
  exact Qj
end
end
section
open Go.RowKit
def adJ {w w':ah}(e:w'.heap=w.heap){g:Nat}{t:aA}{cs:Array ao}(h:dt w g t cs):dt w' g t cs:=by unfold dt at h|-;rw[e];exact h
def XD {α:Type}{T E:aA}{size:Nat}{enc:α->List ao}{w w':ah}(e:w'.heap=w.heap){p:Nat}{xs:List α}{F:Nat->Prop}(h:kM T E size enc w p xs F):kM T E size enc w' p xs F:=by obtain⟨v,h1,h2,h3⟩:=h;exact⟨v,adJ e h1,yI e h2,h3⟩
def Col.hp {α:Type}(T E:aA)(size:Nat)(enc:α->List ao)(p:Nat)(xs:List α):V7 (Col T E size enc p xs):=λ_ _ _ e h=>XD e h
def uo.hp {κ ν:Type}(ek:κ->ao)(ev:ν->ao)(good:κ->Prop)(b:Nat)(m:List (κ×ν)):V7 (uo ek ev good b m):=λ_ _ _ e h=>by obtain⟨⟨es,clock,hb,h2⟩,h3⟩:=h;exact⟨⟨es,clock,by rw[e];exact hb,h2⟩,h3⟩
def xd.append {l m:List bU}(h:xd l)(k:xd m):xd (l++m):=λA hA=>(jh.1 hA).elim (h A) (k A)
def xd.map {α:Type}{f:α->bU}(l:List α)(h: ∀a,V7 (f a)):xd (l.map f):=λA hA=>by obtain⟨a,_,rfl⟩:=aH.1 hA;exact h a
def oo.hp (p:Nat)(K:Int)(rows:List cQ):V7 (oo p K rows):=λ_ _ _ e h=>by obtain⟨h1,h2,hv,mb,cb,hs⟩:=h;exact⟨h1,h2,hv,mb,cb,Sep.hp (.append (.cons (br.hp _ _ _) (.cons (eD.hp _ _ _ _ _) (.cons (uo.hp _ _ _ _ _) .nil))) (.map _ λ_=>Col.hp _ _ _ _ _ _)) e hs⟩
def dR.hp (p:Nat)(ls:List (Int×Bool))(f:BF):V7 (dR p ls f):=λ_ _ _ e h=>by obtain⟨sp,tb,pb,T,h1,hs⟩:=h;exact⟨sp,tb,pb,T,h1,Sep.hp (.append (.cons (br.hp _ _ _) (.cons (Col.hp _ _ _ _ _ _) (.cons (uo.hp _ _ _ _ _) (.cons (uo.hp _ _ _ _ _) .nil)))) (.map _ λ_=>oo.hp _ _ _)) e hs⟩
def j3.hp (p:Nat)(m:kN):V7 (j3 p m):=λ_ _ _ e h=>by obtain⟨h1,b,hs⟩:=h;exact⟨h1,b,Sep.hp (.cons (br.hp _ _ _) (.cons (uo.hp _ _ _ _ _) .nil)) e hs⟩
def di.hp (p:Nat)(z:ZS):V7 (di p z):=λ_ _ _ e h=>by obtain⟨wp,fp,m,h1,hs⟩:=h;exact⟨wp,fp,m,h1,Sep.hp (.cons (br.hp _ _ _) (.cons (dR.hp _ _ _) (.cons (j3.hp _ _) .nil))) e hs⟩
end
section
open Rel
open Go.RowKit
@[go_sem ↓] theorem afj (parts:Array (Nat×ao)):gh 23 1 parts=kz 23 parts:=rfl
@[go_sem] theorem aaz (w:ah)(cs:Array ao):(kz 23 #[(0,.agg cs)]).run aj w=if cs.size=7 then .ok (.slice (ae ⟨w.heap.size,0,ai⟩) 1 1) (w.alloc (.cells cs 54))else(qI 23 cs).run aj w:=mE w _ _ 7 (bW 7 (aF .i64 0)).toArray cs Tryz.underlying23 (by kernel_rfl) (by kernel_rfl) rfl (by decide) (by decide)
def Vz:(Tryz.prog.info? 54).map (λi=>(i.zero,i.size,i.bytes))=ae (ae (.agg (ints dB.list)),7,56):=by kernel_rfl
def om.dH {G:Nat->Prop}{w0:ah}{B:Nat}{A:Option Addr}{ss:List Sys}(h:om G w0 B A ss)(tp:Nat->Question->Nat)(d:Nat):om G (Rel.dH w0 tp d) B A ss:=λ{W} hI=>by have h1:In G w0 [] (Rel.dH W w0.tape W.drawn):=⟨trivial,⟨hI.only.os,rfl,hI.only.output,hI.only.size,hI.only.block⟩⟩;have h2:=h h1;exact h2
def jU.abP {G:Nat->Prop}{l:List bU}{w0 w:ah}(h:In G w0 l w):jU G w0 l w:=jU.of (tp:=w0.tape) (d:=w0.drawn) h
noncomputable def Lk:Code:=match Tryz.f13.body with
 |some (.seq _ (.seq _ (.seq _ (.seq _ (.seq (.seq _ (.block _ (.loop (.seq _ (.seq (.block _ (.seq _ (.seq x _))) _))))) _)))))=>x
 |_=>.skip
section
variable {G:Nat->Prop} {w0 w:ah} {l:List bU} {A:Option Addr} {c B:Nat} {ss:List Sys} {n5:ao} {b:Nat} {XS:ao}
def Xj (G:Nat->Prop)(w0:ah)(l:List bU)(A:Option Addr)(c:Nat)(ss:List Sys)(n5:ao)(b:Nat)(x0 x1 x3 x4 x5 x6 x8 sC rZ r6 px py pz pB pC pD pE pF pG pH pI pq pJ BQ LZ L0 L3 LB LC LD LG LH LI LJ x58 x59 x60 VE VF VG VH VI VJ VK VL VM VN VO VP VR VS VT VU VV VW:ao)(a:Act)(w:ah):Prop:= ∃v y11 y12 y35 y36 y37 y38 y39 y40 y41 y42 y43 y44 y45 y46 y47 y48 y49 y50 y51 y52,a=⟨#[x0,x1,.slice A ss.length c,x3,x4,x5,x6,n5,x8,.int .i64 (b:Int),v,y11,y12,sC,rZ,r6,px,py,pz,pB,pC,pD,pE,pF,pG,pH,pI,pq,pJ,BQ,LZ,L0,L3,LB,LC,y35,y36,y37,y38,y39,y40,y41,y42,y43,y44,y45,y46,y47,y48,y49,y50,y51,y52,LD,LG,LH,LI,LJ,x58,x59,x60,VE,VF,VG,VH,VI,VJ,VK,VL,VM,VN,VO,VP,VR,VS,VT,VU,VV,VW],[]⟩/\jU G w0 (nR v (iw (dX ss) b)::fM n5 (cA ss ss.length)::l) w
def aeP (x0 x1 x3 x4 x5 x6 x8 JN JO sC rZ r6 px py pz pB pC pD pE pF pG pH pI pq pJ BQ LZ L0 L3 LB LC WE WG WH WI WJ WL WM WN WO WQ WR WS WU WV WW WY WZ W1 LD LG LH LI LJ x58 x59 x60 VE VF VG VH VI VJ VK VL VM VN VO VP VR VS VT VU VV VW:ao)(hl:xd l)(hS:om G w0 B A ss)(h20:ss.length<=20)(hb:b<=ss.length)(h:In G w0 (fM n5 (cA ss ss.length)::l) w):Lk.wp aj (uR (Xj G w0 l A c ss n5 b x0 x1 x3 x4 x5 x6 x8 sC rZ r6 px py pz pB pC pD pE pF pG pH pI pq pJ BQ LZ L0 L3 LB LC LD LG LH LI LJ x58 x59 x60 VE VF VG VH VI VJ VK VL VM VN VO VP VR VS VT VU VV VW)) ⟨#[x0,x1,.slice A ss.length c,x3,x4,x5,x6,n5,x8,.int .i64 (b:Int),.slice ai 0 0,JN,JO,sC,rZ,r6,px,py,pz,pB,pC,pD,pE,pF,pG,pH,pI,pq,pJ,BQ,LZ,L0,L3,LB,LC,WE,WG,WH,WI,WJ,WL,WM,WN,WO,WQ,WR,WS,WU,WV,WW,WY,WZ,W1,LD,LG,LH,LI,LJ,x58,x59,x60,VE,VF,VG,VH,VI,VJ,VK,VL,VM,VN,VO,VP,VR,VS,VT,VU,VV,VW],[]⟩ w:=by
 have HS:Hid (om G w0 B A ss):=hS;have ah6:(ss.length:Int)<=20:=by omega
 have hbi:(b:Int)<=20:=by omega
 have kZ:Hid (In G w0 (nR (.slice ai 0 0) (iw ((dX ss).take 0) b)::fM n5 (cA ss ss.length)::l) w):=h.mN _ _;obtain⟨pA,pc,rfl,_⟩:=h.oI;rw[fc]at *;obtain⟨i0,qE,uM,sX,tH⟩:=info_parts Vz;clear hS h;simp only[Lk,Tryz.f13]
 go_wp2_with fail
 go_loopw [37,10] (λi v w'=> ∃k:Nat,k<=ss.length/\i=.int .i64 k/\In G w0 (nR v (iw ((dX ss).take k) b)::fM (.slice pA ss.length pc) (cA ss ss.length)::l) w') (λi _ _=>ss.length-(intOf i).toNat)
 case atStart=>exact⟨0,cE _,rfl,kZ.out⟩
 case round=>
  clear kZ;obtain⟨k,hk,rfl,hI⟩:=hrel;by_cases bJ:k<ss.length
  ·have vI:(k:Int)<ss.length:=by omega
   obtain⟨g,o,rfl,hgb,q1⟩:=(HS.out hI.bare).at_ bJ;have e1:ss.getD k dB=ss[k]:=by simp[bB,bJ]
   rw[e1]at q1;have HSN:=af (Vs ss b bJ);have Wr:(iw ((dX ss).take k) b).length<=20:=bM (OD _ _) (by rw[cK];omega);have HI:=af hI;clear hI e1;generalize ss[k]=s at *;generalize af9:iw ((dX ss).take (k+1)) b=ahE at *;have HC:=af af9;clear af9;generalize iw ((dX ss).take k) b=cur at *
   go_upto_region 13 with(fail)
   refine bZ (In G w0 (br wr.heap.size 54 (ints s.list)::nR u10 cur::fM (.slice pA ss.length pc) (cA ss ss.length)::l)) ?_ ?_
   ·exact HI.out.struct 54 [0,0,0,0,0,0,0] s.list rfl
   generalize wr.heap.size=sb;clear HI q1;intro w3 fj;obtain⟨A3,c3,e3,hr3⟩:=fj.third.oI;rw[fc]at e3 hr3;injection e3 with e4 e5 e6
   subst e4;subst e6;obtain⟨g3,o3,rfl,_,ah',ahV⟩:=hr3.at_ bJ;have hpk:(cA ss ss.length)[k]=(cA ss ss.length).getD k 0:=by simp[bB,ah']
   rw[hpk]at ahV;have d3:row? w3 sb 0 7=ae (ints s.list):=fj.blk.bt rfl;have fW:=af fj;clear fj hr3 e5 hpk;generalize (cA ss ss.length).getD k 0=pk at *;by_cases hpb:pk=(b:Int)
   ·have LS:(pk==(b:Int))=aw:=by simpa using hpb
    rw[if_pos hpb]at HSN;have iR:=af fW.out.drop;have HOW:=af fW.out.drop.rowAt;have YH: ∀u∈s.list.map (aF .i64),u.oneCell'=aw:=by intro u hu;obtain⟨y,_,rfl⟩:=aH.1 hu;rfl
    have adv:=af YH;have HX7:Hid (s.list.length=7):=rfl;clear hpb YH fW
    go_wp2_with (at_builtin;go_loud (refine eX rfl _ _ _ rfl 0 54 i0 _ 7 56 Tryz.underlying23 qE uM sX tH rfl (by decide) _ cur.length _ rfl HOW.out (s.list.map (aF .i64)) rfl (by rw[aL];exact HX7.out) adv.out (by unfold maxLen;omega) (by omega) (cE _) ?_))
    intro v' w4 jg hg vl;have fD:=In.xe iR.out jg hg vl;have j6:In G w0 (nR v' ahE::fM (.slice (ae ⟨g3,o3,ai⟩) ss.length pc) (cA ss ss.length)::l) w4:=by rw[HSN.out];unfold nR;rw[aZ,dG,bN,List.flatMap_nil,ew];exact fD
    have kO:=af j6;clear jg hg vl fD j6 d3 iR HOW
    go_wp2_with fail
    go_roundw
    case rel=>exact⟨k+1,by omega,by go_num,by rw[HC.out];exact kO.out⟩
    case measure=>simp[intOf];omega
   ·have LS:(pk==(b:Int))=ay:=by simpa using hpb
    rw[if_neg hpb]at HSN;have iR:=af fW.out.drop;rw[<-HSN.out]at iR;clear hpb fW HSN d3
    go_wp2_with fail
    go_roundw
    case rel=>exact⟨k+1,by omega,by go_num,by rw[HC.out];exact iR.out⟩
    case measure=>simp[intOf];omega
  ·have:k=ss.length:=by omega
   subst this;rw[Vr]at hI;have HI:=af hI;clear hI
   go_wp2_with fail
   refine⟨rfl,rfl,λtp d=>⟨_,_,_,_,_,_,_,_,_,_,_,_,_,_,_,_,_,_,_,_,_,rfl,?_⟩⟩;exact(jU.abP HI.out).dH (.cons (eD.hp _ _ _ _ _) (.cons (eD.hp _ _ _ _ _) hl)) tp d
end
def aa': ∀(bs:List aQ) (i:Nat) (hi:i<bs.length),(∀b∈bs,b.v.length=8)->((bs.flatMap PE).drop (i *9)).take 9=PE bs[i]:=by
 intro bs
 induction bs with
 |nil=>intro i hi;simp at hi
 |cons b bs ih=>
  intro i hi h;have hb:(PE b).length=9:=by simp[PE,aQ.list,h b (by simp)]
  cases i with
  |zero=>rw[bN,Nat.zero_mul,List.drop_zero,List.take_append_of_le_length (by omega),ck (by omega)];rfl
  |succ i=>rw[bN,gY,jE,dA,<-hb,qd,iU (by omega),cy,iL,hb];exact ih i (by simpa using hi) λx hx=>h x (by simp[hx])
def PF {G:Nat->Prop}{w0 w:ah}{l:List bU}{A:Option Addr}{n c:Nat}{bs:List aQ}(h:In G w0 (nO (.slice A n c) bs::l) w)(h8: ∀b∈bs,b.v.length=8){i:Nat}(hi:i<bs.length): ∃g,A=ae ⟨g,0,ai⟩/\row? w g (i *9) 9=ae (ints bs[i].list):=by
 have ho:=h.own;obtain⟨A',c',e,_,_,hg⟩:=cM ho;injection e with e1 e2 e3
 subst e1;subst e2;obtain⟨g,rfl⟩:=hg (by omega);refine⟨g,rfl,?_⟩;rw[mD ho hi,aa' bs i hi h8]
 rfl
noncomputable def K0:Code:=match Tryz.f13.body with
 |some (.seq _ (.seq _ (.seq _ (.seq _ (.seq (.seq _ (.block _ (.loop (.seq _ (.seq (.block _ (.seq _ (.seq _ (.seq _ (.seq _ x))))) _))))) _)))))=>x
 |_=>.skip
section
variable {G:Nat->Prop} {w0 w:ah} {l:List bU} {rA bA:Option Addr} {rc bc p:Nat} {z:ZS} {g:aQ->aQ}
def L6 (G:Nat->Prop)(w0:ah)(l:List bU)(rA bA:Option Addr)(rc bc p:Nat)(z:ZS)(g:aQ->aQ)(x0 x2 x3 x4 x5 x6 x7 x8 x9 LY JN JO px py pz pB pC pD pE pF pG pH pI pq pJ BQ LZ L0 L3 LB LC WE WG WH WI WJ WL WM WN WO WQ WR WS WU WV WW WY WZ W1 LD LG LH LI LJ:ao)(a:Act)(w:ah):Prop:= ∃y14 y15 y60 y61 y62 y63 y64 y65 y66 y67 y68 y69 y70 y71 y72 y73 y74 y75 y76 y77 y78,a=⟨#[x0,ptr p,x2,x3,x4,x5,x6,x7,x8,x9,LY,JN,JO,.slice rA z.rows.length rc,y14,y15,px,py,pz,pB,pC,pD,pE,pF,pG,pH,pI,pq,pJ,BQ,LZ,L0,L3,LB,LC,WE,WG,WH,WI,WJ,WL,WM,WN,WO,WQ,WR,WS,WU,WV,WW,WY,WZ,W1,LD,LG,LH,LI,LJ,.slice bA z.rows.length bc,.int .i64 z.rows.length,y60,y61,y62,y63,y64,y65,y66,y67,y68,y69,y70,y71,y72,y73,y74,y75,y76,y77,y78],[]⟩/\jU G w0 (di p (tO z g z.rows.length)::nO (.slice bA z.rows.length bc) (z.rows.map λr=>g r.b)::eo (.slice rA z.rows.length rc) z.rows::l) w
def aeF (x0 x2 x3 x4 x5 x6 x7 x8 x9 LY JN JO rZ r6 px py pz pB pC pD pE pF pG pH pI pq pJ BQ LZ L0 L3 LB LC WE WG WH WI WJ WL WM WN WO WQ WR WS WU WV WW WY WZ W1 LD LG LH LI LJ VE VF VG VH VI VJ VK VL VM VN VO VP VR VS VT VU VV VW:ao)(hl:xd l)(hk:kI z)(hg:Ie g)(hgk: ∀b,(g b).k=b.k)(hgf: ∀b,b.v.length=8-> ∀j,j∉kinds b.k.toNat->(g b).v.getD j 0=b.v.getD j 0)(h:In G w0 (di p z::nO (.slice bA z.rows.length bc) (z.rows.map λr=>g r.b)::eo (.slice rA z.rows.length rc) z.rows::l) w):K0.wp aj (uR (L6 G w0 l rA bA rc bc p z g x0 x2 x3 x4 x5 x6 x7 x8 x9 LY JN JO px py pz pB pC pD pE pF pG pH pI pq pJ BQ LZ L0 L3 LB LC WE WG WH WI WJ WL WM WN WO WQ WR WS WU WV WW WY WZ W1 LD LG LH LI LJ)) ⟨#[x0,ptr p,x2,x3,x4,x5,x6,x7,x8,x9,LY,JN,JO,.slice rA z.rows.length rc,rZ,r6,px,py,pz,pB,pC,pD,pE,pF,pG,pH,pI,pq,pJ,BQ,LZ,L0,L3,LB,LC,WE,WG,WH,WI,WJ,WL,WM,WN,WO,WQ,WR,WS,WU,WV,WW,WY,WZ,W1,LD,LG,LH,LI,LJ,.slice bA z.rows.length bc,.int .i64 z.rows.length,.int .i64 0,VE,VF,VG,VH,VI,VJ,VK,VL,VM,VN,VO,VP,VR,VS,VT,VU,VV,VW],[]⟩ w:=by
 have kZ:Hid (In G w0 (di p (tO z g 0)::nO (.slice bA z.rows.length bc) (z.rows.map λr=>g r.b)::eo (.slice rA z.rows.length rc) z.rows::l) w):=h;have HMO:Hid (∀j,j<=z.rows.length->kI (tO z g j)):=λj=>abI hk hg j
 have HMT:Hid (∀j (hj:j<z.rows.length),(tO z g j).f z.rows[j].h.1=ae (z.rows[j].h.2,z.rows[j].b)):=λj hj=>SM hk g hj
 have HMS:Hid (∀j (hj:j<z.rows.length),tO z g (j+1)=⟨(tO z g j).ls,ei (tO z g j).f z.rows[j].h.1 (ae (z.rows[j].h.2,g z.rows[j].b)),(tO z g j).B⟩):=λj hj=>Jd g hj
 have aif:z.rows.length<=60:=ze hk.w;have Wu:(z.rows.length:Int)<=60:=by omega
 have H8:Hid (∀r∈z.rows,bI r.b=0/\r.b.v.length=8):=λr hr=>hk.w.bo _ _ _ ((nX hk.w).1 hr)
 have HG:=af hg;have HGK:=af hgk;have HGF:=af hgf;have HPS:Hid (L6 G w0 l rA bA rc bc p z g=L6 G w0 l rA bA rc bc p z g):=rfl;clear h hk hg hgk hgf;unfold L6;generalize z.rows=rs at *;simp only[K0,Tryz.f13]
 go_wp2_with fail
 go_loopw [60] (λi w'=> ∃j:Nat,j<=rs.length/\i=.int .i64 j/\In G w0 (di p (tO z g j)::nO (.slice bA rs.length bc) (rs.map λr=>g r.b)::eo (.slice rA rs.length rc) rs::l) w') (λi _=>rs.length-(intOf i).toNat)
 case atStart=>exact⟨0,cE _,rfl,kZ.out⟩
 case round=>
  clear kZ;obtain⟨j,hj,rfl,hI⟩:=hrel;by_cases bJ:j<rs.length
  ·have Wp:(j:Int)<rs.length:=by omega
   have HOJ:=af (HMO.out j (by omega));have HAT:=af (HMT.out j bJ);have HNX:=af (HMS.out j bJ);obtain⟨Ym,h8⟩:=H8.out _ (bg bJ);obtain⟨af1,h8'⟩:=HG.out _ Ym h8;have hgk:=HGK.out rs[j].b;have hgf:=HGF.out rs[j].b h8;obtain⟨gb,rfl,q2⟩:=PF hI.swap (λb hb=>by obtain⟨r,hr,rfl⟩:=aH.1 hb;exact(HG.out _ (H8.out r hr).1 (H8.out r hr).2).2) (i:=j) (by simpa using bJ);rw[List.getElem_map]at q2;obtain⟨gr,rfl,q1⟩:=Ad hI.third (λr hr=>(H8.out r hr).2) bJ;have Kw:(g rs[j].b).list.length=9:=by simp[aQ.list,h8']
   have HI:=af hI;have TA:=af (And.intro (And.intro af1 h8') (And.intro hgk hgf));clear hI Ym af1 h8' hgk hgf;generalize hmj:tO z g (j+1)=zn at *;have HZN:=af hmj;clear hmj;generalize tO z g j=zj at *;have HBS:Hid ((rs.map λr=>g r.b)=rs.map λr=>g r.b):=rfl;generalize g rs[j].b=now at *;generalize hrj:rs[j]=r at *;have HRJ:=af hrj;clear hrj;obtain⟨⟨x1,x2⟩,b⟩:=r;simp only at h8 HAT HNX TA;have H8B:=af h8;clear q1
   go_upto_region 20 with(fail)
   refine bZ (In G w0 (br wr.heap.size 48 (ints now.list)::di p zj::nO (.slice (ae ⟨gb,0,ai⟩) rs.length bc) (rs.map λr=>g r.b)::eo (.slice (ae ⟨gr,0,ai⟩) rs.length rc) rs::l)) ?_ ?_
   ·exact HI.out.struct 48 [0,0,0,0,0,0,0,0,0] now.list Kw
   generalize wr.heap.size=sb;clear HI q2;intro w3 fj;obtain⟨g',e0,q⟩:=Ad fj.fourth (λr hr=>(H8.out r hr).2) bJ;have e1:g'=gr:=by injection e0 with e0;injection e0 with e0;exact e0.symm
   subst e1;rw[HRJ.out]at q;have q1:row? w3 g' (j *11) 2=ae (ints [x1,x2]):=xF q 0 2 (by omega);have q2:row? w3 g' (j *11+2) 9=ae (ints b.list):=by have:=xF q 2 9 (by omega);rw[show((cQ.list ⟨(x1,x2),b⟩).drop 2).take 9=b.list by show b.list.take 9=_;rw[ck (by simp[aQ.list,h8])]]at this;exact this
   have d3:row? w3 sb 0 9=ae (ints now.list):=fj.blk.bt Kw;have iR:=af fj.swap.drew;clear fj e0 q h8
   go_still_tail 12,(by kernel_rfl)
   repeat still_step
   change wpList _ _ _ _ _ w3.drew;clear q1 q2 d3;generalize w3.drew=w4 at *
   go_wp2_with fail
   refine(S8 iR.out HOJ.out x1 x2 b now HAT.out TA.out.2.1 TA.out.1.1 TA.out.1.2 TA.out.2.2).mono ?_;rintro e w5 ⟨rfl,fD⟩;rw[<-HNX.out]at fD;have ni:=af fD.swap.drop;clear fD iR
   go_wp2_with fail
   go_roundw
   case rel=>exact⟨j+1,by omega,by go_num,by rw[HZN.out];exact ni.out⟩
   case measure=>simp[intOf];omega
  ·have:j=rs.length:=by omega
   subst this;have HI:=af hI;clear hI
   go_wp2_with fail
   refine⟨rfl,rfl,λtp d=>⟨_,_,_,_,_,_,_,_,_,_,_,_,_,_,_,_,_,_,_,_,_,rfl,?_⟩⟩;exact(jU.abP HI.out).dH (.cons (di.hp _ _) (.cons (eD.hp _ _ _ _ _) (.cons (eD.hp _ _ _ _ _) hl))) tp d
end
end
section
open Rel
open Go.Conc Go.ConcN
open Go.RowKit
def jU.Tm {G:Nat->Prop}{l:List bU}{w0 w:ah}(hl:xd l){tp:Nat->Question->Nat}{d:Nat}(h:jU G w0 l (Rel.dH w tp d)):jU G w0 l w:=jU.dH h hl w.tape w.drawn
def jU.size {G:Nat->Prop}{l:List bU}{w0 w:ah}(h:jU G w0 l w):w0.heap.size<=w.heap.size:=In.size (w0:=Rel.dH w0 w.tape w0.drawn) h
section
variable {O:vO} {Post:ao->ah->Prop} {G:Nat->Prop} {w0:ah} {l:List bU} {A:Option Addr} {c B p:Nat} {ss:List Sys} {z:ZS}
def ua (fY:Int)(ss:List Sys):Int:=if fY<1\/8<fY then 1 else(eF ss).2
def UU {ss:List Sys}(h:(eF ss).2=0):(eF ss).1=cA ss ss.length:=by
 unfold eF at h|-
 split at h
 ·cases h
 ·rename_i h1
  split at h
  ·rename_i h2
   rw[if_neg h1,if_pos h2]
  ·rename_i h2;exact absurd h h2
def Xj.same {w w0:ah}{tp:Nat->Question->Nat}{d b:Nat}{n5:ao}{x0 x1 x3 x4 x5 x6 x8 sC rZ r6 px py pz pB pC pD pE pF pG pH pI pq pJ BQ LZ L0 L3 LB LC LD LG LH LI LJ x58 x59 x60 VE VF VG VH VI VJ VK VL VM VN VO VP VR VS VT VU VV VW:ao}{a:Act}(h:Xj G (Rel.dH w0 tp d) l A c ss n5 b x0 x1 x3 x4 x5 x6 x8 sC rZ r6 px py pz pB pC pD pE pF pG pH pI pq pJ BQ LZ L0 L3 LB LC LD LG LH LI LJ x58 x59 x60 VE VF VG VH VI VJ VK VL VM VN VO VP VR VS VT VU VV VW a w):Xj G w0 l A c ss n5 b x0 x1 x3 x4 x5 x6 x8 sC rZ r6 px py pz pB pC pD pE pF pG pH pI pq pJ BQ LZ L0 L3 LB LC LD LG LH LI LJ x58 x59 x60 VE VF VG VH VI VJ VK VL VM VN VO VP VR VS VT VU VV VW a w:=by obtain⟨v,y11,y12,y35,y36,y37,y38,y39,y40,y41,y42,y43,y44,y45,y46,y47,y48,y49,y50,y51,y52,e,h⟩:=h;exact⟨v,y11,y12,y35,y36,y37,y38,y39,y40,y41,y42,y43,y44,y45,y46,y47,y48,y49,y50,y51,y52,e,jU.same h⟩
def L6.same {w w0:ah}{tp:Nat->Question->Nat}{d:Nat}{rA bA:Option Addr}{rc bc:Nat}{g:aQ->aQ}{x0 x2 x3 x4 x5 x6 x7 x8 x9 LY JN JO px py pz pB pC pD pE pF pG pH pI pq pJ BQ LZ L0 L3 LB LC WE WG WH WI WJ WL WM WN WO WQ WR WS WU WV WW WY WZ W1 LD LG LH LI LJ:ao}{a:Act}(h:L6 G (Rel.dH w0 tp d) l rA bA rc bc p z g x0 x2 x3 x4 x5 x6 x7 x8 x9 LY JN JO px py pz pB pC pD pE pF pG pH pI pq pJ BQ LZ L0 L3 LB LC WE WG WH WI WJ WL WM WN WO WQ WR WS WU WV WW WY WZ W1 LD LG LH LI LJ a w):L6 G w0 l rA bA rc bc p z g x0 x2 x3 x4 x5 x6 x7 x8 x9 LY JN JO px py pz pB pC pD pE pF pG pH pI pq pJ BQ LZ L0 L3 LB LC WE WG WH WI WJ WL WM WN WO WQ WR WS WU WV WW WY WZ W1 LD LG LH LI LJ a w:=by obtain⟨y14,y15,y60,y61,y62,y63,y64,y65,y66,y67,y68,y69,y70,y71,y72,y73,y74,y75,y76,y77,y78,e,h⟩:=h;exact⟨y14,y15,y60,y61,y62,y63,y64,y65,y66,y67,y68,y69,y70,y71,y72,y73,y74,y75,y76,y77,y78,e,jU.same h⟩
def zQ {P:aS}{S S':Act->ah->Prop}{x:Code}{a:Act}{w:ah}(h:x.wp P (uR S) a w)(hs: ∀a w,S a w->S' a w):x.wp P (uR S') a w:=Code.wp_mono (λ_ _ _ ⟨h1,h2,h3⟩=>⟨h1,h2,λtp d=>hs _ _ (h3 tp d)⟩) h
def Xf (O:vO)(G:Nat->Prop)(w0:ah)(l:List bU)(A:Option Addr)(c p hn:Nat)(ss:List Sys)(z:ZS)(n5:ao)(m:Nat)(a:Act)(w:ah):Prop:= ∃b:Nat,∃x3 x4 x5 x6 x8 LY JN JO sC rZ r6 px py pz pB pC pD pE pF pG pH pI pq pJ BQ LZ L0 L3 LB LC WE WG WH WI WJ WL WM WN WO WQ WR WS WU WV WW WY WZ W1 LD LG LH LI LJ x58 x59 x60 VE VF VG VH VI VJ VK VL VM VN VO VP VR VS VT VU VV VW:ao,a=⟨#[.int .i64 (hn:Int),ptr p,.slice A ss.length c,x3,x4,x5,x6,n5,x8,.int .i64 (b:Int),LY,JN,JO,sC,rZ,r6,px,py,pz,pB,pC,pD,pE,pF,pG,pH,pI,pq,pJ,BQ,LZ,L0,L3,LB,LC,WE,WG,WH,WI,WJ,WL,WM,WN,WO,WQ,WR,WS,WU,WV,WW,WY,WZ,W1,LD,LG,LH,LI,LJ,x58,x59,x60,VE,VF,VG,VH,VI,VJ,VK,VL,VM,VN,VO,VP,VR,VS,VT,VU,VV,VW],[]⟩/\m=ss.length+1-b/\b<=ss.length/\jU G w0 (di p (jd z (dX ss) b)::fM n5 (cA ss ss.length)::l) w
noncomputable def OE:Code:=match Tryz.f13.body with
 |some (.seq _ (.seq _ (.seq _ (.seq _ (.seq (.seq _ (.block _ (.loop x))) _)))))=>x
 |_=>.skip
def adC (O:vO)(G:Nat->Prop)(w0:ah)(l:List bU)(A:Option Addr)(c p hn:Nat)(ss:List Sys)(z:ZS)(n5:ao)(m:Nat):Exit->Act->ah->Prop
 | .normal,a,w=> ∃m',m'<m/\Xf O G w0 l A c p hn ss z n5 m' a w
 | .exit 0,a,w=>a.tmps.size=79/\jU G w0 (di p (lM z ss)::l) w
 |_,_,_=>False
def Ri {hn m:Nat}{n5:ao}{a:Act}{w:ah}(hold:O.n<=w0.heap.size)(hl:xd l)(hS:om G w0 B A ss)(hk:kI z)(hn1:1<=hn)(hn8:hn<=8)(h0:(eF ss).2=0)(hI:Xf O G w0 l A c p hn ss z n5 m a w):eT aj (mV O) Post 13 OE (adC O G w0 l A c p hn ss z n5 m) a w:=by
 obtain⟨b,x3,x4,x5,x6,x8,LY,JN,JO,sC,rZ,r6,px,py,pz,pB,pC,pD,pE,pF,pG,pH,pI,pq,pJ,BQ,LZ,L0,L3,LB,LC,WE,WG,WH,WI,WJ,WL,WM,WN,WO,WQ,WR,WS,WU,WV,WW,WY,WZ,W1,LD,LG,LH,LI,LJ,x58,x59,x60,VE,VF,VG,VH,VI,VJ,VK,VL,VM,VN,VO,VP,VR,VS,VT,VU,VV,VW,rfl,rfl,hb,hI⟩:=hI;have hF:=oF O;obtain⟨Us,h20⟩:=KY h0;have hPA:oD (dX ss):=Zu Us;have hbI:(b:Int)<=20:=by omega
 have IZ:(cA ss ss.length).length=ss.length:=fc ss ss.length;have agb: ∃pA pc,n5=.slice pA (cA ss ss.length).length pc:=by obtain⟨pA,pc,e,_⟩:=In.oI (In.swap (show In G _ _ w from hI));exact⟨pA,pc,e⟩
 obtain⟨pA,pc,rfl⟩:=agb;have hlP:xd (di p (jd z (dX ss) b)::fM (.slice pA (cA ss ss.length).length pc) (cA ss ss.length)::l):=.cons (di.hp _ _) (.cons (eD.hp _ _ _ _ _) hl);simp only[OE,Tryz.f13];refine cB (cB ?_);refine bE ?_;refine aN hF (.slice pA (cA ss ss.length).length pc) ?_;walk_nrm;refine aN hF (.int .i64 (b:Int)) ?_;walk_nrm;refine xA hF (f:=40) (R:=λe w'=>e=.returned (.bool (decide ((b:Int)∈cA ss ss.length)))/\jU G w0 (di p (jd z (dX ss) b)::fM (.slice pA (cA ss ss.length).length pc) (cA ss ss.length)::l) w') rfl rfl rfl (by show xV.contains (40)=aw;decide+kernel) (by kernel_rfl) (λtp d=> ?_) (λe w h=>⟨_,h.1⟩) (λv w tp d h=>⟨h.1,h.2.Tm hlP⟩) ?_
 ·have km:=hI.at_ hlP tp 0 d;obtain⟨pA',pc',e,hr⟩:=In.oI km.swap;injection e with e1 e2 e3
  subst e1;subst e3;walk_nrm;refine(G' pA pc (cA ss ss.length) b _ hr (by unfold maxLen;omega)).mono ?_;rintro e w' ⟨rfl,rfl⟩;exact⟨rfl,jU.of km⟩
 rintro v w1 ⟨e,km⟩;injection e with e
 subst e;walk_nrm;refine dz ?_;by_cases jB:(b:Int)∈cA ss ss.length
 rotate_left
 ·rw[show decide ((b:Int)∈cA ss ss.length)=ay from decide_eq_false jB];refine iK (t:=false) rfl ?_;rw[if_neg (by simp)];refine PQ ⟨rfl,?_⟩;have he:=Vv hk hPA (KX ss) b (UW jB);rw[UT]at he;rw[<-he];exact In.drop (In.swap km)
 rw[show decide ((b:Int)∈cA ss ss.length)=aw from decide_eq_true jB];refine iK (t:=true) rfl ?_;rw[if_pos rfl];refine oG ?_;have aiN:=Zt jB;clear hI;show eT _ _ _ _ _ _ _ w1;refine cB (Ca ?_);refine cB (bE ?_);refine aN hF (.slice ai 0 0) ?_;walk_nrm;refine dz ?_;show eT _ _ _ _ _ _ _ w1;have hxS:dq ((mV O).at 13) Lk=aw:=by kernel_rfl
 refine cB (AN hF (S:=Xj G w0 (di p (jd z (dX ss) b)::l) A c ss (.slice pA (cA ss ss.length).length pc) b (.int .i64 (hn:Int)) (ptr p) x3 x4 x5 x6 x8 sC rZ r6 px py pz pB pC pD pE pF pG pH pI pq pJ BQ (.slice pA (cA ss ss.length).length pc) (.int .i64 (b:Int)) (.bool aw) LB LC LD LG LH LI LJ x58 x59 x60 VE VF VG VH VI VJ VK VL VM VN VO VP VR VS VT VU VV VW) hxS (λtp d=>zQ (aeP _ _ _ _ _ _ _ _ _ _ _ _ _ _ _ _ _ _ _ _ _ _ _ _ _ _ _ _ _ _ _ _ _ _ _ _ _ _ _ _ _ _ _ _ _ _ _ _ _ _ _ _ _ _ _ _ _ _ _ _ _ _ _ _ _ _ _ _ _ _ _ _ _ _ _ (.cons (di.hp _ _) hl) (hS.dH tp 0) h20 hb (In.swap (km.at_ hlP tp 0 d))) λ_ _ h=>h.same) ?_);rintro _ w2 ⟨sv,y11,y12,y35,y36,y37,y38,y39,y40,y41,y42,y43,y44,y45,y46,y47,y48,y49,y50,y51,y52,rfl,gm⟩;clear km;obtain⟨sA,sc,e,_⟩:=cM (In.own (show In G _ _ w2 from gm));subst e;have hOK:=OF hk hPA.touq b;have hsl:(iw (dX ss) b).length<=20:=bM (OD _ _) (by rw[kq];exact h20);have hlS:xd (nR (.slice sA (iw (dX ss) b).length sc) (iw (dX ss) b)::fM (.slice pA (cA ss ss.length).length pc) (cA ss ss.length)::di p (jd z (dX ss) b)::l):=.cons (eD.hp _ _ _ _ _) (.cons (eD.hp _ _ _ _ _) (.cons (di.hp _ _) hl));show eT _ _ _ _ _ _ _ w2;refine cB (bE ?_);refine aN hF (ptr p) ?_;walk_nrm;have Dn:(jd z (dX ss) b).rows.length<=60:=ze hOK.w;refine xA hF (f:=37) (R:=λe w'=> ∃rA rc,e=.returned (.slice rA (jd z (dX ss) b).rows.length rc)/\jU G w0 (eo (.slice rA (jd z (dX ss) b).rows.length rc) (jd z (dX ss) b).rows::nR (.slice sA (iw (dX ss) b).length sc) (iw (dX ss) b)::di p (jd z (dX ss) b)::fM (.slice pA (cA ss ss.length).length pc) (cA ss ss.length)::l) w') rfl rfl rfl (by show xV.contains (37)=aw;decide+kernel) (by kernel_rfl) (λtp d=> ?_) (λe w ⟨_,_,h,_⟩=>⟨_,h⟩) (λv w tp d ⟨_,_,h,h'⟩=>⟨_,_,h,h'.Tm (.cons (eD.hp _ _ _ _ _) (.cons (eD.hp _ _ _ _ _) (.cons (di.hp _ _) (.cons (eD.hp _ _ _ _ _) hl))))⟩) ?_
 ·have h2:=In.third (gm.at_ hlS tp 0 d);walk_nrm;refine(Oz h2 hOK).mono ?_;rintro e w' ⟨rA,rc,rfl,h3⟩;exact⟨rA,rc,rfl,jU.of (h3.reorder 4 [0,2,1,3] rfl (by simp))⟩
 rintro _ w3 ⟨rA,rc,e,fj⟩;injection e with e
 subst e;clear gm;walk_nrm;refine aN hF (.slice rA (jd z (dX ss) b).rows.length rc) ?_;walk_nrm;refine dz ?_;show eT _ _ _ _ _ _ _ w3;refine cB (bE ?_);refine aN hF (.int .i64 (hn:Int)) ?_;walk_nrm;refine aN hF (.slice rA (jd z (dX ss) b).rows.length rc) ?_;walk_nrm;refine aN hF (.slice sA (iw (dX ss) b).length sc) ?_;walk_nrm;refine xy (f:=41) (R:=λv w'=>jU G w0 (nO v ((jd z (dX ss) b).rows.map λr=>iV r.b (iw (dX ss) b))::eo (.slice rA (jd z (dX ss) b).rows.length rc) (jd z (dX ss) b).rows::nR (.slice sA (iw (dX ss) b).length sc) (iw (dX ss) b)::di p (jd z (dX ss) b)::fM (.slice pA (cA ss ss.length).length pc) (cA ss ss.length)::l) w') rfl rfl rfl (λj u hj=>.inl ?_) ?_ ?_
 ·rcases j with _|_|_|j
  ·cases hj;kernel_rfl
  ·cases hj;kernel_rfl
  ·cases hj;kernel_rfl
  ·simp at hj
 ·walk_nrm;exact adH (by have:=fj.size;omega) (.cons (di.hp _ _) (.cons (eD.hp _ _ _ _ _) hl)) (λr hr=>hOK.w.bo _ _ _ ((nX hOK.w).1 hr)) Dn hsl (Dx hPA.touq b) hn1 hn8 fj
 intro bv w4 gq;clear fj;obtain⟨bA,bc,e,_⟩:=cM (In.own (show In G _ _ w4 from gq));rw[aL]at e;subst e;walk_nrm;refine aN hF (.int .i64 (jd z (dX ss) b).rows.length) ?_;walk_nrm;refine aN hF (.int .i64 0) ?_;walk_nrm;refine dz ?_;show eT _ _ _ _ _ _ _ w4;have fD:jU G w0 (di p (jd z (dX ss) b)::nO (.slice bA (jd z (dX ss) b).rows.length bc) ((jd z (dX ss) b).rows.map λr=>iV r.b (iw (dX ss) b))::eo (.slice rA (jd z (dX ss) b).rows.length rc) (jd z (dX ss) b).rows::nR (.slice sA (iw (dX ss) b).length sc) (iw (dX ss) b)::fM (.slice pA (cA ss ss.length).length pc) (cA ss ss.length)::l) w4:=In.fourth (show In G _ _ w4 from gq);have hlQ:xd (nR (.slice sA (iw (dX ss) b).length sc) (iw (dX ss) b)::fM (.slice pA (cA ss ss.length).length pc) (cA ss ss.length)::l):=.cons (eD.hp _ _ _ _ _) (.cons (eD.hp _ _ _ _ _) hl);have hxP:dq ((mV O).at 13) K0=aw:=by kernel_rfl
 have agA:=Rg hk hPA b;clear gq;generalize hzb:jd z (dX ss) b=zb at *;refine AN hF (S:=L6 G w0 (nR (.slice sA (iw (dX ss) b).length sc) (iw (dX ss) b)::fM (.slice pA (cA ss ss.length).length pc) (cA ss ss.length)::l) rA bA rc bc p zb (λx=>iV x (iw (dX ss) b)) (.int .i64 (hn:Int)) (.slice A ss.length c) _ _ _ _ (.slice pA (cA ss ss.length).length pc) _ (.int .i64 (b:Int)) _ _ _ _ _ _ _ _ _ _ _ _ _ _ _ _ _ _ _ _ _ _ _ _ _ _ _ _ _ _ _ _ _ _ _ _ _ _ _ _ _ _ _ _ _) hxP (λtp d=>zQ (aeF _ _ _ _ _ _ _ _ _ _ _ _ _ _ _ _ _ _ _ _ _ _ _ _ _ _ _ _ _ _ _ _ _ _ _ _ _ _ _ _ _ _ _ _ _ _ _ _ _ _ _ _ _ _ _ _ _ _ _ _ _ _ _ _ _ _ _ _ _ _ _ _ _ _ hlQ hOK (PD hPA b) (λ_=>rfl) (λx hx=>Mg hPA b hx) (fD.at_ (.cons (di.hp _ _) (.cons (eD.hp _ _ _ _ _) (.cons (eD.hp _ _ _ _ _) hlQ))) tp 0 d)) λ_ _ h=>h.same) ?_;rintro _ w5 ⟨y14,y15,y60,y61,y62,y63,y64,y65,y66,y67,y68,y69,y70,y71,y72,y73,y74,y75,y76,y77,y78,rfl,j6⟩;clear fD;show eT _ _ _ _ _ _ _ w5;refine bE ?_;have CW:IntKind.i64.wrap ((b:Int)+1)=(b:Int)+1:=IntWalk.i64_in _ (by omega);refine aN hF (.int .i64 (b:Int)) ?_;walk_nrm;refine aN hF (.int .i64 ((b+1:Nat):Int)) ?_;walk_nrm;refine aN hF (.int .i64 ((b+1:Nat):Int)) ?_;walk_nrm;refine dz ?_;rw[agA]at j6;refine⟨ss.length+1-(b+1),by omega,b+1,_,_,_,_,_,_,_,_,_,_,_,_,_,_,_,_,_,_,_,_,_,_,_,_,_,_,_,_,_,_,_,_,_,_,_,_,_,_,_,_,_,_,_,_,_,_,_,_,_,_,_,_,_,_,_,_,_,_,_,_,_,_,_,_,_,_,_,_,_,_,_,_,_,_,rfl,rfl,by omega,?_⟩;have xM:=In.reorder (show In G _ _ w5 from j6) 5 [0,4,1,2,3] rfl (by simp);exact In.swap (In.drop (In.third (In.swap (In.drop (In.third (In.swap (In.drop (In.third (In.swap xM)))))))))
def ag5 {fY:Int}{w:ah}(hold:O.n<=w0.heap.size)(hl:xd l)(hS:om G w0 B A ss)(hB:B<=w0.heap.size)(hlen:ss.length<=maxLen)(hk:kI z)(h:jU G w0 (di p z::l) w):vM aj (mV O) Post 13 #[.int .i64 fY,ptr p,.slice A ss.length c] w λv w'=>v=.int .i64 (ua fY ss)/\jU G w0 (di p (if ua fY ss=0 then lM z ss else z)::l) w':=by
 refine⟨_,_,Tryz.func13,rfl,rfl,rfl,?_⟩;have hF:=oF O;have yZ:Tryz.f13.ntmps=79:=rfl;have hlZ:xd (di p z::l):=.cons (di.hp _ _) hl;simp only[yZ,dT,dF,cy,aV,aD,aP,Nat.reduceAdd,Nat.reduceSub,dD,dE,ez];simp only[Tryz.f13];refine cB (bE ?_);refine aN hF (.int .i64 0) ?_;walk_nrm;refine dz ?_;show eT _ _ _ _ _ _ _ w;refine cB (cB ?_);by_cases Er:fY<1\/8<fY
 ·have hE:ua fY ss=1:=by unfold ua;rw[if_pos Er]
  have fin: ∀{F:Func} {a:Act},F.results= #[.tmp 6]->a.tmps.getD 6 undef=.int .i64 1->AI aj F (λv w'=>v=.int .i64 (ua fY ss)/\jU G w0 (di p (if ua fY ss=0 then lM z ss else z)::l) w') .ret a w:=λhr ht=>⟨.int .i64 1,by rw[results_tmp hr,ht],by rw[hE],by rw[hE,if_neg (by decide)];exact h⟩
  by_cases h1:fY<1
  ·refine bE ?_;refine aN hF (.int .i64 fY) ?_;walk_nrm;refine aN hF (.bool aw) ?_;walk_nrm;refine aN hF (.bool aw) ?_;walk_nrm;refine Jk rfl rfl ?_;walk_nrm;refine Jk rfl rfl ?_;walk_nrm;refine aN hF (.bool aw) ?_;walk_nrm;refine dz ?_;refine iK (t:=true) rfl ?_;rw[if_pos rfl];refine cB (bE ?_);refine aN hF (.int .i64 1) ?_;walk_nrm;refine dz ?_;refine qC ?_;exact fin rfl rfl
  ·have h8:8<fY:=Er.resolve_left h1;refine bE ?_;refine aN hF (.int .i64 fY) ?_;walk_nrm;refine aN hF (.bool ay) ?_;walk_nrm;refine aN hF (.bool ay) ?_;walk_nrm;refine aN hF (.int .i64 fY) ?_;walk_nrm;refine aN hF (.bool aw) ?_;walk_nrm;refine aN hF (.bool aw) ?_;walk_nrm;refine dz ?_;refine iK (t:=true) rfl ?_;rw[if_pos rfl];refine cB (bE ?_);refine aN hF (.int .i64 1) ?_;walk_nrm;refine dz ?_;refine qC ?_;exact fin rfl rfl
 have h1: ¬fY<1:=λh=>Er (.inl h)
 have h8: ¬8<fY:=λh=>Er (.inr h)
 have hE:ua fY ss=(eF ss).2:=by unfold ua;rw[if_neg Er]
 obtain⟨hn,rfl⟩: ∃hn:Nat,fY=(hn:Int):=⟨fY.toNat,by omega⟩;rw[hE];refine bE ?_;refine aN hF (.int .i64 (hn:Int)) ?_;walk_nrm;refine aN hF (.bool ay) ?_;walk_nrm;refine aN hF (.bool ay) ?_;walk_nrm;refine aN hF (.int .i64 (hn:Int)) ?_;walk_nrm;refine aN hF (.bool ay) ?_;walk_nrm;refine aN hF (.bool ay) ?_;walk_nrm;refine dz ?_;refine iK (t:=false) rfl ?_;rw[if_neg (by simp)];refine oG ?_;show eT _ _ _ _ _ _ _ w;refine cB (bE ?_);refine aN hF (.slice A ss.length c) ?_;walk_nrm;refine xA hF (f:=36) (R:=λe w'=> ∃v,e=.returned (.tuple #[v,.int .i64 (eF ss).2])/\jU G w0 (fM v (eF ss).1::di p z::l) w') rfl rfl rfl (by show xV.contains (36)=aw;decide+kernel) (by kernel_rfl) (λtp d=> ?_) (λe w ⟨_,h,_⟩=>⟨_,h⟩) (λv w tp d ⟨_,h,h'⟩=>⟨_,h,h'.Tm (.cons (eD.hp _ _ _ _ _) hlZ)⟩) ?_
 ·have h2:=h.at_ hlZ tp 0 d;walk_nrm;refine(NY A c ss _ (fi.more (hS.dH tp 0 h2.bare) (bM hB h2.size)) hlen).mono ?_;rintro e w' ⟨v,rfl,ho,hb⟩;exact⟨v,rfl,jU.of (In.xw h2 ho hb)⟩
 rintro _ w1 ⟨pv,e,km⟩;injection e with e
 subst e;clear h;walk_nrm;have hpf:=cM (In.own (show In G _ _ w1 from km));obtain⟨pA,pc,e,_⟩:=hpf;subst e;refine aN hF (.tuple #[.slice pA (eF ss).1.length pc,.int .i64 (eF ss).2]) ?_;walk_nrm;refine aN hF (.slice pA (eF ss).1.length pc) ?_;walk_nrm;refine aN hF (.int .i64 (eF ss).2) ?_;walk_nrm;refine aN hF (.slice pA (eF ss).1.length pc) ?_;walk_nrm;refine aN hF (.int .i64 (eF ss).2) ?_;walk_nrm;refine dz ?_;show eT _ _ _ _ _ _ _ w1;refine cB (cB ?_);by_cases hp0:(eF ss).2=0
 rotate_left
 ·refine bE ?_;refine aN hF (.int .i64 (eF ss).2) ?_;walk_nrm;refine aN hF (.bool aw) ?_;walk_nrm;refine dz ?_;refine iK (t:=true) rfl ?_;rw[if_pos rfl];refine cB (bE ?_);refine aN hF (.int .i64 (eF ss).2) ?_;walk_nrm;refine aN hF (.int .i64 (eF ss).2) ?_;walk_nrm;refine dz ?_;refine qC ?_;refine⟨.int .i64 (eF ss).2,by rw[results_tmp rfl];rfl,rfl,?_⟩;rw[if_neg hp0];exact In.drop km
 simp only[UU hp0,hp0]at km|-;refine bE ?_;refine aN hF (.int .i64 0) ?_;walk_nrm;refine aN hF (.bool ay) ?_;walk_nrm;refine dz ?_;refine iK (t:=false) rfl ?_;rw[if_neg (by simp)];refine oG ?_;show eT _ _ _ _ _ _ _ w1;refine cB (cB ?_);refine bE ?_;refine aN hF (.int .i64 ((0:Nat):Int)) ?_;walk_nrm;refine dz ?_;show eT _ _ _ _ _ _ _ w1;refine Ca ?_;refine PR (Xf O G w0 l A c p hn ss z (.slice pA (cA ss ss.length).length pc)) (ss.length+1-0) ⟨0,_,_,_,_,_,_,_,_,_,_,_,_,_,_,_,_,_,_,_,_,_,_,_,_,_,_,_,_,_,_,_,_,_,_,_,_,_,_,_,_,_,_,_,_,_,_,_,_,_,_,_,_,_,_,_,_,_,_,_,_,_,_,_,_,_,_,_,_,_,_,_,_,_,_,rfl,rfl,cE _,?_⟩ λm a w2 hI=> ?_
 ·rw[Rh];exact In.swap km
 ·refine yu (Ri hold hl hS hk (by omega) (by omega) hp0 hI) λe a w3 hq=> ?_
  match e,hq with
  | .normal,hq=>exact hq
  | .exit 0,hq=>
    obtain⟨kJ,fj⟩:=hq;show eT _ _ _ _ _ _ _ w3;refine cB (bE ?_);refine aN hF (.int .i64 0) ?_;refine dz ?_;refine qC ?_;refine⟨.int .i64 0,?_,rfl,?_⟩
    ·rw[results_tmp rfl];show Result.ok ((a.tmps.setIfInBounds 6 (.int .i64 0)).getD 6 undef) w3=_;rw[bH,aU (by omega)]
     rfl
    ·rw[if_pos trivial];exact fj
  | .exit (n+1),hq=>exact hq.elim
  | .ret,hq=>exact hq.elim
  | .goto _,hq=>exact hq.elim
  | .panic _,hq=>exact hq.elim
  | .outgrown,hq=>exact hq.elim
end
def nD.dH {G:Nat->Prop}{w0:ah}{B:Nat}{A:Option Addr}{os:List lD}(h:nD G w0 B A os)(tp:Nat->Question->Nat)(d:Nat):nD G (Rel.dH w0 tp d) B A os:=λ{W} hI=>by have h1:In G w0 [] (Rel.dH W w0.tape W.drawn):=⟨trivial,⟨hI.only.os,rfl,hI.only.output,hI.only.size,hI.only.block⟩⟩;have h2:=h h1;exact h2
def jU.join {F:Nat->Prop}{w0 w1 w2:ah}(h1:jU F w0 [] w1)(h2:jU F w1 [] w2):jU F w0 [] w2:=by have a:=h1.only;have b:=h2.only;exact⟨trivial,⟨b.os.trans a.os,rfl,b.output.trans a.output,bM a.size b.size,λk hk hn=>(b.block k (cc hk a.size) hn).trans (a.block k hk hn)⟩⟩
def jU.bare {F:Nat->Prop}{w0 w:ah}{l:List bU}(h:jU F w0 l w):jU F w0 [] w:=In.bare (show In F _ _ w from h)
abbrev JD (g:Nat):bU:=br g 36 #[.slice ai 0 0,.slice ai 0 0,.slice ai 0 0]
section
variable {O:vO} {Post:ao->ah->Prop} {G:Nat->Prop} {w0 w:ah} {L:List bU} {fn:bK} {ops:Array Oper} {i:Nat} {rest:List Nat} {o:Oper} {f:bK} {args:Array cG} {uz:Array aA} {Q:Exit->Act->ah->Prop} {a:Act}
def rN (R:ao->List bU->Prop)(ho:ops[i]? =ae o)(hw:bu o (yielded ops a.tmps)=aw)(hop:o.op=.call {callee:=.value (.func f),args,argTypes:=uz})(hf:xV.contains f=aw)(pZ:lF ((mV O).at fn) f 0 args.toList=aw)(hl:xd L)(h:jU G w0 L w)(hR: ∀v L',R v L'->xd L')(wm: ∀tp d,In G (Rel.dH w0 tp 0) L (Rel.dH w tp d)->Calls aj f (args.map a.eval) (Rel.dH w tp d) λe u=> ∃v L',e=.returned v/\R v L'/\In G (Rel.dH w0 tp 0) L' u)(si: ∀v L' w',R v L'->jU G w0 L' w'->qQ aj (mV O) Post fn ops rest Q (a.put o.dst v) w'):qQ aj (mV O) Post fn ops (i::rest) Q a w:=
 xA (oF O) (R:=λe u=> ∃v L',e=.returned v/\R v L'/\jU G w0 L' u) ho hw hop hf pZ
  (λtp d=>(wm tp d (h.at_ hl tp 0 d)).mono λe u ⟨v,L',h1,h2,h3⟩=>⟨v,L',h1,h2,jU.of h3⟩) (λe u ⟨v,_,h,_⟩=>⟨v,h⟩)
  (λv u tp d ⟨v',L',h1,h2,h3⟩=>⟨v',L',h1,h2,h3.Tm (hR v' L' h2)⟩)
  λv u ⟨v',L',h1,h2,h3⟩=>by
   injection h1 with h1
   subst h1;exact si v L' u h2 h3
end
section
variable {O:vO} {Post:ao->ah->Prop} {A A':Option Addr} {c c':Nat} {w:ah}
def aci (hold:O.n<=w.heap.size)(hO:nD (λ_=>False) w w.heap.size A [Df])(hS:om (λ_=>False) w w.heap.size A' [po]):vM aj (mV O) Post 22 #[.slice A 1 c,.slice A' 1 c',.int .i64 0] w λv w'=> ∃gv rv bv,v=.tuple #[.agg #[gv,rv,bv],.int .i64 0]/\jU (λ_=>False) w (fM gv (iP jT.ls)::eo rv (lM jT [po]).rows::xI bv jT.B::[]) w':=by
 have afW:kI jT:=by have:=kI.do_ kI.nil (o:=Df) rfl;rwa[Ty]at this
 have IZ:=RA;refine⟨_,_,Tryz.func22,rfl,rfl,rfl,?_⟩;have hF:=oF O;have yZ:Tryz.f22.ntmps=35:=rfl;simp only[yZ,dT,dF,cy,aV,aD,aP,Nat.reduceAdd,Nat.reduceSub,dD,dE,ez];simp only[Tryz.f22];refine cB (bE ?_);refine fQ hF (w':=w.alloc (.cells #[.slice ai 0 0,.slice ai 0 0,.slice ai 0 0] 36)) (v:=ptr w.heap.size) rfl rfl (by kernel_rfl) ⟨rfl,rfl⟩ (λtp d=>by go_simp;exact⟨rfl,rfl⟩) ?_;walk_nrm;have km:jU (λ_=>False) w [JD w.heap.size] (w.alloc (.cells #[.slice ai 0 0,.slice ai 0 0,.slice ai 0 0] 36)):=jU.abP ((In.nil w (λ_=>False)).alloc 36 _);generalize w.alloc (.cells #[.slice ai 0 0,.slice ai 0 0,.slice ai 0 0] 36)=w1 at *;refine aN hF (.int .i64 0) ?_;walk_nrm;refine dz ?_;show eT _ _ _ _ _ _ _ w1;refine cB (bE ?_);refine rN (f:=35) (λv L'=> ∃p,v=ptr p/\L'=[di p vF,JD w.heap.size]) rfl rfl rfl (by decide+kernel) (by kernel_rfl) (.cons (br.hp _ _ _) .nil) km (by rintro v L' ⟨p,_,rfl⟩;exact .cons (di.hp _ _) (.cons (br.hp _ _ _) .nil)) (λtp d h1=> ?_) ?_
 ·walk_nrm;refine(Tx h1).mono ?_;rintro e u ⟨p,rfl,h2⟩;exact⟨_,_,rfl,⟨p,rfl,rfl⟩,h2⟩
 rintro _ _ w2 ⟨p,rfl,rfl⟩ gm;clear km;walk_nrm;refine aN hF (ptr p) ?_;walk_nrm;refine dz ?_;show eT _ _ _ _ _ _ _ w2;refine cB (bE ?_);refine aN hF (ptr p) ?_;walk_nrm;refine aN hF (.slice A 1 c) ?_;walk_nrm;refine rN (f:=49) (λv L'=>v=.tuple #[.int .i64 1,.int .i64 0]/\L'=[di p jT,JD w.heap.size]) rfl rfl rfl (by decide+kernel) (by kernel_rfl) (.cons (di.hp _ _) (.cons (br.hp _ _ _) .nil)) gm (by rintro v L' ⟨_,rfl⟩;exact .cons (di.hp _ _) (.cons (br.hp _ _ _) .nil)) (λtp d h1=> ?_) ?_
 ·walk_nrm;refine(ahe (hO.dH tp 0) h1).mono ?_;rintro e u ⟨rfl,h2⟩;exact⟨_,_,rfl,⟨rfl,rfl⟩,h2⟩
 rintro _ _ w3 ⟨rfl,rfl⟩ fj;clear gm;walk_nrm;refine aN hF (.tuple #[.int .i64 1,.int .i64 0]) ?_;walk_nrm;refine aN hF (.int .i64 1) ?_;walk_nrm;refine aN hF (.int .i64 0) ?_;walk_nrm;refine aN hF (.int .i64 1) ?_;walk_nrm;refine aN hF (.int .i64 0) ?_;walk_nrm;refine dz ?_;show eT _ _ _ _ _ _ _ w3;refine cB (cB ?_);refine bE ?_;refine aN hF (.int .i64 0) ?_;walk_nrm;refine aN hF (.bool aw) ?_;walk_nrm;refine dz ?_;refine iK (t:=true) rfl ?_;rw[if_pos rfl];refine cB (bE ?_);refine aN hF (.int .i64 0) ?_;walk_nrm;refine aN hF (.bool aw) ?_;walk_nrm;refine dz ?_;refine iK (t:=true) rfl ?_;rw[if_pos rfl];refine bE ?_;refine aN hF (ptr p) ?_;walk_nrm;refine aN hF (.slice A' 1 c') ?_;walk_nrm;refine rN (f:=12) (λv L'=>v=.int .i64 0/\L'=[di p (lM jT [po]),JD w.heap.size]) rfl rfl rfl (by decide+kernel) (by kernel_rfl) (.cons (di.hp _ _) (.cons (br.hp _ _ _) .nil)) fj (by rintro v L' ⟨_,rfl⟩;exact .cons (di.hp _ _) (.cons (br.hp _ _ _) .nil)) (λtp d h1=> ?_) ?_
 ·walk_nrm;refine(Ra (c:=c') (hS.dH tp 0) (ax _) (by decide) h1 afW).mono ?_;rintro e u ⟨rfl,h2⟩;rw[IZ,if_pos rfl]at h2;exact⟨_,_,rfl,⟨by rw[IZ],rfl⟩,h2⟩
 rintro _ _ w4 ⟨rfl,rfl⟩ gq;clear fj;walk_nrm;refine aN hF (.int .i64 0) ?_;walk_nrm;refine dz ?_;show eT _ _ _ _ _ _ _ w4;refine cB (cB ?_);refine bE ?_;refine aN hF (.int .i64 0) ?_;walk_nrm;refine aN hF (.bool ay) ?_;walk_nrm;refine dz ?_;refine iK (t:=false) rfl ?_;rw[if_neg (by simp)];refine oG ?_;show eT _ _ _ _ _ _ _ w4;refine cB (bE ?_);refine aN hF (ptr p) ?_;walk_nrm;refine rN (f:=16) (λv L'=> ∃A1 c1 A2 c2 A3 c3,v=.agg #[.slice A1 (iP jT.ls).length c1,.slice A2 (lM jT [po]).rows.length c2,.slice A3 jT.B.length c3]/\L'=[JD w.heap.size,fM (.slice A1 (iP jT.ls).length c1) (iP jT.ls),eo (.slice A2 (lM jT [po]).rows.length c2) (lM jT [po]).rows,xI (.slice A3 jT.B.length c3) jT.B,di p (lM jT [po])]) rfl rfl rfl (by decide+kernel) (by kernel_rfl) (.cons (di.hp _ _) (.cons (br.hp _ _ _) .nil)) gq (by rintro v L' ⟨_,_,_,_,_,_,_,rfl⟩;exact .cons (br.hp _ _ _) (.cons (eD.hp _ _ _ _ _) (.cons (eD.hp _ _ _ _ _) (.cons (eD.hp _ _ _ _ _) (.cons (di.hp _ _) .nil))))) (λtp d h1=> ?_) ?_
 ·walk_nrm;refine(yV h1 (afW.run [po])).mono ?_;rintro e u ⟨A1,c1,A2,c2,A3,c3,rfl,h2⟩;rw[(S9 jT [po]).1,(S9 jT [po]).2]at *;exact⟨_,_,rfl,⟨A1,c1,A2,c2,A3,c3,rfl,rfl⟩,h2.reorder 5 [4,0,1,2,3] rfl (by simp)⟩
 rintro _ _ w5 ⟨A1,c1,A2,c2,A3,c3,rfl,rfl⟩ fD;clear gq;walk_nrm;have f1: ∀tp d,fits (Rel.dH w5 tp d) w.heap.size 0 3=aw:=λtp d=>(In.blk (show In _ _ _ w5 from fD)).fits 0 3 (by simp)
 have j6:=jU.of (tp:=w5.tape) (d:=w.drawn) (w0:=w) (In.UY (show In _ _ _ w5 from fD) [.slice A1 (iP jT.ls).length c1,.slice A2 (lM jT [po]).rows.length c2,.slice A3 jT.B.length c3] rfl);refine Bj hF (w':=ia w5 w.heap.size 0 [.slice A1 (iP jT.ls).length c1,.slice A2 (lM jT [po]).rows.length c2,.slice A3 jT.B.length c3]) rfl rfl (by kernel_rfl) (λtp d=>by have h:=f1 tp d;go_simp;rfl) ?_;walk_nrm;clear fD f1;generalize ia w5 w.heap.size 0 [.slice A1 (iP jT.ls).length c1,.slice A2 (lM jT [po]).rows.length c2,.slice A3 jT.B.length c3]=w6 at *;refine aN hF (.int .i64 0) ?_;walk_nrm;refine dz ?_;refine qC ?_;refine⟨.tuple #[.agg #[.slice A1 (iP jT.ls).length c1,.slice A2 (lM jT [po]).rows.length c2,.slice A3 jT.B.length c3],.int .i64 0],?_,_,_,_,rfl,?_⟩
 ·have hz: ∀(fn:Func) (tmps:Array ao),fn.results= #[.cell 6 36,.tmp 7]->tmps.getD 6 undef=ptr w.heap.size->(results fn tmps).run aj w6=.ok (.tuple #[.agg #[.slice A1 (iP jT.ls).length c1,.slice A2 (lM jT [po]).rows.length c2,.slice A3 jT.B.length c3],tmps.getD 7 undef]) w6:=λfn tmps h1 h2=>vr h1 tmps w6 w.heap.size 36 #[.slice A1 (iP jT.ls).length c1,.slice A2 (lM jT [po]).rows.length c2,.slice A3 jT.B.length c3] (0,0) _ h2 (In.blk j6) Tryz.underlying36 rfl u6
  exact hz _ _ rfl rfl
 ·exact In.drop (In.fourth (In.drop j6))
end
section
variable {O:vO} {Post:ao->ah->Prop} {w:ah}
def ae2 (hold:O.n<=w.heap.size):vM aj (mV O) Post 23 #[] w λv w'=>v=.bool aw/\jU (λ_=>False) w [] w':=by
 have h8: ∀o∈[Df],o.b.v.length=8:=by intro o ho;rw[eO]at ho;rw[ho];rfl
 refine⟨_,_,Tryz.func23,rfl,rfl,rfl,?_⟩;have hF:=oF O;have yZ:Tryz.f23.ntmps=30:=rfl;simp only[yZ,dT,dF,cy,aV,aD,aP,Nat.reduceAdd,Nat.reduceSub,dD,dE,ez];simp only[Tryz.f23];refine cB (bE ?_);refine aN hF (.bool ay) ?_;walk_nrm;refine dz ?_;show eT _ _ _ _ _ _ _ w;refine cB (bE ?_);refine fQ hF (w':=w) (v:=.agg (ints [3,0,0,0,0,0,0,0,0])) rfl rfl (by kernel_rfl) ⟨rfl,rfl⟩ (λtp d=>by kernel_rfl) ?_;walk_nrm;refine fQ hF (w':=w) (v:=.agg (ints [1,3,0,0,0,0,0,0,0,0,0,0,0,0,0,0])) rfl rfl (by kernel_rfl) ⟨rfl,rfl⟩ (λtp d=>by kernel_rfl) ?_;walk_nrm;refine fQ hF (w':=w.alloc (.cells (ints ([Df].flatMap lD.list)) 74)) (v:=.slice (ae ⟨w.heap.size,0,ai⟩) 1 1) rfl rfl (by kernel_rfl) ⟨rfl,rfl⟩ (λtp d=>by kernel_rfl) ?_;walk_nrm;refine fQ hF (w':=w.alloc (.cells (ints ([Df].flatMap lD.list)) 74)) (v:=.agg (ints [0,0,0,0,2,1,7])) rfl rfl (by kernel_rfl) ⟨rfl,rfl⟩ (λtp d=>by kernel_rfl) ?_;walk_nrm;refine fQ hF (w':=(w.alloc (.cells (ints ([Df].flatMap lD.list)) 74)).alloc (.cells (ints ([po].flatMap Sys.list)) 54)) (v:=.slice (ae ⟨w.heap.size+1,0,ai⟩) 1 1) rfl rfl (by kernel_rfl) ⟨rfl,rfl⟩ (λtp d=>by rw[show w.heap.size+1=((w.alloc (.cells (ints ([Df].flatMap lD.list)) 74)).heap.size)by simp];kernel_rfl) ?_;walk_nrm;have hI:In (λ_=>False) w [br (w.heap.size+1) 54 (ints ([po].flatMap Sys.list)),br w.heap.size 74 (ints ([Df].flatMap lD.list))] ((w.alloc (.cells (ints ([Df].flatMap lD.list)) 74)).alloc (.cells (ints ([po].flatMap Sys.list)) 54)):=by have:=((In.nil w (λ_=>False)).alloc 74 (ints ([Df].flatMap lD.list))).alloc 54 (ints ([po].flatMap Sys.list));rw[dw]at this;exact this
 have hO:=nD.EP (F:=λ_=>False) hI.swap.blk h8 (λh=>h) (In.nil _ _);have hS:=om.EP (F:=λ_=>False) hI.blk (λh=>h) (In.nil _ _);have kJ:((w.alloc (.cells (ints ([Df].flatMap lD.list)) 74)).alloc (.cells (ints ([po].flatMap Sys.list)) 54)).heap.size=w.heap.size+2:=by simp
 have hB:jU (λ_=>False) w [] ((w.alloc (.cells (ints ([Df].flatMap lD.list)) 74)).alloc (.cells (ints ([po].flatMap Sys.list)) 54)):=jU.abP hI.bare;generalize (w.alloc (.cells (ints ([Df].flatMap lD.list)) 74)).alloc (.cells (ints ([po].flatMap Sys.list)) 54)=w2 at *;refine xy (f:=22) (R:=λv w'=> ∃gv rv bv,v=.tuple #[.agg #[gv,rv,bv],.int .i64 0]/\jU (λ_=>False) w2 (fM gv (iP [(0,aw)])::eo rv [⟨(0,0),⟨3,[0,7,0,0,0,0,0,0]⟩⟩]::xI bv []::[]) w') rfl rfl rfl (λj u hj=>.inl ?_) ?_ ?_
 ·rcases j with _|_|_|j
  ·cases hj;kernel_rfl
  ·cases hj;kernel_rfl
  ·cases hj;kernel_rfl
  ·simp at hj
 ·walk_nrm;have:=aci (O:=O) (Post:=Post) (A:=ae ⟨w.heap.size,0,ai⟩) (A':=ae ⟨w.heap.size+1,0,ai⟩) (c:=1) (c':=1) (w:=w2) (by omega) (nD.Bh (fi.more hO (by omega))) (om.Bh (fi.more hS (by omega)));rw[show(lM jT [po]).rows=_ from RB]at this;exact this
 rintro _ w3 ⟨gv,rv,bv,rfl,fj⟩;obtain⟨A1,c1,rfl,_,_,_⟩:=cM (In.own (show In _ _ _ w3 from fj));obtain⟨A2,c2,rfl,_,_,_⟩:=cM (In.own (In.swap (show In _ _ _ w3 from fj)));obtain⟨A3,c3,rfl,_,_,_⟩:=cM (In.own (In.third (show In _ _ _ w3 from fj)));obtain⟨g,rfl,_⟩:=yN (In.swap (show In _ _ _ w3 from fj)) (k:=0) (by simp) rfl;walk_nrm;refine aN hF (.tuple #[.agg #[.slice A1 (iP [(0,aw)]).length c1,.slice (ae ⟨g,0,ai⟩) [(⟨(0,0),⟨3,[0,7,0,0,0,0,0,0]⟩⟩:cQ)].length c2,.slice A3 ([]:List (Hd×Hd)).length c3],.int .i64 0]) ?_;walk_nrm;refine aN hF (.agg #[.slice A1 (iP [(0,aw)]).length c1,.slice (ae ⟨g,0,ai⟩) [(⟨(0,0),⟨3,[0,7,0,0,0,0,0,0]⟩⟩:cQ)].length c2,.slice A3 ([]:List (Hd×Hd)).length c3]) ?_;walk_nrm;refine aN hF (.int .i64 0) ?_;walk_nrm;refine fQ hF (w':=w3.alloc (.cells #[.slice ai 0 0,.slice ai 0 0,.slice ai 0 0] 36)) (v:=ptr w3.heap.size) rfl rfl (by kernel_rfl) ⟨rfl,rfl⟩ (λtp d=>by go_simp;exact⟨rfl,rfl⟩) ?_;walk_nrm;have gq:jU (λ_=>False) w2 (JD w3.heap.size::fM (.slice A1 (iP [(0,aw)]).length c1) (iP [(0,aw)])::eo (.slice (ae ⟨g,0,ai⟩) [(⟨(0,0),⟨3,[0,7,0,0,0,0,0,0]⟩⟩:cQ)].length c2) [⟨(0,0),⟨3,[0,7,0,0,0,0,0,0]⟩⟩]::xI (.slice A3 ([]:List (Hd×Hd)).length c3) []::[]) (w3.alloc (.cells #[.slice ai 0 0,.slice ai 0 0,.slice ai 0 0] 36)):=In.alloc (show In _ _ _ w3 from fj) _ _;generalize w3.alloc (.cells #[.slice ai 0 0,.slice ai 0 0,.slice ai 0 0] 36)=w4 at *;generalize w3.heap.size=sb at *;have f1: ∀tp d,fits (Rel.dH w4 tp d) sb 0 3=aw:=λtp d=>(In.blk (show In _ _ _ w4 from gq)).fits 0 3 (by simp)
 have fD:=jU.of (tp:=w4.tape) (d:=w2.drawn) (w0:=w2) (In.UY (show In _ _ _ w4 from gq) [.slice A1 (iP [(0,aw)]).length c1,.slice (ae ⟨g,0,ai⟩) [(⟨(0,0),⟨3,[0,7,0,0,0,0,0,0]⟩⟩:cQ)].length c2,.slice A3 ([]:List (Hd×Hd)).length c3] rfl);refine Bj hF (w':=ia w4 sb 0 [.slice A1 (iP [(0,aw)]).length c1,.slice (ae ⟨g,0,ai⟩) [(⟨(0,0),⟨3,[0,7,0,0,0,0,0,0]⟩⟩:cQ)].length c2,.slice A3 ([]:List (Hd×Hd)).length c3]) rfl rfl (by kernel_rfl) (λtp d=>by have h:=f1 tp d;go_simp;rfl) ?_;walk_nrm;clear fj gq f1;generalize ia w4 sb 0 [.slice A1 (iP [(0,aw)]).length c1,.slice (ae ⟨g,0,ai⟩) [(⟨(0,0),⟨3,[0,7,0,0,0,0,0,0]⟩⟩:cQ)].length c2,.slice A3 ([]:List (Hd×Hd)).length c3]=w5 at *;refine aN hF (.int .i64 0) ?_;walk_nrm;refine dz ?_;show eT _ _ _ _ _ _ _ w5;have k1: ∀tp d,(Rel.dH w5 tp d).cell? ⟨sb,1,ai⟩=ae (.slice (ae ⟨g,0,ai⟩) 1 c2):=λtp d=>(In.blk (show In _ _ _ w5 from fD)).cell 1
 obtain⟨g',e0,q⟩:=yN (In.third (show In _ _ _ w5 from fD)) (k:=0) (by simp) rfl;have e1:g'=g:=by injection e0 with e0;injection e0 with e0;exact e0.symm
 subst e1;refine cB (bE ?_);have k2: ∀tp d,row? (Rel.dH w5 tp d) g' 3 8=ae (ints [0,7,0,0,0,0,0,0]):=λtp d=>xF q 3 8 (by omega)
 refine aN hF (.int .i64 0) ?_;walk_nrm;refine aN hF (.bool aw) ?_;walk_nrm;refine aN hF (.bool aw) ?_;walk_nrm;refine aN hF (.pointer (ae ⟨sb,1,ai⟩)) ?_;walk_nrm;refine fQ hF (w':=w5) (v:=.slice (ae ⟨g',0,ai⟩) 1 c2) rfl rfl (by kernel_rfl) ⟨rfl,rfl⟩ (λtp d=>by have h:=k1 tp d;go_simp) ?_;walk_nrm;refine aN hF (.int .i64 1) ?_;walk_nrm;refine aN hF (.bool aw) ?_;walk_nrm;refine aN hF (.bool aw) ?_;walk_nrm;refine aN hF (.bool aw) ?_;walk_nrm;refine aN hF (.pointer (ae ⟨sb,1,ai⟩)) ?_;walk_nrm;refine fQ hF (w':=w5) (v:=.slice (ae ⟨g',0,ai⟩) 1 c2) rfl rfl (by kernel_rfl) ⟨rfl,rfl⟩ (λtp d=>by have h:=k1 tp d;go_simp) ?_;walk_nrm;refine aN hF (.pointer (ae ⟨g',0,ai⟩)) ?_;walk_nrm;refine aN hF (.pointer (ae ⟨g',2,ai⟩)) ?_;walk_nrm;refine aN hF (.pointer (ae ⟨g',3,ai⟩)) ?_;walk_nrm;refine fQ hF (w':=w5) (v:=.agg (ints [0,7,0,0,0,0,0,0])) rfl rfl (by kernel_rfl) ⟨rfl,rfl⟩ (λtp d=>by have h:=k2 tp d;go_simp) ?_;walk_nrm;refine fQ hF (w':=w5) (v:=.agg (ints [0,7,0,0,0,0,0,0])) rfl rfl (by kernel_rfl) ⟨rfl,rfl⟩ (λtp d=>by kernel_rfl) ?_;walk_nrm;refine fQ hF (w':=w5) (v:=.bool aw) rfl rfl (by kernel_rfl) ⟨rfl,rfl⟩ (λtp d=>by kernel_rfl) ?_;walk_nrm;refine aN hF (.bool aw) ?_;walk_nrm;refine aN hF (.bool aw) ?_;walk_nrm;refine dz ?_;refine qC ⟨.bool aw,by rw[results_tmp rfl];rfl,rfl,?_⟩;exact hB.join (jU.bare fD)
end
end
section
open Rel
open Go.Conc Go.ConcN
open Go.RowKit Go.ChangeShapes Go.WideShapes Go.ChangeAt Go.Deep
def tP (W:ah):vO:=⟨W.heap.size,λa=>match W.cell? a with|some (.int .i64 x)=>ae x|_=>Option.none,λa x h=>by
 split at h
 ·rename_i hc;exact zi hc
 ·cases h⟩
def QK {W:ah}{a:Addr}{x:Int}(h:(tP W).mem a=ae x):W.cell? a=ae (.int .i64 x):=by
 have h:(match W.cell? a with|some (.int .i64 x)=>ae x|_=>Option.none)=ae x:=h
 split at h
 ·rename_i hc;cases h;exact hc
 ·cases h
def UK {W:ah}{a:Addr}{x:Int}(h:W.cell? a=ae (.int .i64 x)):(tP W).mem a=ae x:=by show(match W.cell? a with|some (.int .i64 x)=>ae x|_=>Option.none)=ae x;rw[h]
def acb {W:ah}{b o n:Nat}{xs:List Int}(h:row? W b o n=ae (ints xs))(hn:xs.length=n): ∀j,j<n-> ∃x,(tP W).mem ⟨b,o+j,ai⟩=ae x:=λj hj=>⟨xs[j],UK (Ms h hn (aq (by omega)))⟩
def aaF (W:ah)(f:bK)(i:Nat)(v:ao):Prop:=(i∈bdM f/\mH (mV (tP W)) (kdM f i) v)\/BS (mV (tP W)).sig v
def B1 {W:ah}{e:aA}{m:Nat}(hm:MU e=ae m){A:Option Addr}{rs:List (List Int)}(h:fi W W.heap.size m A rs)(c:Nat):mH (mV (tP W)) (.sl e) (.slice A rs.length c)\/BS (mV (tP W)).sig (.slice A rs.length c):=by
 cases A with
 |none=>exact .inr λπ=>.kE _ _
 |some a=>refine .inl ⟨a,_,_,rfl,λm' Ws i hi=> ?_⟩;have Ws:MU e=ae m':=Ws;rw[hm]at Ws;cases Ws;obtain⟨b,o,e1,_,hr⟩:=fi.at_ h hi;cases e1;have ea:(⟨b,o,ai⟩:Addr).add (i *m)=⟨b,o+i *m,ai⟩:=zc _ rfl _;rw[ea];exact⟨rfl,m,hm,acb hr (h.1 _ (bg hi))⟩
def Mf {W:ah}{f:bK}{i:Nat}(hi:i∈bdM f)(hk:kdM f i=.sl 74){A:Option Addr}{os:List lD}(h:vg W W.heap.size A os)(c:Nat):aaF W f i (.slice A os.length c):=by
 have:=B1 (e:=74) rfl h c;rw[aL]at this;rcases this with h1|h1
 ·exact .inl ⟨hi,by rw[hk];exact h1⟩
 ·exact .inr h1
def Xo {W:ah}{f:bK}{i:Nat}(hi:i∈bdM f)(hk:kdM f i=.sl 54){A:Option Addr}{ss:List Sys}(h:vi W W.heap.size A ss)(c:Nat):aaF W f i (.slice A ss.length c):=by
 have:=B1 (e:=54) rfl h c;rw[aL]at this;rcases this with h1|h1
 ·exact .inl ⟨hi,by rw[hk];exact h1⟩
 ·exact .inr h1
def Xn {W:ah}{f:bK}{i:Nat}(n:Int):aaF W f i (.int .i64 n):=.inr λ_=>.int _ _
def KZ:Tryz.prog.globals.size=0:=by decide+kernel
def UB {os:Os}(started:os.Started){H:Type}{enc:aA×ao->H}{f:bK}{fn:Func}{s:ChangeSpec}(aey:Tryz.checked.prog.inits.idxOf? f=ai)(Wk:Tryz.checked.prog.funcs[f]? =ae fn)(hts: ∀t∈fn.params.toList,Tryz.prog.readableRec t=aw/\t<Tryz.prog.types.size)(tE:fn.resultTypes= #[4])(I1:s.vars=[])(hs: ∀ds:List (DataW H),ds.length=fn.params.toList.length->s.fn H ds={results:=[.lit (.bool aw)],args:=ds})(witness: ∃(w:ah) (tape:Tape) (i:Input),w.os=os/\(w.forCall tape i).Shaped Tryz.checked.prog/\i.vars=[]/\Input.okWide Tryz.checked.prog (w.forCall tape i) .any w.heap.size f i/\s.pre6 enc Tryz.checked.prog fn [] ay (w.forCall tape i).memory i.args/\Assume.holds {} Tryz.checked.prog (lone (fG Tryz.checked.prog f i.args .normal) [] (w.forCall tape i)))(walk: ∀(W:ah) (base:Nat) (args:Array ao) (ds:List (DataW H)) (p:List MemPlace),(∀(j:Nat) t v,fn.params[j]? =ae t->args[j]? =ae v->Value.okWide aj W .any base t v)->DataW.TrodAll enc aj W 0 (λ_=>aw) aw fn.params.toList args.toList ds p->(∀x∈p,x.block<W.heap.size)->(DataW.weightsEach aj fn.params.toList ds).all (· <=reachBytes)=aw->(∀i v,args[i]? =ae v->aaF W f i v)/\ ∀Post,vM aj (mV (tP W)) Post f args W λv W'=>v=.bool aw/\jU (λ_=>False) W [] W'):ReturnsInLeavingWide {} Tryz.checked os f .any (s.pre6 enc aj fn [] ay) (s.post enc aj fn ay aw ay ay):=by
 refine returnsInLeavingWide_of_change_sized (C:=Tryz.checked) Zq started Wk witness ?_;intro W base args ds gs before KB hW _ kJ _;have hW':=hW;obtain⟨p,q,hA,hV,rfl,_,_⟩:=hW;rw[I1]at hV;obtain⟨rfl,rfl⟩:=trodVars_none hV;have bJ: ∀x∈p,x.block<W.heap.size:=λx hx=>hW'.lt x (by simpa using hx)
 have hv:s.plain.varTypes Tryz.checked.prog=[]:=by simp[ChangeSpec.plain,DataSpec.varTypes,I1]
 rw[hv,ew,ew]at kJ;have hlen:ds.length=fn.params.toList.length:=by
  have ah3: ∀(ts:List aA) (vs:List ao) (ds:List (DataW H)) (ps:List MemPlace),DataW.TrodAll enc aj W 0 (λ_=>aw) aw ts vs ds ps->ds.length=ts.length:=by
   intro ts
   induction ts with
   |nil=>intro vs ds ps h;obtain⟨_,rfl,_⟩:=trodAll_nil h;rfl
   |cons t ts ih=>intro vs ds ps h;obtain⟨v,vs',d,Wc,p,q,_,rfl,_,_,h2⟩:=trodAll_cons h;simp[ih _ _ _ h2]
  exact ah3 _ _ _ _ hA
 obtain⟨pZ,wm⟩:=walk W base args ds p KB hA bJ kJ;refine Y3 (P:=aj) (c:=mV (tP W)) (f:=f) (args:=args) (w:=W) (by rw[KZ];exact cE _) aey pZ (λa x h=>QK h) ?_ (wm _);rintro v w' ⟨rfl,hI⟩ tp d;have km:=hI.dH .nil tp d;have hb:Below W.heap.size (Rel.dH W tp W.drawn) (Rel.dH w' tp d):=In.jI (show In (λ_=>False) (Rel.dH W tp W.drawn) [] (Rel.dH w' tp d)from km);have hW1:DataW.Whole enc Tryz.checked.prog fn.params.toList s.vars ay (Rel.dH W tp W.drawn) args.toList ds [] (p++[]):=DataW.Whole.of_heap (w':=Rel.dH W tp W.drawn) (by rfl) hW';have Ng:=Y2 (W:=Rel.dH W tp W.drawn) Y1 hts tE Tryz.underlying4 I1 (hs ds hlen) hW1 hb;obtain⟨Wc,tA,bf,pr,pa,pv,g1,g2,g3,g4,g5,g6⟩:=Ng;exact⟨Wc,tA,bf,pr,pa,pv,DataW.Whole.of_heap (w':=W) (by rfl) g1,g2,g3,g4,g5,g6⟩
end
section
open Rel
open Go.Conc Go.ConcN
open Go.RowKit
def In.adP {G:Nat->Prop}{A B:bU}{l:List bU}{w0 w:ah}(h:In G w0 (A::B::l) w):In G w0 [A,B] w:=by
 induction l with
 |nil=>exact h
 |cons D l ih=>exact ih (In.drop (In.third h))
def Ec (x y u:ao)(W:ah):(Instr.field 36 (.agg #[x,y,u]) 1).run aj W=.ok y W:=by kernel_rfl
noncomputable def DC:Code:=match Tryz.f9.body with|some (.seq _ (.seq _ (.seq _ (.seq _ (.seq _ (.seq x _))))))=>x|_=>.skip
noncomputable def DD:Code:=match Tryz.f9.body with|some (.seq _ (.seq _ (.seq _ (.seq _ (.seq _ (.seq _ (.seq _ x)))))))=>x|_=>.skip
section
variable {G:Nat->Prop} {w0 w:ah} {A Aq A' Ag Ar Ab:Option Addr} {c cq c' cg cr cb n1 n2 B p:Nat} {os qs:List lD} {ss:List Sys} {fY r se:Int} {z z0:ZS} {l:List bU} {D0:List eE}
def Rt (hQ:nD G w0 B Aq qs)(hlen:qs.length<=1099511627776)(hq8: ∀o∈qs,o.b.v.length=8)(hz:kI z)(hl:xd l)(h:In G w0 (di p z::l) w):DC.wp aj (uR λa w'=> ∃u12 u33 u34 u35 u36 u37 u38:ao,a=⟨#[.slice A os.length c,.slice Aq qs.length cq,.slice A' ss.length c',.int .i64 fY,undef,undef,undef,undef,.bool ay,.pointer (ae ⟨p,0,ai⟩),.slice Ar D0.length cr,undef,u12,undef,undef,undef,undef,undef,undef,undef,.bool aw,.bool ay,.slice A os.length c,.pointer (ae ⟨p,0,ai⟩),.pointer (ae ⟨p,0,ai⟩),.bool ay,.pointer (ae ⟨p,0,ai⟩),.agg #[.slice Ag n1 cg,.slice Ar D0.length cr,.slice Ab n2 cb],.slice Ar D0.length cr,.slice Aq qs.length cq,.int .i64 qs.length,.int .i64 qs.length,.bool ay,u33,u34,u35,u36,u37,u38,undef,undef,undef,undef,undef,undef,undef,undef,undef,undef,undef,undef,undef,undef,undef,undef,undef,undef,undef,undef,undef,undef,undef,undef,undef,undef,undef,undef,undef,undef,undef,undef,undef,undef,undef,undef,undef,undef,undef,undef,undef,undef,undef,undef,undef,undef,undef,undef],[]⟩/\jU G w0 (di p (Sn z qs)::l) w') ⟨#[.slice A os.length c,.slice Aq qs.length cq,.slice A' ss.length c',.int .i64 fY,undef,undef,undef,undef,.bool ay,.pointer (ae ⟨p,0,ai⟩),.slice Ar D0.length cr,undef,undef,undef,undef,undef,undef,undef,undef,undef,.bool aw,.bool ay,.slice A os.length c,.pointer (ae ⟨p,0,ai⟩),.pointer (ae ⟨p,0,ai⟩),.bool ay,.pointer (ae ⟨p,0,ai⟩),.agg #[.slice Ag n1 cg,.slice Ar D0.length cr,.slice Ab n2 cb],.slice Ar D0.length cr,undef,undef,undef,undef,undef,undef,undef,undef,undef,undef,undef,undef,undef,undef,undef,undef,undef,undef,undef,undef,undef,undef,undef,undef,undef,undef,undef,undef,undef,undef,undef,undef,undef,undef,undef,undef,undef,undef,undef,undef,undef,undef,undef,undef,undef,undef,undef,undef,undef,undef,undef,undef,undef,undef,undef,undef,undef,undef],[]⟩ w:=by
 have HQ:Hid (nD G w0 B Aq qs):=hQ;have HQ8:=af hq8;have HZ:=af hz;have kZ:=af h;have HL:=af hl;clear hQ hq8 hz h hl;have hqi:(qs.length:Int)<=1099511627776:=by omega
 simp only[DC,Tryz.f9]
 go_wp2_with fail
 go_loopw [31] (λi w'=> ∃k:Nat,k<=qs.length/\i=.int .i64 k/\In G w0 (di p (Sn z (qs.take k))::l) w') (λi _=>qs.length-(intOf i).toNat)
 case atStart=>exact⟨0,cE _,rfl,kZ.out⟩
 case round=>
  clear kZ;obtain⟨k,hk,rfl,hI⟩:=hrel;have HI:=af hI;clear hI;by_cases bJ:k<qs.length
  ·have vI:(k:Int)<qs.length:=by omega
   obtain⟨b,o,rfl,zJ,q1⟩:=(HQ.out HI.out.bare).at_ bJ;have HS:Hid (Sn z (qs.take (k+1))=(wa (Sn z (qs.take k)) qs[k]).1):=X7 bJ;have TD:Hid (kI (Sn z (qs.take k))):=P5 HZ.out λo ho=>HQ8.out o (pN ho)
   have HV8:Hid (qs[k].b.v.length=8):=HQ8.out _ (bg bJ);have Ug:(lD.list qs[k]).length=16:=lD.len HV8.out;generalize qs[k]=op at *;generalize Sn z (qs.take k)=zk at *
   go_upto_region 10 with(fail)
   refine bZ (In G w0 (br wr.heap.size 74 (ints op.list)::di p zk::l)) (HI.out.struct 74 [0,0,0,0,0,0,0,0,0,0,0,0,0,0,0,0] op.list Ug) ?_;generalize wr.heap.size=ob;intro w3 fj;have q2:row? w3 ob 0 16=ae (ints op.list):=fj.blk.bt Ug;have fW:=af fj.swap;clear fj q1 HI Ug
   go_wp2_with fail
   refine(RG fW.out TD.out op HV8.out).mono ?_;rintro e w4 ⟨rfl,gq⟩;have iR:=af gq;clear gq
   go_wp2_with fail
   go_roundw
   case rel=>exact⟨k+1,by omega,by go_num,by rw[HS.out];exact iR.out.swap.drop⟩
   case measure=>simp[intOf];omega
  ·have:k=qs.length:=by omega
   subst this;have HF:Hid (Sn z (qs.take qs.length)=Sn z qs):=by unfold Hid;rw[dm]
   rw[HF.out]at HI;clear bJ hk
   go_wp2_with fail
   refine⟨rfl,rfl,λtp d=>⟨_,_,_,_,_,_,_,rfl,?_⟩⟩;exact jU.of (HI.out.dH (.cons (di.hp _ _) HL.out) tp 0 d)
def Ru {u12 u33 u34 u35 u36 u37 u38:ao}(Hj: ∀r∈D0,ki r)(hm0:lj D0=aw)(hz:kI z)(h:In G w0 (di p z::qS (.slice Ar D0.length cr) D0::l) w):DD.wp aj (xk aj Tryz.f9 λv w'=>v=.bool aw/\jU G w0 [] w') ⟨#[.slice A os.length c,.slice Aq qs.length cq,.slice A' ss.length c',.int .i64 fY,undef,undef,undef,undef,.bool ay,.pointer (ae ⟨p,0,ai⟩),.slice Ar D0.length cr,undef,u12,undef,undef,undef,undef,undef,undef,undef,.bool aw,.bool ay,.slice A os.length c,.pointer (ae ⟨p,0,ai⟩),.pointer (ae ⟨p,0,ai⟩),.bool ay,.pointer (ae ⟨p,0,ai⟩),.agg #[.slice Ag n1 cg,.slice Ar D0.length cr,.slice Ab n2 cb],.slice Ar D0.length cr,.slice Aq qs.length cq,.int .i64 qs.length,.int .i64 qs.length,.bool ay,u33,u34,u35,u36,u37,u38,.int .i64 fY,.int .i64 r,.int .i64 (r+1),.pointer (ae ⟨p,0,ai⟩),.slice A' ss.length c',.int .i64 se,undef,undef,undef,undef,undef,undef,undef,undef,undef,undef,undef,undef,undef,undef,undef,undef,undef,undef,undef,undef,undef,undef,undef,undef,undef,undef,undef,undef,undef,undef,undef,undef,undef,undef,undef,undef,undef,undef,undef,undef,undef,undef],[]⟩ w:=by
 have adu:=af Hj;have HM0:=af hm0;have qB:=af h;have HZ:=af hz;have HMF:=af (Jz hz);have aaJ:=af (Ov hz);have h8: ∀r∈z.rows,r.b.v.length=8:=λr hr=>(zg hz.w hr).1
 have HRD:Hid (∀v,eo v z.rows=qS v (z.rows.map H9)):=λv=>S7 h8
 have HLD:Hid (z.rows.length=(z.rows.map H9).length):=(aL _).symm;clear h hz Hj hm0 h8;simp only[DD,Tryz.f9]
 go_wp2_with fail
 refine(yV qB.out HZ.out).mono ?_;rintro e w2 ⟨A1,c1,A2,c2,A3,c3,rfl,gm⟩;have oi:=Ec (.slice A1 (iP z.ls).length c1) (.slice A2 (z.rows.map H9).length c2) (.slice A3 z.B.length c3);rw[HRD.out,HLD.out]at gm;rw[HLD.out];have gm:In G w0 [qS (.slice A2 (z.rows.map H9).length c2) (z.rows.map H9),qS (.slice Ar D0.length cr) D0] w2:=by exact In.adP (gm.drop.swap.drop.swap.drop)
 generalize z.rows.map H9=DF at *;obtain⟨_,_,e1,ha⟩:=gm.swap.Aa adu.out;obtain⟨_,_,e2,hb⟩:=gm.Aa aaJ.out;injection e1 with e1 e11 e12
 injection e2 with e2 e21 e22
 subst e1;subst e2;have HA:=af ha;have HB:=af hb;have HBT:Hid (jk D0 DF=(iB D0 DF,0)):=by unfold Hid jk;rw[HM0.out,HMF.out];rfl
 have HT:=af (PU HM0.out HMF.out);have HK:=af (TX HM0.out HMF.out);have HL:Hid ((iB D0 DF).length<=120):=vT HM0.out HMF.out;have hck:=J5 adu.out aaJ.out;rw[HBT.out]at hck;have HCK:=af hck;have gu:=af gm;clear ha hb e11 e12 e21 e22 qB gm hck HM0 HMF HRD HLD
 go_wp2_with fail
 refine(PG cr c2 gu.out HA.out HB.out).mono ?_;rintro e w3 ⟨v,rfl,fj,IV⟩;rw[HBT.out]at fj;rw[HBT.out];generalize iB D0 DF=cs at *;simp only at fj HCK|-;obtain⟨A4,c4,rfl,hc4,hA4⟩:=fj.R5 HCK.out;have fW:=af fj;have HC:=af hc4;have HAA:=af hA4;have HA3:=af (HA.out.after IV);have V3:=af (HB.out.after IV);clear fj hc4 hA4 IV gu HA HB HBT
 go_wp2_with fail
 refine(Me cr c4 fW.out HA3.out HC.out).mono ?_;rintro e w4 ⟨x,rfl,gq,LO⟩;rw[HT.out]at gq;rw[HT.out];simp only at gq|-;obtain⟨A5,c5,rfl,_⟩:=gq.Aa aaJ.out;have iR:=af gq;have HC4:=af (HC.out.after LO);have HA4:=af (HA3.out.after LO);have HB4:=af (V3.out.after LO);clear gq LO fW HC HA3 V3
 go_wp2_with fail
 refine(Uz c4 iR.out HC4.out HAA.out (by have:=HL.out;omega)).mono ?_;rintro e w5 ⟨v5,rfl,fD,Wh⟩;obtain⟨A6,c6,rfl,hc6,_⟩:=fD.R5 (abw HCK.out);have ni:=af fD;have HC5:=af hc6;have HA5:=af (HA4.out.after Wh);have HB5:=af (HB4.out.after Wh);clear fD Wh hc6 iR HC4 HA4 HB4
 go_wp2_with fail
 refine(Me c2 c6 ni.out HB5.out HC5.out).mono ?_;rintro e w6 ⟨y,rfl,j6,Ku⟩;rw[HK.out]at j6;rw[HK.out];simp only at j6|-;obtain⟨A7,c7,rfl,hy⟩:=j6.Aa adu.out;obtain⟨_,_,e3,hx⟩:=(show In G w0 (qS (.slice A5 DF.length c5) DF::_) w6 from j6.third).Aa aaJ.out;injection e3 with e3 e31 e32
 subst e3;have HA6:=af (HA5.out.after Ku);have HB6:=af (HB5.out.after Ku);have HE1:=af (Ea c5 c2 hx HB6.out);rw[decide_eq_true rfl]at HE1;have HE2:Hid (∀w7,Below w6.heap.size w6 w7->Calls aj 34 #[.slice A7 D0.length c7,.slice Ar D0.length cr] w7 λe w'=>e=.returned (.bool aw)/\Below w7.heap.size w7 w'):=λw7 hb=>by have:=Ea c7 cr (hy.after hb) (HA6.out.after hb);rw[decide_eq_true rfl]at this;exact this
 have kO:=af j6;clear j6 Ku hx hy e31 e32 ni HC5 HA5 HB5 HA6 HB6
 go_wp2_with fail
 refine HE1.out.mono ?_;rintro e w7 ⟨rfl,hb7⟩;have kh:=af (kO.out.below hb7);have HE3:=af (HE2.out w7 hb7);clear hb7 HE1 HE2
 go_wp2_with fail
 refine HE3.out.mono ?_;rintro e w8 ⟨rfl,Kv⟩;have oQ:=af (kh.out.below Kv);clear Kv HE3 kh kO
 go_wp2_with fail
 refine⟨.inr rfl,rfl,_,λtp d=>results_tmp rfl _ _ _,λtp d=>⟨rfl,?_⟩⟩;exact jU.of (oQ.out.bare.dH .nil tp 0 d)
end
def OY (A Aq A':Option Addr)(c cq c':Nat)(os qs:List lD)(ss:List Sys)(fY:Int)(W:ah)(hO:vg W W.heap.size A os)(hlen:os.length<=1099511627776)(h8: ∀o∈os,o.b.v.length=8)(hQ:vg W W.heap.size Aq qs)(agu:qs.length<=1099511627776)(hq8: ∀o∈qs,o.b.v.length=8)(hS:vi W W.heap.size A' ss)(hsl:ss.length<=maxLen)(Post:ao->ah->Prop):vM aj (mV (tP W)) Post 9 #[.slice A os.length c,.slice Aq qs.length cq,.slice A' ss.length c',.int .i64 fY] W λv W'=>v=.bool aw/\jU (λ_=>False) W [] W':=by
 have hO':nD (λ_=>False) W W.heap.size A os:=nD.Bh hO;have hQ':nD (λ_=>False) W W.heap.size Aq qs:=nD.Bh hQ;have hS':om (λ_=>False) W W.heap.size A' ss:=om.Bh hS;have Hj:kI (D9 os):=MH h8;obtain⟨z0,uM⟩: ∃z0,z0=D9 os:=⟨_,rfl⟩;rw[<-uM]at Hj;have abq:kI (Sn z0 qs):=P5 Hj hq8;obtain⟨z1,sX⟩: ∃z1,z1=Sn z0 qs:=⟨_,rfl⟩;rw[<-sX]at abq;refine⟨_,_,Tryz.func9,rfl,rfl,rfl,?_⟩;have hF:=oF (tP W);have yZ:Tryz.f9.ntmps=87:=rfl;simp only[yZ,dT,dF,cy,aV,aD,aP,Nat.reduceAdd,Nat.reduceSub,dD,dE,ez];simp only[Tryz.f9];refine cB (bE ?_);refine aN hF (.bool ay) ?_;walk_nrm;refine dz ?_;show eT _ _ _ _ _ _ _ W;refine cB (cB ?_);refine bE ?_;refine xy (f:=23) (R:=λv w'=>v=.bool aw/\jU (λ_=>False) W [] w') rfl rfl rfl (λj u hj=>by simp at hj) ?_ ?_
 ·walk_nrm;exact ae2 (ax _)
 rintro _ w1 ⟨rfl,km⟩;walk_nrm;refine aN hF (.bool ay) ?_;walk_nrm;refine dz ?_;refine iK (t:=false) rfl ?_;rw[if_neg (by simp)];refine oG ?_;show eT _ _ _ _ _ _ _ w1;refine cB (bE ?_);refine aN hF (.slice A os.length c) ?_;walk_nrm;refine rN (f:=24) (λv L'=> ∃p,v=ptr p/\L'=[di p z0]) rfl rfl rfl (by decide+kernel) (by kernel_rfl) .nil km (by rintro v L' ⟨_,_,rfl⟩;exact .cons (di.hp _ _) .nil) (λtp d h1=> ?_) ?_
 ·walk_nrm;refine(VX (hO'.dH tp 0) hlen h8 h1).mono ?_;rintro e u ⟨p,rfl,h2⟩;rw[<-uM]at h2;exact⟨_,_,rfl,⟨p,rfl,rfl⟩,h2⟩
 rintro _ _ w2 ⟨p,rfl,rfl⟩ gm;clear km;walk_nrm;refine aN hF (ptr p) ?_;walk_nrm;refine dz ?_;show eT _ _ _ _ _ _ _ w2;refine cB (cB ?_);refine bE ?_;refine aN hF (ptr p) ?_;walk_nrm;refine aN hF (.bool ay) ?_;walk_nrm;refine dz ?_;refine iK (t:=false) rfl ?_;rw[if_neg (by simp)];refine oG ?_;show eT _ _ _ _ _ _ _ w2;have h8r: ∀r∈z0.rows,r.b.v.length=8:=λr hr=>(zg Hj.w hr).1
 have hRD: ∀v,eo v z0.rows=qS v (z0.rows.map H9):=λv=>S7 h8r
 have hLD:z0.rows.length=(z0.rows.map H9).length:=(aL _).symm;refine cB (bE ?_);refine aN hF (ptr p) ?_;walk_nrm;refine rN (f:=16) (λv L'=> ∃A1 c1 A2 c2 A3 c3,v=.agg #[.slice A1 (iP z0.ls).length c1,.slice A2 (z0.rows.map H9).length c2,.slice A3 z0.B.length c3]/\L'=fM (.slice A1 (iP z0.ls).length c1) (iP z0.ls)::qS (.slice A2 (z0.rows.map H9).length c2) (z0.rows.map H9)::xI (.slice A3 z0.B.length c3) z0.B::di p z0::[]) rfl rfl rfl (by decide+kernel) (by kernel_rfl) (.cons (di.hp _ _) .nil) gm (by rintro v L' ⟨_,_,_,_,_,_,_,rfl⟩;exact .cons (eD.hp _ _ _ _ _) (.cons (eD.hp _ _ _ _ _) (.cons (eD.hp _ _ _ _ _) (.cons (di.hp _ _) .nil)))) (λtp d h1=> ?_) ?_
 ·walk_nrm;refine(yV (show In _ _ (di p z0::[]) _ from h1) Hj).mono ?_;rintro e u ⟨A1,c1,A2,c2,A3,c3,rfl,h2⟩;rw[hRD,hLD]at h2;rw[hLD];exact⟨_,_,rfl,⟨A1,c1,A2,c2,A3,c3,rfl,rfl⟩,h2⟩
 rintro _ _ w3 ⟨Ag,cg,Ar,cr,Ab,cb,rfl,rfl⟩ fj;clear gm;walk_nrm;have Ye:jU (λ_=>False) W (di p z0::[qS (.slice Ar (z0.rows.map H9).length cr) (z0.rows.map H9)]) w3:=In.swap (In.drop (In.swap (In.drop (show In _ _ _ w3 from fj))));clear fj;have hm0:=Jz Hj;have aie:=Ov Hj;generalize z0.rows.map H9=D0 at *;generalize (iP z0.ls).length=n1 at *;generalize z0.B.length=n2 at *;refine fQ hF (w':=w3) (v:=.slice Ar D0.length cr) rfl rfl (by kernel_rfl) ⟨rfl,rfl⟩ (λtp d=>by have h:=Ec (.slice Ag n1 cg) (.slice Ar D0.length cr) (.slice Ab n2 cb);go_simp) ?_;walk_nrm;refine aN hF (.slice Ar D0.length cr) ?_;walk_nrm;refine dz ?_;show eT _ _ _ _ _ _ _ w3;have o8:xd [qS (.slice Ar D0.length cr) D0]:=.cons (eD.hp _ _ _ _ _) .nil;have hx:dq ((mV (tP W)).at 9) DC=aw:=by kernel_rfl
 refine cB (AN hF (x:=DC) (S:=λa w'=> ∃u12 u33 u34 u35 u36 u37 u38:ao,a=⟨#[.slice A os.length c,.slice Aq qs.length cq,.slice A' ss.length c',.int .i64 fY,undef,undef,undef,undef,.bool ay,.pointer (ae ⟨p,0,ai⟩),.slice Ar D0.length cr,undef,u12,undef,undef,undef,undef,undef,undef,undef,.bool aw,.bool ay,.slice A os.length c,.pointer (ae ⟨p,0,ai⟩),.pointer (ae ⟨p,0,ai⟩),.bool ay,.pointer (ae ⟨p,0,ai⟩),.agg #[.slice Ag n1 cg,.slice Ar D0.length cr,.slice Ab n2 cb],.slice Ar D0.length cr,.slice Aq qs.length cq,.int .i64 qs.length,.int .i64 qs.length,.bool ay,u33,u34,u35,u36,u37,u38,undef,undef,undef,undef,undef,undef,undef,undef,undef,undef,undef,undef,undef,undef,undef,undef,undef,undef,undef,undef,undef,undef,undef,undef,undef,undef,undef,undef,undef,undef,undef,undef,undef,undef,undef,undef,undef,undef,undef,undef,undef,undef,undef,undef,undef,undef,undef,undef],[]⟩/\jU (λ_=>False) W (di p z1::[qS (.slice Ar D0.length cr) D0]) w') hx (λtp d=> ?_) ?_)
 ·have hw:=Rt (A:=A) (A':=A') (c:=c) (c':=c') (cq:=cq) (Ag:=Ag) (Ar:=Ar) (Ab:=Ab) (cg:=cg) (cr:=cr) (cb:=cb) (n1:=n1) (n2:=n2) (os:=os) (ss:=ss) (fY:=fY) (D0:=D0) (hQ'.dH tp 0) agu hq8 Hj o8 (Ye.at_ (.cons (di.hp _ _) o8) tp 0 d);rw[<-sX]at hw;exact Code.wp_mono (λe a u h=>⟨h.1,h.2.1,λtp d=>by obtain⟨u12,u33,u34,u35,u36,u37,u38,e,h⟩:=h.2.2 tp d;exact⟨u12,u33,u34,u35,u36,u37,u38,e,jU.same h⟩⟩) hw
 rintro _ w4 ⟨u12,u33,u34,u35,u36,u37,u38,rfl,gq⟩;clear Ye hx;show eT _ _ _ _ _ _ _ w4;have hr0:0<=fY % 8:=Int.emod_nonneg _ (by decide);have hr8:fY % 8<8:=Int.emod_lt_of_pos _ (by decide);have CW:IntKind.i64.wrap (fY % 8+1)=fY % 8+1:=IntWalk.i64_in _ (by omega);refine cB (bE ?_);refine aN hF (.int .i64 fY) ?_;walk_nrm;refine rN (f:=14) (λv L'=>v=.int .i64 (fY % 8)/\L'=di p z1::[qS (.slice Ar D0.length cr) D0]) rfl rfl rfl (by decide+kernel) (by kernel_rfl) (.cons (di.hp _ _) o8) gq (by rintro v L' ⟨_,rfl⟩;exact .cons (di.hp _ _) o8) (λtp d h1=> ?_) ?_
 ·walk_nrm;refine(ZK fY 8 _ (by decide) (by decide)).mono ?_;rintro e u ⟨rfl,rfl⟩;exact⟨_,_,rfl,⟨rfl,rfl⟩,h1⟩
 rintro _ _ w5 ⟨rfl,rfl⟩ fD;clear gq;walk_nrm;generalize fY % 8=r at *;refine aN hF (.int .i64 (r+1)) ?_;walk_nrm;refine aN hF (ptr p) ?_;walk_nrm;refine aN hF (.slice A' ss.length c') ?_;walk_nrm;refine xy (f:=13) (R:=λv w'=>v=.int .i64 (ua (r+1) ss)/\jU (λ_=>False) W (di p (if ua (r+1) ss=0 then lM z1 ss else z1)::[qS (.slice Ar D0.length cr) D0]) w') rfl rfl rfl (λj u hj=>.inl ?_) ?_ ?_
 ·rcases j with _|_|_|j
  ·cases hj;kernel_rfl
  ·cases hj;kernel_rfl
  ·cases hj;kernel_rfl
  ·simp at hj
 ·walk_nrm;exact ag5 (ax _) o8 hS' (ax _) hsl abq fD
 rintro _ w6 ⟨rfl,j6⟩;have aid:kI (if ua (r+1) ss=0 then lM z1 ss else z1):=by
  split
  ·exact abq.run ss
  ·exact abq
 generalize (if ua (r+1) ss=0 then lM z1 ss else z1)=zf at *;generalize ua (r+1) ss=se at *;clear fD;walk_nrm;refine dz ?_;show eT _ _ _ _ _ _ _ w6;have hx:dq ((mV (tP W)).at 9) DD=aw:=by kernel_rfl
 refine Ir (x:=DD) hF hx λtp d=> ?_
 have hw:=Ru (A:=A) (Aq:=Aq) (A':=A') (c:=c) (c':=c') (cq:=cq) (Ag:=Ag) (Ab:=Ab) (cg:=cg) (cb:=cb) (n1:=n1) (n2:=n2) (os:=os) (qs:=qs) (ss:=ss) (fY:=fY) (r:=r) (se:=se) (u12:=u12) (u33:=u33) (u34:=u34) (u35:=u35) (u36:=u36) (u37:=u37) (u38:=u38) aie hm0 aid (j6.at_ (.cons (di.hp _ _) o8) tp 0 d);exact zv hw λv w' h=>⟨h.1,jU.same h.2⟩
end
end Go.Proofs.YtknejlcijdngoaaGreat
