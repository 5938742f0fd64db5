/- Part 1 of the proof of a statement of this seat (a logic of pure contracts; the functions; their contracts). No conditions. -/
import GoSem.Claims
import Derived.KernelRfl
import Derived.RangeFuncIn
import Derived.RangeFuncCalls
import Derived.Below
import Derived.Laws.AppendOwn
import Derived.Laws.MakeOwn
import Derived.Laws.CopyOwn
import Derived.WalkKit
open Array renaming getD_eq_getD_getElem?->az,getElem?_eq_some_iff->a8
open Bool renaming false_eq_true->a6
open Go.Act renaming put->b4,eval->b8
open Go.Region renaming wanted->ap
open Go.Result renaming andThen_ok->a7
open Go.RowKit renaming Below->bx
open Go.RowKit.Below renaming refl->b7
open Go.Sem renaming run_bind->bm,run_pure->b1,run_ite->b3
open List renaming map_cons->be,mem_cons->bi,cons_append->bk,mem_append->bn
open Nat renaming lt_of_lt_of_le->bs,le_refl->bA,lt_irrefl->bI,le_trans->b0,beq->b6
open Option renaming map_eq_some_iff->an
open Option.some renaming injEq->bt
namespace Go.Px
theorem zz {p:Prop}(h:p:=by omega):p:=h
theorem zq {p:Prop}(h:p:=by decide):p:=h
theorem zy {p:Prop}(h:p:=by assumption):p:=h
theorem zj {p:Prop}(h:p:=by simp):p:=h
theorem zw {p:Prop}(h:p:=by kernel_rfl):p:=h
theorem zx {p:Prop}(h:p:=by grind):p:=h
def N3:List Nat:=[0,1,4,5]
def HH (l:List Value)(o:Option Obj):Prop:= ∃t h,o=some (.cells l.toArray t h)
def AD (h:Nat->Option Obj):Prop:=
 (∃m,HH [.int .i64 m] (h 0))/\HH ([1,10,100,1000,10000,100000,1000000,10000000,100000000,1000000000,10000000000,100000000000,1000000000000,10000000000000,100000000000000,1000000000000000,10000000000000000,100000000000000000,1000000000000000000,10000000000000000000].map λn=>.int .u64 n) (h 1)/\(∃t p,HH [.iface t p] (h 4))/\ ∃t p,HH [.iface t p] (h 5)
theorem AD.congr {h k:Nat->Option Obj}(e: ∀b∈N3,k b=h b)(p:AD h):AD k:=by unfold AD at p ⊢;rw[e 0 (by decide),e 1 (by decide),e 4 (by decide),e 5 (by decide)];exact p
structure aE where
 cell:Nat->Nat->Option Value
 map:Nat->Option (Array MapEntry×Nat)
def aE.has (S:aE)(b:Nat):Prop:=(∃o v,S.cell b o=some v)\/ ∃m,S.map b=some m
structure aE.Le (S T:aE):Prop where
 cell: ∀b o v,S.cell b o=some v->T.cell b o=some v
 map: ∀b m,S.map b=some m->T.map b=some m
structure aE.In (S:aE)(w:World):Prop where
 cell: ∀b o v,S.cell b o=some v->w.cell? ⟨b,o,none⟩=some v
 map: ∀b m,S.map b=some m->w.heap[b]? =some (.map m.1 m.2)
def sN (S:aE)(w:World):Prop:=(∀b∈N3,S.has b)/\AD λb=>w.heap[b]?
theorem aE.Le.refl (S:aE):S.Le S:=⟨λ_ _ _ h=>h,λ_ _ h=>h⟩
theorem aE.Le.trans {S T U:aE}(h:S.Le T)(k:T.Le U):S.Le U:=⟨λb o v e=>k.cell b o v (h.cell b o v e),λb m e=>k.map b m (h.map b m e)⟩
theorem aE.Le.has {S T:aE}(h:S.Le T){b:Nat}(k:S.has b):T.has b:=by
 rcases k with⟨o,v,e⟩|⟨m,e⟩
 ·exact .inl ⟨o,v,h.cell _ _ _ e⟩
 ·exact .inr ⟨m,h.map _ _ e⟩
theorem sN.mono {S T:aE}{w:World}(h:sN S w)(k:S.Le T):sN T w:=⟨λb a=>k.has (h.1 b a),h.2⟩
theorem aE.In.lt {S:aE}{w:World}(h:S.In w){b:Nat}(k:S.has b):b<w.heap.size:=by
 rcases k with⟨o,v,e⟩|⟨m,e⟩
 ·exact World.block_lt_of_cell? w ⟨b,o,none⟩ (h.cell _ _ _ e)
 ·exact(a8.1 (h.map _ _ e)).1
theorem aE.In.sA {S:aE}{w w':World}(h:S.In w)(k: ∀b,S.has b->w'.heap[b]? =w.heap[b]?):S.In w':=
 ⟨λb o v e=>(World.cell?_of_block (w:=w) (a:=⟨b,o,none⟩) (k b (.inl ⟨o,v,e⟩))).trans (h.cell b o v e),λb m e=>(k b (.inr ⟨m,e⟩)).trans (h.map b m e)⟩
inductive AV where
 |any
 |v (x:Value)
 |nil
 |agg (l:List AV)
 |bZ (l:List AV)
 |sl (k:Nat) (es:List (List AV))
 |pi (cs:List AV)
 |po (b off:Nat)
 |so (b n cap:Nat)
 |aI (T k:Nat) (es:List (List AV))
 |dO (T:Nat) (cs:List AV)
 |jr (T k:Nat) (es:List (List AV)) (ad:Option Addr) (cap:Nat)
 |lmap (cs:List AV) (es:List (Value×AV))
 |mi (es:List (Value×AV))
 |mo (b:Nat)
 |fn (f:Fn) (first caps:List AV)
 |Vq (t:TypeId) (x:AV)
 deriving Inhabited
def Sq (bL:Array MapEntry)(a:Nat):Prop:=a=bL.size/\(∀(j:Nat) (e:MapEntry),bL[j]? =some e->e.born=j)/\(bL.toList.map (·.key)).Nodup
mutual
def aR (S:aE):AV->Value->Prop
 | .any,_=>True
 | .v x,y=>y=x
 | .nil,y=>y= .slice none 0 0
 | .agg l,y=> ∃cs:List Value,y= .agg cs.toArray/\aS S l cs
 | .bZ l,y=> ∃cs:List Value,y= .tuple cs.toArray/\aS S l cs
 | .sl k es,y=>((∃g,y= .slice g 0 0)/\es=[])\/
  ∃b off cap,y= .slice (some ⟨b,off,none⟩) es.length cap/\es.length<=cap/\cap<=maxLen/\gE S k es b off
 | .pi cs,y=> ∃b off,y= .pointer (some ⟨b,off,none⟩)/\eO S cs b off
 | .po b off,y=>y= .pointer (some ⟨b,off,none⟩)
 | .so b n cap,y=>y= .slice (some ⟨b,0,none⟩) n cap
 | .aI _ _ _,_=>False
 | .dO _ _,_=>False
 | .jr _ _ _ _ _,_=>False
 | .lmap _ _,_=>False
 | .mi es,y=> ∃r bL a,y= .map (some r)/\S.map r=some (bL,a)/\ib S es bL.toList/\Sq bL a
 | .mo b,y=>y= .map (some b)
 | .fn f first d,y=> ∃e cs:List Value,y= .func f e.toArray cs.toArray/\aS S first e/\aS S d cs
 | .Vq t x,y=> ∃c,y= .iface t c/\aR S x c
def aS (S:aE):List AV->List Value->Prop
 |[],cs=>cs=[]
 |a::l,cs=> ∃c b,cs=c::b/\aR S a c/\aS S l b
def eO (S:aE):List AV->Nat->Nat->Prop
 |[],_,_=>True
 |a::l,b,o=>(∃c,S.cell b o=some c/\c.oneCell'=true/\aR S a c)/\eO S l b (o+1)
def gE (S:aE)(k:Nat):List (List AV)->Nat->Nat->Prop
 |[],_,_=>True
 |l::es,b,o=>l.length=k/\eO S l b o/\gE S k es b (o+k)
def ib (S:aE):List (Value×AV)->List MapEntry->Prop
 |[],es=>es=[]
 |(key,a)::l,es=> ∃e b,es=e::b/\e.key=key/\aR S a e.val/\ib S l b
end
mutual
theorem aR.mono {S T:aE}(h:S.Le T): ∀(a:AV) (y:Value),aR S a y->aR T a y
 | .any,_,_=>by simp only[aR]
 | .v x,y,r=>by simp only[aR]at r ⊢;exact r
 | .nil,y,r=>by simp only[aR]at r ⊢;exact r
 | .agg l,y,r=>by simp only[aR]at r ⊢;obtain⟨cs,e,r⟩:=r;exact⟨cs,e,aS.mono h l cs r⟩
 | .bZ l,y,r=>by simp only[aR]at r ⊢;obtain⟨cs,e,r⟩:=r;exact⟨cs,e,aS.mono h l cs r⟩
 | .sl k es,y,r=>by
  simp only[aR]at r ⊢
  rcases r with r|⟨b,off,cap,e,m,o,r⟩
  ·exact .inl r
  ·exact .inr ⟨b,off,cap,e,m,o,gE.mono h k es b off r⟩
 | .pi cs,y,r=>by simp only[aR]at r ⊢;obtain⟨b,off,e,r⟩:=r;exact⟨b,off,e,eO.mono h cs b off r⟩
 | .po b off,y,r=>by simp only[aR]at r ⊢;exact r
 | .so b n cap,y,r=>by simp only[aR]at r ⊢;exact r
 | .aI _ _ _,_,r=>by simp only[aR]at r
 | .dO _ _,_,r=>by simp only[aR]at r
 | .jr _ _ _ _ _,_,r=>by simp only[aR]at r
 | .lmap _ _,_,r=>by simp only[aR]at r
 | .mi es,y,r=>by
  simp only[aR]at r ⊢
  obtain⟨b,bL,d,e,hm,r,i⟩:=r
  exact⟨b,bL,d,e,h.map _ _ hm,ib.mono h es _ r,i⟩
 | .mo b,y,r=>by simp only[aR]at r ⊢;exact r
 | .fn f first g,y,r=>by
  simp only[aR]at r ⊢
  obtain⟨j,cs,e,p,q⟩:=r
  exact⟨j,cs,e,aS.mono h first j p,aS.mono h g cs q⟩
 | .Vq t x,y,r=>by simp only[aR]at r ⊢;obtain⟨c,e,r⟩:=r;exact⟨c,e,aR.mono h x c r⟩
theorem aS.mono {S T:aE}(h:S.Le T): ∀(l:List AV) (cs:List Value),aS S l cs->aS T l cs
 |[],cs,r=>by simp only[aS]at r ⊢;exact r
 |a::l,cs,r=>by
  simp only[aS]at r ⊢
  obtain⟨c,b,e,d,f⟩:=r
  exact⟨c,b,e,aR.mono h a c d,aS.mono h l b f⟩
theorem eO.mono {S T:aE}(h:S.Le T): ∀(l:List AV) (b o:Nat),eO S l b o->eO T l b o
 |[],b,o,_=>by simp only[eO]
 |a::l,b,o,r=>by
  simp only[eO]at r ⊢
  obtain⟨⟨c,e,d,f⟩,g⟩:=r
  exact⟨⟨c,h.cell _ _ _ e,d,aR.mono h a c f⟩,eO.mono h l b (o+1) g⟩
theorem gE.mono {S T:aE}(h:S.Le T)(k:Nat): ∀(es:List (List AV)) (b o:Nat),gE S k es b o->gE T k es b o
 |[],b,o,_=>by simp only[gE]
 |l::es,b,o,r=>by
  simp only[gE]at r ⊢
  exact⟨r.1,eO.mono h l b o r.2.1,gE.mono h k es b (o+k) r.2.2⟩
theorem ib.mono {S T:aE}(h:S.Le T): ∀(es:List (Value×AV)) (bL:List MapEntry),ib S es bL->ib T es bL
 |[],bL,r=>by simp only[ib]at r ⊢;exact r
 |(key,a)::l,bL,r=>by
  simp only[ib]at r ⊢
  obtain⟨e,b,c,d,f,g⟩:=r
  exact⟨e,b,c,d,aR.mono h a e.val f,ib.mono h l b g⟩
end
abbrev Env:=Nat->AV
inductive cP where
 |cells (T:Nat) (cs:List AV)
 |arr (T k cap:Nat) (es:List (List AV))
 |map (es:List (Value×AV))
 |ra (m:Nat) (es:List (Value×AV)) (seen:List Nat)
 |iV
 |fR (st:LoopState) (pend:Option Code) (fn:FuncId) (N:Nat) (env0:Env) (ps:Array Tmp) (assign body:Code) (iV:Nat)
 |raw (o:Obj)
def abW (S:aE)(a:List AV)(cs:List Value):Prop:=aS S a cs/\ ∀c∈cs,c.oneCell'=true
def Holds (S:aE):cP->Obj->Prop
 | .cells T d,o=> ∃cs:List Value,o= .cells cs.toArray T (0,0)/\abW S d cs
 | .arr T k cap es,o=> ∃cur:List Value,o= .cells cur.toArray T (0,0)/\cap*k<=cur.length/\es.length<=cap/\cap<=maxLen/\(∀e∈es,e.length=k)/\
  aS S es.flatten (cur.take (es.length*k))/\ ∀c∈cur.take (es.length*k),c.oneCell'=true
 | .map es,o=> ∃(bL:Array MapEntry) (a:Nat),o= .map bL a/\ib S es bL.toList/\Sq bL a
 | .ra m es seen,o=> ∃(bL:Array MapEntry) (a:Nat) (sn:Array Nat),o= .mapIter (some m) a sn a/\S.map m=some (bL,a)/\ib S es bL.toList/\Sq bL a/\sn.toList=seen
 | .iV,o=>o= .deferred (some [])
 | .fR st b fn N env0 ps assign body iV,o=> ∃tmps:Array Value,o= .loop {state:=st,pending:=b,fn:=fn,tmps:=tmps,params:=ps,assign:=assign,body:=body,defers:=iV}/\N<=tmps.size/\ ∀t,aR S (env0 t) (tmps.getD t undef)
 | .raw x,o=>o=x
theorem Holds.mono {S T:aE}(h:S.Le T){x:cP}{o:Obj}(r:Holds S x o):Holds T x o:=by
 cases x with
 |cells t l=>obtain⟨cs,e,f,g⟩:=r;exact⟨cs,e,aS.mono h _ _ f,g⟩
 |arr t k cap es=>obtain⟨cur,e,c,d,j,h4,f,g⟩:=r;exact⟨cur,e,c,d,j,h4,aS.mono h _ _ f,g⟩
 |map es=>obtain⟨bL,a,e,r,b⟩:=r;exact⟨bL,a,e,ib.mono h _ _ r,b⟩
 |ra m es seen=>obtain⟨bL,a,sn,e,hm,r,b⟩:=r;exact⟨bL,a,sn,e,h.map _ _ hm,ib.mono h _ _ r,b⟩
 |iV=>exact r
 |fR st i fn N env0 ps assign body iV=>obtain⟨tmps,e,c,d⟩:=r;exact⟨tmps,e,c,λt=>aR.mono h _ _ (d t)⟩
 |raw x=>exact r
structure Own (A:Nat->Prop)(S:aE)(w:World)(b:Nat)(x:cP):Prop where
 base:A b
 apart: ¬S.has b
 holds: ∃o,w.heap[b]? =some o/\Holds S x o
theorem Own.lt {B:Nat->Prop}{S:aE}{w:World}{b:Nat}{x:cP}(h:Own B S w b x):b<w.heap.size:=by obtain⟨o,e,_⟩:=h.holds;exact(a8.1 e).1
abbrev Heap:=List (Nat×cP)
structure eI (A:Nat->Prop)(w w':World):Prop where
 os:w'.os=w.os
 tape:w'.tape=w.tape
 output:w'.output=w.output
 size:w.heap.size<=w'.heap.size
 block: ∀k,k<w.heap.size-> ¬A k->w'.heap[k]? =w.heap[k]?
theorem eI.refl (A:Nat->Prop)(w:World):eI A w w:=⟨rfl,rfl,rfl,bA _,λ_ _ _=>rfl⟩
theorem eI.trans {A:Nat->Prop}{a b c:World}(h:eI A a b)(k:eI A b c):eI A a c:=
 ⟨k.os.trans h.os,k.tape.trans h.tape,k.output.trans h.output,b0 h.size k.size,λi hi ha=>(k.block i (bs hi h.size) ha).trans (h.block i hi ha)⟩
theorem eI.mono {A c:Nat->Prop}{a b:World}(h:eI A a b)(hA: ∀k,k<a.heap.size->A k->c k):eI c a b:=
 ⟨h.os,h.tape,h.output,h.size,λi hi ha=>h.block i hi (λhh=>ha (hA i hi hh))⟩
theorem eI.QI {A:Nat->Prop}{w w':World}(k:bx w.heap.size w w'):eI A w w':=⟨k.os,k.tape,k.output,k.size,λi hi _=>k.block i hi⟩
structure Ctx where
 A:Nat->Prop
 w0:World
 S0:aE
 F:Heap
 N:Nat
 hA: ∀b,w0.heap.size<=b->A b
 hg:sN S0 w0
 Pm: ∀b∈N3,¬A b
 TH: ∀b∈N3,b<w0.heap.size
 base:List Deferred:=[]
def AV.bC:AV->Bool
 | .aI _ _ _| .dO _ _| .jr _ _ _ _ _| .lmap _ _=>true
 |_=>false
def Yj (B:Nat->Prop)(S:aE)(w:World)(b:Option Nat)(T k:Nat)(es:List (List AV))(y:Value):Prop:=
 (y= .slice none 0 0/\es=[]/\b=none)\/ ∃g cap,b=some g/\y= .slice (some ⟨g,0,none⟩) es.length cap/\Own B S w g (.arr T k cap es)
def bF (B:Nat->Prop)(S:aE)(w:World)(b:Option Nat):AV->Value->Prop
 | .aI T k es,y=>(y= .slice none 0 0/\es=[]/\b=none)\/ ∃g cap,b=some g/\y= .slice (some ⟨g,0,none⟩) es.length cap/\Own B S w g (.arr T k cap es)
 | .dO T cs,y=> ∃g,b=some g/\y= .pointer (some ⟨g,0,none⟩)/\Own B S w g (.cells T cs)
 | .jr T k es c cap,y=>y= .slice c es.length cap/\Yj B S w b T k es y
 | .lmap cs es,y=> ∃g bb off,b=some g/\y= .pointer (some ⟨bb,off,none⟩)/\eO S (cs++[.mo g]) bb off/\Own B S w g (.map es)
 |a,y=>b=none/\aR S a y
def lq (r:Nat):Deferred:={target:=.collected r,args:= #[]}
structure Sat (C:Ctx)(env:Env)(H:Heap)(D:List Nat)(a:Act)(w:World)(S:aE)(L:Nat->Option Nat):Prop where
 size:C.N<=a.tmps.size
 uj:a.defers=D.map lq++C.base
 le:C.S0.Le S
 sin:S.In w
 ka: ∀b,S.has b->C.S0.has b\/C.A b
 below:eI C.A C.w0 w
 env: ∀t,bF C.A S w (L t) (env t) (a.tmps.getD t undef)
 heap: ∀e∈H,Own C.A S w e.1 e.2
 frame: ∀e∈C.F,Own C.A S w e.1 e.2
 nodup:((H++C.F).map (·.1)).Nodup
 aI: ∀t b,L t=some b->b ∉ (H++C.F).map (·.1)
 gk: ∀t u b,L t=some b->L u=some b->t=u
theorem Sat.gl {C:Ctx}{env:Env}{H:Heap}{D:List Nat}{a:Act}{w:World}{S:aE}{L:Nat->Option Nat}(h:Sat C env H D a w S L):sN S w:=
 ⟨λb c=>h.le.has (C.hg.1 b c),AD.congr (λb c=>h.below.block b (C.TH b c) (C.Pm b c)) C.hg.2⟩
theorem Sat.fresh {C:Ctx}{env:Env}{H:Heap}{D:List Nat}{a:Act}{w:World}{S:aE}{L:Nat->Option Nat}(h:Sat C env H D a w S L){b:Nat}(c:w.heap.size<=b):C.A b:=
 C.hA b (b0 h.below.size c)
variable {b d i t:Nat}{w w':World}{S:aE}{p:AV}
def dK (env:Env)(d:Nat)(p:AV):Env:=λi=>bif b6 i d then p else env i
theorem bw (env:Env)(d:Nat)(p:AV):dK env d p d=p:=by simp [dK]
theorem eB (env:Env)(p:AV)(h:i≠d):dK env d p i=env i:=by
 have:b6 i d=false:=by
  cases a:b6 i d with
  |false=>rfl
  |true=>exact absurd (Nat.eq_of_beq_eq_true a) h
 simp [dK,this]
theorem pA {a:Array Value}{y:Value}(h:d<a.size):(a.setIfInBounds d y).getD d undef=y:=by simp [Array.getD,h]
theorem kT {a:Array Value}{y:Value}(h:i≠d):(a.setIfInBounds d y).getD i undef=a.getD i undef:=by simp only[az,Array.getElem?_setIfInBounds];rw[if_neg (λe=>h e.symm)]
section sat
variable {C:Ctx}{env:Env}{H:Heap}{D:List Nat}{a:Act}{L:Nat->Option Nat}
theorem bF.dC {B:Nat->Prop}{y:Value}(a:p.bC=false)(r:aR S p y):bF B S w none p y:=by cases p<;>simp_all [bF,AV.bC]
theorem bF.rep {B:Nat->Prop}{b:Option Nat}{y:Value}(a:p.bC=false)(r:bF B S w b p y):b=none/\aR S p y:=by cases p<;>simp_all [bF,AV.bC]
theorem Sat.rep (h:Sat C env H D a w S L)(e:env t=p)(b:p.bC=false):aR S p (a.tmps.getD t undef):=by have:=h.env t;rw[e]at this;exact(this.rep b).2
theorem Sat.W9 (h:Sat C env H D a w S L)(e:L t=some b): ∃x,Own C.A S w b x:=by
 have:=h.env t;rw[e]at this;cases f:env t<;>rw[f]at this<;>simp only[bF]at this
 case aI T k es=>
  rcases this with⟨_,_,c⟩|⟨g,cap,c,hy,d⟩
  ·cases c
  ·grind
 case dO T cs=>obtain⟨g,c,hy,d⟩:=this;cases c;exact⟨_,d⟩
 case jr T k es i cap=>
  rcases this.2 with⟨_,_,c⟩|⟨g,cap,c,hy,d⟩
  ·cases c
  ·grind
 case lmap cs es=>obtain⟨g,bb,off,c,hy,hc,d⟩:=this;cases c;exact⟨_,d⟩
 all_goals (obtain⟨c,_⟩:=this;cases c)
theorem Sat.FA (h:Sat C env H D a w S L)(e:L t=some b):b<w.heap.size:=(h.W9 e).elim λ_ o=>o.lt
theorem Sat.zP (h:Sat C env H D a w S L)(e:L t=some b): ¬S.has b:=(h.W9 e).elim λ_ o=>o.apart
def gV (L:Nat->Option Nat)(d:Nat)(b:Option Nat):Nat->Option Nat:=λt=>if t=d then b else L t
theorem Sat.put (h:Sat C env H D a w S L)(hd:d<a.tmps.size){y:Value}(i:p.bC=false)(r:aR S p y):
  Sat C (dK env d p) H D (a.put (some d) y) w S (gV L d none) where
 size:=by first|exact h.size|(simp only[b4,Array.size_setIfInBounds];exact h.size)
 uj:=h.uj
 le:=h.le
 sin:=h.sin
 ka:=h.ka
 below:=h.below
 env:=by
  intro t
  by_cases g:t=d
  ·subst g
   simp only[bw,b4,pA hd,gV,if_true]
   exact bF.dC i r
  ·simp only[eB env p g,b4,kT g,gV,if_neg g]
   exact h.env t
 heap:=h.heap
 frame:=h.frame
 nodup:=h.nodup
 aI:=by
  intro t b e
  simp only[gV]at e
  split at e
  ·cases e
  ·exact h.aI t b e
 gk:=by
  intro t u b c f
  simp only[gV]at c f
  split at c
  ·cases c
  ·split at f
   ·cases f
   ·exact h.gk t u b c f
theorem bF.world {B:Nat->Prop}{b:Option Nat}{y:Value}(r:bF B S w b p y)(k: ∀g,b=some g->w'.heap[g]? =w.heap[g]?):bF B S w' b p y:=by
 cases p
 case aI T e es=>
  simp only[bF]at r ⊢;rcases r with r|⟨g,cap,c,hy,a⟩
  ·exact .inl r
  ·exact .inr ⟨g,cap,c,hy,a.base,a.apart,by rw[k g c];exact a.holds⟩
 case dO T cs=>simp only[bF]at r ⊢;obtain⟨g,c,hy,a⟩:=r;exact⟨g,c,hy,a.base,a.apart,by rw[k g c];exact a.holds⟩
 case jr T e es h d=>
  simp only[bF]at r ⊢;obtain⟨f,r⟩:=r;refine⟨f,?_⟩;rcases r with r|⟨g,cap,c,hy,a⟩
  ·exact .inl r
  ·exact .inr ⟨g,cap,c,hy,a.base,a.apart,by rw[k g c];exact a.holds⟩
 case lmap cs es=>simp only[bF]at r ⊢;obtain⟨g,bb,off,c,hy,hc,a⟩:=r;exact⟨g,bb,off,c,hy,hc,a.base,a.apart,by rw[k g c];exact a.holds⟩
 all_goals exact r
theorem Own.world {B:Nat->Prop}{x:cP}(h:Own B S w b x)(k:w'.heap[b]? =w.heap[b]?):Own B S w' b x:=
 ⟨h.base,h.apart,by rw[k];exact h.holds⟩
theorem Sat.world (h:Sat C env H D a w S L)(d:eI C.A w w')(hs: ∀b,S.has b->w'.heap[b]? =w.heap[b]?)
  (c: ∀b,b∈(H++C.F).map (·.1)->w'.heap[b]? =w.heap[b]?) (hl: ∀t b,L t=some b->w'.heap[b]? =w.heap[b]?):Sat C env H D a w' S L where
 size:=by first|exact h.size|(simp;exact h.size)
 uj:=h.uj
 le:=h.le
 sin:=h.sin.sA hs
 ka:=h.ka
 below:=h.below.trans d
 env:=λt=>(h.env t).world (λg e=>hl t g e)
 heap:=λe he=>(h.heap e he).world (c e.1 zx)
 frame:=λe he=>(h.frame e he).world (c e.1 zx)
 nodup:=h.nodup
 aI:=h.aI
 gk:=h.gk
theorem Sat.qk (h:Sat C env H D a w S L)(c:b∈(H++C.F).map (·.1)):b<w.heap.size:=by
 simp only[List.map_append,bn,List.mem_map]at c;rcases c with⟨e,he,rfl⟩|⟨e,he,rfl⟩
 ·exact(h.heap e he).lt
 ·exact(h.frame e he).lt
theorem Sat.grow (h:Sat C env H D a w S L)(k:bx w.heap.size w w'):Sat C env H D a w' S L:=
 h.world (eI.QI k) (λb c=>k.block b (h.sin.lt c)) (λb c=>k.block b (h.qk c)) (λ_ _ e=>k.block _ (h.FA e))
theorem Sat.snap (h:Sat C env H D a w S L){T:aE}(c:S.Le T)(m:T.In w)(i: ∀b,T.has b->S.has b\/C.A b)(hh: ∀e∈H++C.F,¬T.has e.1)(hl: ∀t b,L t=some b-> ¬T.has b):Sat C env H D a w T L where
 size:=by first|exact h.size|(simp;exact h.size)
 uj:=h.uj
 le:=h.le.trans c
 sin:=m
 ka:=λb d=>(i b d).elim (h.ka b) .inr
 below:=h.below
 env:=by
  intro t
  have r:=h.env t
  cases j:env t
  case aI n k es=>
   rw[j]at r
   simp only[bF]at r ⊢
   rcases r with r|⟨g,cap,d,hy,f⟩
   ·exact .inl r
   ·obtain⟨o,e,x⟩:=f.holds
    exact .inr ⟨g,cap,d,hy,f.base,hl t g d,o,e,x.mono c⟩
  case dO n cs=>
   rw[j]at r
   simp only[bF]at r ⊢
   obtain⟨g,d,hy,f⟩:=r
   obtain⟨o,e,x⟩:=f.holds
   exact⟨g,d,hy,f.base,hl t g d,o,e,x.mono c⟩
  case jr n k es u p=>
   rw[j]at r
   simp only[bF]at r ⊢
   obtain⟨s,r⟩:=r
   refine⟨s,?_⟩
   rcases r with r|⟨g,cap,d,hy,f⟩
   ·exact .inl r
   ·obtain⟨o,e,x⟩:=f.holds
    exact .inr ⟨g,cap,d,hy,f.base,hl t g d,o,e,x.mono c⟩
  case lmap cs es=>
   rw[j]at r
   simp only[bF]at r ⊢
   obtain⟨g,bb,off,d,hy,hc,f⟩:=r
   obtain⟨o,e,x⟩:=f.holds
   exact⟨g,bb,off,d,hy,eO.mono c _ _ _ hc,f.base,hl t g d,o,e,x.mono c⟩
  all_goals
   rw[j]at r
   have q:=bF.rep (by simp [AV.bC]) r
   rw[q.1]
   exact bF.dC (by simp [AV.bC]) (aR.mono c _ _ q.2)
 heap:=λe he=>by
  obtain⟨o,l,x⟩:=(h.heap e he).holds
  exact⟨(h.heap e he).base,hh e (bn.2 (.inl he)),o,l,x.mono c⟩
 frame:=λe he=>by
  obtain⟨o,l,x⟩:=(h.frame e he).holds
  exact⟨(h.frame e he).base,hh e (bn.2 (.inr he)),o,l,x.mono c⟩
 nodup:=h.nodup
 aI:=h.aI
 gk:=h.gk
theorem Sat.alloc (h:Sat C env H D a w S L){x:cP}{o:Obj}(hx:Holds S x o):
  Sat C env ((w.heap.size,x)::H) D a (w.alloc o) S L:=by
 have k:bx w.heap.size w (w.alloc o):=(b7 _ _).alloc (bA _) _
 have g:=h.grow k
 have c:(w.alloc o).heap[w.heap.size]? =some o:=heap_alloc_new w o
 refine {g with heap:=?_,nodup:=?_,aI:=?_}
 ·intro e he
  rcases bi.1 he with rfl|he
  ·exact⟨h.fresh (bA _),λhs=>absurd (h.sin.lt hs) (bI _),o,c,hx⟩
  ·exact g.heap e he
 ·simp only[bk,be,List.nodup_cons]
  exact⟨λhm=>absurd (h.qk hm) (bI _),h.nodup⟩
 ·intro t b e
  simp only[bk,be,bi,not_or]
  exact⟨λd=>absurd (h.FA e) zz,h.aI t b e⟩
end sat
inductive jM where
 |rF (x:Operand)
 |pick (c x y:Operand)
 |bin (op:BinOp) (T:TypeId) (x y:Operand)
 |nI (neg:Bool) (T:TypeId) (x y:Operand)
 |un (op:UnOp) (x:Operand)
 |toInt (k:IntKind) (src dst:TypeId) (x:Operand)
 |conv (src dst:TypeId) (x:Operand)
 |extract (x:Operand) (i:Nat)
 |oN (T:TypeId) (x:Operand) (f off:Nat)
 |ni (T:TypeId) (x i:Operand) (k:Nat)
 |kq (T:TypeId) (x i:Operand) (n k:Nat)
 |load (T:TypeId) (x:Operand) (n:Option Nat)
 |store (T:TypeId) (x y:Operand) (n:Nat)
 |field (T:TypeId) (x:Operand) (f off:Nat) (n:Option Nat)
 |og (T:TypeId) (x i:Operand)
 |iS (T:TypeId) (x i:Operand) (n k:Nat) (g:Option Nat)
 |build (T:TypeId) (ps:List (Nat×Operand)) (zero:List Value) (places:List (Nat×Nat×Operand))
 |iB (T:TypeId) (len:Nat) (ps:List (Nat×Operand)) (E k:Nat) (zero:List Value)
 |alloc (T:TypeId) (zero:List Value)
 |box (T:TypeId) (x:Operand)
 |vv (f:Fn) (first caps:List Operand)
 |uM (x:Operand)
 |len (str:Bool) (T:TypeId) (ty:TypeId) (x:Operand)
 |It (T:TypeId) (ty:TypeId) (x:Operand)
 |append (T:TypeId) (ty:TypeId) (x y:Operand) (E k bytes:Nat) (zero:List Value)
 |kQ (T U:TypeId) (ty:TypeId) (x y:Operand) (E k bytes:Nat) (zero:List Value)
 |mn (T U:TypeId) (ty:TypeId) (x y:Operand) (E k bytes:Nat) (zero:List Value)
 |wz (T:TypeId) (ty:TypeId) (x:Operand)
 |Cg (T U:TypeId) (ty:TypeId) (x y:Operand)
 |copy (T:TypeId) (U:TypeId) (ty:TypeId) (x y:Operand) (E k:Nat)
 |min (ts:List TypeId) (ty:TypeId) (xs:List Operand)
 |max (ts:List TypeId) (ty:TypeId) (xs:List Operand)
 |gR (T:TypeId) (l c:Operand) (E k bytes:Nat) (zero:List Value)
 |sU (T:TypeId)
 |lookup (T:TypeId) (x i:Operand) (ok:Bool) (K E:TypeId) (zero:List Value)
 |iI (T:TypeId) (x i y:Operand) (K E:TypeId)
 |nf (T:TypeId) (x i:Operand) (K E:TypeId) (zero:List Value)
 |uA (T:TypeId) (x s y:Operand)
 |range (T:TypeId) (x:Operand) (str:Bool)
 |next (x:Operand) (str:Bool) (ty:TypeId)
 |entry (x:Operand)
 |nY (T:TypeId) (x:Operand) (lo hi mx:Option Operand)
 |mj (T:TypeId) (x:Operand) (lo hi mx:Option Operand) (k:Nat)
 |lJ (T:TypeId) (x:Operand) (lo hi mx:Option Operand) (n k:Nat)
 |call (f:FuncId) (args:List Operand) (ty:TypeId)
 |fP (x:Operand) (args:List Operand) (ty:TypeId)
 |JY (T:TypeId) (x:Operand)
 |zn (x:Operand) (T A:TypeId) (ok:Bool)
 |panic (x:Operand)
 |other (op:Op)
structure aH where
 dst:Option Nat
 guard:Option (Nat×Bool)
 op:jM
def G9 (P:Program)(t:TypeId):Bool:=match P.underlying t with
 |some (.struct _)|some (.array _ _)=>true
 |_=>false
def ya (P:Program)(t:TypeId):Option (Option Nat):=match P.info? t,P.underlying t with
 |some i,some _=>if G9 P t then some (some i.size)else if i.size=1 then some none else none
 |_,_=>none
def zeroOf (P:Program)(t:TypeId):Option (List Value):=match P.info? t with
 |some i=>(i.zero).map λz=>z.cells.toList
 |none=>none
def kD (P:Program)(b:Array Field):List (Nat×Operand)->Option (List (Nat×Nat×Operand))
 |[]=>some []
 |(f,x)::l=>match b[f]?,kD P b l with
  |some a,some r=>(P.info? a.type).map λj=>(a.offset,j.size,x)::r
  |_,_=>none
def bS (P:Program)(o:Oper):Option jM:=
 match o.op with
 | .move x| .assign x=>some (.rF x)
 | .pick c x y=>some (.pick c x y)
 | .binOp op T x y _=>
  match op,P.underlying T with
  | .eql,some (.int _)| .eql,some .string=>some (.bin .eql T x y)
  | .neq,some (.int _)| .neq,some .string=>some (.bin .neq T x y)
  | .eql,some _=>some (.nI false T x y)
  | .neq,some _=>some (.nI true T x y)
  |op,some _=>some (.bin op T x y)
  |_,none=>none
 | .unOp op _ x=>some (.un op x)
 | .convert src dst x=>
  match P.underlying src,P.underlying dst with
  |some (.int _),some (.int k)=>some (.toInt k src dst x)
  |some _,some _=>some (.conv src dst x)
  |_,_=>none
 | .extract x i=>some (.extract x i)
 | .fieldAddr T x f=>
  match P.underlying T with
  |some (.struct b)=>
   match b[f]? with
   |some e=>match P.info? e.type with
    |some i=>if i.size=0 then none else some (.oN T x f e.offset)
    |none=>none
   |none=>none
  |_=>none
 | .indexAddr T x i=>
  match P.underlying T with
  |some (.slice E)=>(P.info? E).map λj=>.ni T x i j.size
  |some (.array n E)=>if n<=1 then none else(P.info? E).map λj=>.kq T x i n j.size
  |_=>none
 | .load T x=>(ya P T).map λn=>.load T x n
 | .store T x y=>(P.info? T).map λj=>.store T x y j.size
 | .field T x f=>
  match P.underlying T with
  |some (.struct b)=>
   match b[f]? with
   |some e=>(ya P e.type).map λn=>.field T x f e.offset n
   |none=>none
  |_=>none
 | .index T x i=>
  match P.underlying T with
  |some .string=>some (.og T x i)
  |some (.array n E)=>match P.info? E,ya P E with
   |some j,some g=>some (.iS T x i n j.size g)
   |_,_=>none
  |_=>none
 | .build T ps=>
  match zeroOf P T,P.underlying T with
  |some z,some (.struct b)=>if b.toList.all (λf=>(P.info? f.type).isSome)then(kD P b ps.toList).map λa=>.build T ps.toList z a else none
  |some z,some (.array _ E)=>(P.info? E).map λj=>.build T ps.toList z (ps.toList.map λp=>(p.1*j.size,j.size,p.2))
  |_,_=>none
 | .buildSlice T n ps=>
  match P.underlying T with
  |some (.slice E)=>match P.info? E,zeroOf P E with
   |some j,some z=>if j.size=0\/n*j.size>2^24\/z.length≠j.size then none else some (.iB T n ps.toList E j.size z)
   |_,_=>none
  |_=>none
 | .alloc T=>(zeroOf P T).map λz=>.alloc T z
 | .box T x=>some (.box T x)
 | .makeFunc f first d=>some (.vv f first.toList d.toList)
 | .nilCheck x=>some (.uM x)
 | .call {callee:=.builtin .len,args,argTypes}=>match argTypes.toList,args.toList with
  |[T],[x]=>match P.underlying T with
   |some .string=>some (.len true T o.type x)
   |some (.slice _)=>some (.len false T o.type x)
   |some (.map _ _)=>some (.It T o.type x)
   |_=>none
  |_,_=>none
 | .call {callee:=.builtin .append,args,argTypes}=>match argTypes.toList,args.toList with
  |[T,U],[x,y]=>match P.underlying T with
   |some (.slice E)=>match P.info? E,zeroOf P E with
    |some j,some z=>if j.size=0\/z.length≠j.size then none else if T=U then some (.append T o.type x y E j.size j.bytes z)else match P.underlying U with
     |some .string=>some (.kQ T U o.type x y E j.size j.bytes z)
     |some (.int _)=>some (.mn T U o.type x y E j.size j.bytes z)
     |_=>none
    |_,_=>none
   |_=>none
  |_,_=>none
 | .call {callee:=.builtin .unsafeSliceData,args,argTypes}=>match argTypes.toList,args.toList with
  |[T],[x]=>some (.wz T o.type x)
  |_,_=>none
 | .call {callee:=.builtin .unsafeString,args,argTypes}=>match argTypes.toList,args.toList with
  |[T,U],[x,y]=>some (.Cg T U o.type x y)
  |_,_=>none
 | .call {callee:=.builtin .copy,args,argTypes}=>match argTypes.toList,args.toList with
  |[T,U],[x,y]=>match P.underlying T with
   |some (.slice E)=>match P.info? E with
    |some j=>some (.copy T U o.type x y E j.size)
    |_=>none
   |_=>none
  |_,_=>none
 | .call {callee:=.builtin .min,args,argTypes}=>some (.min argTypes.toList o.type args.toList)
 | .call {callee:=.builtin .max,args,argTypes}=>some (.max argTypes.toList o.type args.toList)
 | .call {callee:=.value (.func f),args,..}=>match P.funcs[f]? with
  |some fn=>if fn.name== "runtime.NumGoroutine" ||fn.body.isNone then none else some (.call f args.toList o.type)
  |none=>none
 | .call {callee:=.value x,args,..}=>some (.fP x args.toList o.type)
 | .makeSlice T l c=>
  match P.underlying T with
  |some (.slice E)=>match P.info? E,zeroOf P E with
   |some j,some z=>if j.size=0\/z.length≠j.size then none else some (.gR T l c E j.size j.bytes z)
   |_,_=>none
  |_=>none
 | .makeMap T none=>some (.sU T)
 | .lookup T x i ok=>
  match P.underlying T with
  |some (.map K E)=>(zeroOf P E).map λz=>.lookup T x i ok K E z
  |_=>none
 | .mapUpdate T x i y| .insert T x i y=>
  match P.underlying T with
  |some (.map K E)=>some (.iI T x i y K E)
  |_=>none
 | .mapEntry T x i=>
  match P.underlying T with
  |some (.map K E)=>(zeroOf P E).map λz=>.nf T x i K E z
  |_=>none
 | .entryStore T x s y=>some (.uA T x s y)
 | .range T x=>
  match P.underlying T with
  |some .string=>some (.range T x true)
  |some (.map _ _)=>some (.range T x false)
  |_=>none
 | .next x s=>some (.next x s o.type)
 | .entry x=>some (.entry x)
 | .slice T x lo hi h=>
  match P.underlying T with
  |some .string=>if h.isSome then none else some (.nY T x lo hi h)
  |some (.slice E)=>(P.info? E).map λj=>.mj T x lo hi h j.size
  |some (.array n E)=>(P.info? E).map λj=>.lJ T x lo hi h n j.size
  |_=>none
 | .makeInterface T x=>match P.underlying T with
  |some (.interface _)=>none
  |some _=>some (.JY T x)
  |none=>none
 | .typeAssert x T A ok=>some (.zn x T A ok)
 | .panic x=>some (.panic x)
 |op=>some (.other op)
variable {P:Program}
inductive Lo (P:Program)(o:Oper):jM->Prop where
 |rF {x}:o.op= .move x\/o.op= .assign x->Lo P o (.rF x)
 |pick {c x y}:o.op= .pick c x y->Lo P o (.pick c x y)
 |bin {op T x y U d:_}:o.op= .binOp op T x y U->P.underlying T=some d->((op= .eql\/op= .neq)->(∃k,d= .int k)\/d= .string)->Lo P o (.bin op T x y)
 |nI {neg T x y U d:_}:o.op= .binOp (if neg then .neq else .eql) T x y U->P.underlying T=some d->Lo P o (.nI neg T x y)
 |un {op T x:_}:o.op= .unOp op T x->Lo P o (.un op x)
 |toInt {k k' src dst x:_}:o.op= .convert src dst x->P.underlying src=some (.int k')->P.underlying dst=some (.int k)->Lo P o (.toInt k src dst x)
 |conv {src dst x d e:_}:o.op= .convert src dst x->P.underlying src=some d->P.underlying dst=some e->Lo P o (.conv src dst x)
 |extract {x i:_}:o.op= .extract x i->Lo P o (.extract x i)
 |oN {T x f fs fd i:_}:o.op= .fieldAddr T x f->P.underlying T=some (.struct fs)->fs[f]? =some fd->P.info? fd.type=some i->i.size≠0->Lo P o (.oN T x f fd.offset)
 |ni {T x i E j:_}:o.op= .indexAddr T x i->P.underlying T=some (.slice E)->P.info? E=some j->Lo P o (.ni T x i j.size)
 |kq {T x i E j n:_}:o.op= .indexAddr T x i->P.underlying T=some (.array n E)-> ¬n<=1->P.info? E=some j->Lo P o (.kq T x i n j.size)
 |load {T x n:_}:o.op= .load T x->ya P T=some n->Lo P o (.load T x n)
 |store {T x y j:_}:o.op= .store T x y->P.info? T=some j->Lo P o (.store T x y j.size)
 |field {T x f fs fd n:_}:o.op= .field T x f->P.underlying T=some (.struct fs)->fs[f]? =some fd->ya P fd.type=some n->Lo P o (.field T x f fd.offset n)
 |og {T x i:_}:o.op= .index T x i->P.underlying T=some .string->Lo P o (.og T x i)
 |iS {T x i n E j g:_}:o.op= .index T x i->P.underlying T=some (.array n E)->P.info? E=some j->ya P E=some g->Lo P o (.iS T x i n j.size g)
 |Pv {T ps z fs pl:_}:o.op= .build T ps->zeroOf P T=some z->P.underlying T=some (.struct fs)->fs.toList.all (λf=>(P.info? f.type).isSome)=true->kD P fs ps.toList=some pl->Lo P o (.build T ps.toList z pl)
 |PA {T ps z n E j:_}:o.op= .build T ps->zeroOf P T=some z->P.underlying T=some (.array n E)->P.info? E=some j->
  Lo P o (.build T ps.toList z (ps.toList.map λp=>(p.1*j.size,j.size,p.2)))
 |iB {T n ps E j z:_}:o.op= .buildSlice T n ps->P.underlying T=some (.slice E)->P.info? E=some j->zeroOf P E=some z-> ¬(j.size=0\/n*j.size>2^24\/z.length≠j.size)->
  Lo P o (.iB T n ps.toList E j.size z)
 |alloc {T z:_}:o.op= .alloc T->zeroOf P T=some z->Lo P o (.alloc T z)
 |box {T x:_}:o.op= .box T x->Lo P o (.box T x)
 |vv {f first caps}:o.op= .makeFunc f first caps->Lo P o (.vv f first.toList caps.toList)
 |uM {x}:o.op= .nilCheck x->Lo P o (.uM x)
 |aat {T x:_}:o.op= .call {callee:=.builtin .len,args:= #[x],argTypes:= #[T]}->P.underlying T=some .string->Lo P o (.len true T o.type x)
 |Z1 {T x E:_}:o.op= .call {callee:=.builtin .len,args:= #[x],argTypes:= #[T]}->P.underlying T=some (.slice E)->Lo P o (.len false T o.type x)
 |It {T x K E:_}:o.op= .call {callee:=.builtin .len,args:= #[x],argTypes:= #[T]}->P.underlying T=some (.map K E)->Lo P o (.It T o.type x)
 |append {T x y E j z:_}:o.op= .call {callee:=.builtin .append,args:= #[x,y],argTypes:= #[T,T]}->P.underlying T=some (.slice E)->P.info? E=some j->zeroOf P E=some z->
  ¬(j.size=0\/z.length≠j.size)->Lo P o (.append T o.type x y E j.size j.bytes z)
 |kQ {T U x y E j z:_}:o.op= .call {callee:=.builtin .append,args:= #[x,y],argTypes:= #[T,U]}->P.underlying T=some (.slice E)->P.underlying U=some .string->P.info? E=some j->zeroOf P E=some z->
  ¬(j.size=0\/z.length≠j.size)->Lo P o (.kQ T U o.type x y E j.size j.bytes z)
 |mn {T U x y E j z k:_}:o.op= .call {callee:=.builtin .append,args:= #[x,y],argTypes:= #[T,U]}->P.underlying T=some (.slice E)->P.underlying U=some (.int k)->P.info? E=some j->zeroOf P E=some z->
  ¬(j.size=0\/z.length≠j.size)->Lo P o (.mn T U o.type x y E j.size j.bytes z)
 |wz {T x:_}:o.op= .call {callee:=.builtin .unsafeSliceData,args:= #[x],argTypes:= #[T]}->Lo P o (.wz T o.type x)
 |Cg {T U x y:_}:o.op= .call {callee:=.builtin .unsafeString,args:= #[x,y],argTypes:= #[T,U]}->Lo P o (.Cg T U o.type x y)
 |copy {T U x y E j:_}:o.op= .call {callee:=.builtin .copy,args:= #[x,y],argTypes:= #[T,U]}->P.underlying T=some (.slice E)->P.info? E=some j->
  Lo P o (.copy T U o.type x y E j.size)
 |min {ts xs}:o.op= .call {callee:=.builtin .min,args:=xs,argTypes:=ts}->Lo P o (.min ts.toList o.type xs.toList)
 |max {ts xs}:o.op= .call {callee:=.builtin .max,args:=xs,argTypes:=ts}->Lo P o (.max ts.toList o.type xs.toList)
 |call {f xs ts fn}:o.op= .call {callee:=.value (.func f),args:=xs,argTypes:=ts}->P.funcs[f]? =some fn->(fn.name== "runtime.NumGoroutine")=false->fn.body.isNone=false->
  Lo P o (.call f xs.toList o.type)
 |fP {x xs ts}:o.op= .call {callee:=.value x,args:=xs,argTypes:=ts}->Lo P o (.fP x xs.toList o.type)
 |gR {T l c E j z:_}:o.op= .makeSlice T l c->P.underlying T=some (.slice E)->P.info? E=some j->zeroOf P E=some z-> ¬(j.size=0\/z.length≠j.size)->
  Lo P o (.gR T l c E j.size j.bytes z)
 |sU {T:_}:o.op= .makeMap T none->Lo P o (.sU T)
 |lookup {T x i ok K E z:_}:o.op= .lookup T x i ok->P.underlying T=some (.map K E)->zeroOf P E=some z->Lo P o (.lookup T x i ok K E z)
 |iI {T x i y K E:_}:(o.op= .mapUpdate T x i y\/o.op= .insert T x i y)->P.underlying T=some (.map K E)->Lo P o (.iI T x i y K E)
 |nf {T x i K E z:_}:o.op= .mapEntry T x i->P.underlying T=some (.map K E)->zeroOf P E=some z->Lo P o (.nf T x i K E z)
 |uA {T x s y:_}:o.op= .entryStore T x s y->Lo P o (.uA T x s y)
 |tn {T x:_}:o.op= .range T x->P.underlying T=some .string->Lo P o (.range T x true)
 |xM {T x K E:_}:o.op= .range T x->P.underlying T=some (.map K E)->Lo P o (.range T x false)
 |next {x s}:o.op= .next x s->Lo P o (.next x s o.type)
 |entry {x}:o.op= .entry x->Lo P o (.entry x)
 |nY {T x lo hi:_}:o.op= .slice T x lo hi none->P.underlying T=some .string->Lo P o (.nY T x lo hi none)
 |mj {T x lo hi mx E j:_}:o.op= .slice T x lo hi mx->P.underlying T=some (.slice E)->P.info? E=some j->Lo P o (.mj T x lo hi mx j.size)
 |lJ {T x lo hi mx n E j:_}:o.op= .slice T x lo hi mx->P.underlying T=some (.array n E)->P.info? E=some j->Lo P o (.lJ T x lo hi mx n j.size)
 |JY {T x d:_}:o.op= .makeInterface T x->P.underlying T=some d->(∀m,d≠.interface m)->Lo P o (.JY T x)
 |zn {x T A ok:_}:o.op= .typeAssert x T A ok->Lo P o (.zn x T A ok)
 |panic {x}:o.op= .panic x->Lo P o (.panic x)
 |other {op}:o.op=op->Lo P o (.other op)
theorem UP {α:Type}{a:Array α}{x:α}(h:a.toList=[x]):a= #[x]:=by cases a;simp_all
theorem G1 {α:Type}{a:Array α}{x y:α}(h:a.toList=[x,y]):a= #[x,y]:=by cases a;simp_all
theorem JZ {o:Oper}{l:jM}(h:bS P o=some l):Lo P o l:=by
 obtain⟨dst,op,w,v,q,guard⟩:=o
 cases op
 case binOp op T x y U=>
  simp only[bS]at h
  split at h
  all_goals first
   |(cases h;exact .bin rfl zy (λ_=>.inl ⟨_,rfl⟩))
   |(cases h;exact .bin rfl zy (λ_=>.inr rfl))
   |(cases h;exact .nI (neg:=false) rfl zy)
   |(cases h;exact .nI (neg:=true) rfl zy)
   |(cases h;refine .bin rfl zy (λhe=>?_);rcases he with he|he<;>subst he<;>simp_all)
   |cases h
 case convert src dst x=>
  simp only[bS]at h
  split at h
  ·cases h;exact .toInt rfl zy zy
  ·cases h;exact .conv rfl zy zy
  ·cases h
 case fieldAddr T x f=>
  simp only[bS]at h
  repeat' split at h
  all_goals first
   |cases h;done
   |(cases h;exact .oN rfl zy zy zy zy)
 case indexAddr T x i=>
  simp only[bS]at h
  repeat' split at h
  all_goals first
   |cases h;done
   |(obtain⟨j,p,rfl⟩:=h;exact .ni rfl zy p)
   |(simp only[an]at h;obtain⟨j,p,rfl⟩:=h;exact .ni rfl zy p)
   |(simp only[an]at h;obtain⟨j,p,rfl⟩:=h;exact .kq rfl zy zy p)
 case load T x=>simp only[bS,an]at h;obtain⟨n,a,rfl⟩:=h;exact .load rfl a
 case store T x y=>simp only[bS,an]at h;obtain⟨j,a,rfl⟩:=h;exact .store rfl a
 case field T x f=>
  simp only[bS]at h
  repeat' split at h
  all_goals first
   |cases h;done
   |(simp only[an]at h;obtain⟨n,a,rfl⟩:=h;exact .field rfl zy zy a)
 case index T x i=>
  simp only[bS]at h
  repeat' split at h
  all_goals first
   |cases h;done
   |(cases h;exact .og rfl zy)
   |(cases h;exact .iS rfl zy zy zy)
 case build T ps=>
  simp only[bS]at h
  repeat' split at h
  all_goals first
   |cases h;done
   |(simp only[an]at h;obtain⟨n,a,rfl⟩:=h;exact .Pv rfl zy zy zy a)
   |(simp only[an]at h;obtain⟨n,a,rfl⟩:=h;exact .PA rfl zy zy a)
 case buildSlice T n ps=>
  simp only[bS]at h
  repeat' split at h
  all_goals first
   |cases h;done
   |(cases h;exact .iB rfl zy zy zy zy)
 case alloc T=>simp only[bS,an]at h;obtain⟨j,a,rfl⟩:=h;exact .alloc rfl a
 case makeSlice T l c=>
  simp only[bS]at h
  repeat' split at h
  all_goals first
   |cases h;done
   |(cases h;exact .gR rfl zy zy zy zy)
 case makeMap T r=>
  cases r<;>simp only[bS]at h<;>cases h
  ·exact .sU rfl
  ·exact .other rfl
 case lookup T x i ok=>
  simp only[bS]at h
  repeat' split at h
  all_goals first
   |cases h;done
   |(simp only[an]at h;obtain⟨n,a,rfl⟩:=h;exact .lookup rfl zy a)
 case mapUpdate T x i y=>
  simp only[bS]at h
  repeat' split at h
  all_goals first
   |cases h;done
   |(cases h;exact .iI (.inl rfl) zy)
 case insert T x i y=>
  simp only[bS]at h
  repeat' split at h
  all_goals first
   |cases h;done
   |(cases h;exact .iI (.inr rfl) zy)
 case mapEntry T x i=>
  simp only[bS]at h
  repeat' split at h
  all_goals first
   |cases h;done
   |(simp only[an]at h;obtain⟨n,a,rfl⟩:=h;exact .nf rfl zy a)
 case range T x=>
  simp only[bS]at h
  repeat' split at h
  all_goals first
   |cases h;done
   |(cases h;exact .tn rfl zy)
   |(cases h;exact .xM rfl zy)
 case slice T x lo hi u=>
  simp only[bS]at h
  repeat' split at h
  all_goals first
   |cases h;done
   |(cases u<;>simp_all;subst h;exact .nY rfl zy)
   |(simp only[an]at h;obtain⟨n,a,rfl⟩:=h;exact .mj rfl zy a)
   |(simp only[an]at h;obtain⟨n,a,rfl⟩:=h;exact .lJ rfl zy a)
 case makeInterface T x=>
  simp only[bS]at h
  split at h
  ·cases h
  ·rename_i d hd a
   cases h
   exact .JY rfl a (λm e=>zx)
  ·cases h
 case call c=>
  obtain⟨callee,args,argTypes⟩:=c
  cases callee with
  |value x=>
   cases x with
   |func f=>
    simp only[bS]at h
    split at h
    ·split at h
     ·cases h
     ·rename_i fn t hc
      cases h
      simp only[Bool.or_eq_true,not_or,Bool.not_eq_true]at hc
      exact .call rfl t hc.1 hc.2
    ·cases h
   |_=>simp only[bS]at h;cases h;exact .fP rfl
  |invoke r m=>simp only[bS]at h;cases h;exact .other rfl
  |builtin b=>
   cases b
   case len=>
    simp only[bS]at h
    split at h
    ·rename_i T x g k
     rw[UP g,UP k]
     repeat' split at h
     all_goals first
      |cases h;done
      |(cases h;exact .aat rfl zy)
      |(cases h;exact .Z1 rfl zy)
      |(cases h;exact .It rfl zy)
    ·cases h
   case append=>
    simp only[bS]at h
    split at h
    ·rename_i T U x y g k
     rw[G1 g,G1 k]
     split at h
     ·split at h
      ·split at h
       ·cases h
       ·split at h
        ·rename_i s
         subst s
         cases h
         exact .append rfl zy zy zy zy
        ·split at h
         ·cases h;exact .kQ rfl zy zy zy zy zy
         ·cases h;exact .mn rfl zy zy zy zy zy
         ·cases h
      ·cases h
     ·cases h
    ·cases h
   case unsafeSliceData=>
    simp only[bS]at h
    split at h
    ·rename_i T x g k
     rw[UP g,UP k]
     cases h
     exact .wz rfl
    ·cases h
   case unsafeString=>
    simp only[bS]at h
    split at h
    ·rename_i T U x y g k
     rw[G1 g,G1 k]
     cases h
     exact .Cg rfl
    ·cases h
   case copy=>
    simp only[bS]at h
    split at h
    ·rename_i T U x y g k
     rw[G1 g,G1 k]
     repeat' split at h
     all_goals first
      |cases h;done
      |(cases h
        exact .copy rfl zy zy)
    ·cases h
   case min=>simp only[bS]at h;cases h;exact .min rfl
   case max=>simp only[bS]at h;cases h;exact .max rfl
   all_goals (simp only[bS]at h;cases h;exact .other rfl)
 case move x=>simp only[bS]at h;cases h;exact .rF (.inl rfl)
 case assign x=>simp only[bS]at h;cases h;exact .rF (.inr rfl)
 case pick=>simp only[bS]at h;cases h;exact .pick rfl
 case unOp=>simp only[bS]at h;cases h;exact .un rfl
 case extract=>simp only[bS]at h;cases h;exact .extract rfl
 case box=>simp only[bS]at h;cases h;exact .box rfl
 case makeFunc=>simp only[bS]at h;cases h;exact .vv rfl
 case nilCheck=>simp only[bS]at h;cases h;exact .uM rfl
 case entryStore=>simp only[bS]at h;cases h;exact .uA rfl
 case next=>simp only[bS]at h;cases h;exact .next rfl
 case entry=>simp only[bS]at h;cases h;exact .entry rfl
 case typeAssert=>simp only[bS]at h;cases h;exact .zn rfl
 case panic=>simp only[bS]at h;cases h;exact .panic rfl
 all_goals (simp only[bS]at h;cases h;exact .other rfl)
variable {a:Act}{L:Nat->Option Nat}{H:Heap}{C:Ctx}{ls:List aH}{env:Env}{arr:Array Oper}{D:List Nat}{N j:Nat}{dst r:Option Nat}{K:Env->Heap->List Nat->Prop}
def Fw (r:Option Nat):Fence:={Fence.wide with round:=r}
def cv:Value->AV
 | .slice none 0 0=>.nil
 | .agg cs=>.agg (cs.toList.map .v)
 |v=>.v v
def bu (env:Env):Operand->AV
 | .tmp t=>env t
 | .const v=>cv v
 | .global g=>.v (.pointer (some ⟨g,0,none⟩))
 | .func f=>.fn (.func f) [] []
theorem qx (S:aE): ∀l:List Value,aS S (l.map .v) l
 |[]=>by simp [aS]
 |c::l=>by simp;exact⟨c,l,rfl,by simp [aR],qx S l⟩
theorem Af (S:aE): ∀l m:List Value,aS S (l.map .v) m↔m=l
 |[],m=>by simp [aS]
 |c::l,m=>by
  simp only[be,aS,aR,Af S l]
  constructor
  ·rintro⟨_,_,rfl,rfl,rfl⟩;rfl
  ·rintro rfl;exact⟨_,_,rfl,rfl,rfl⟩
theorem vg (S:aE)(v:Value):aR S (cv v) v:=by
 unfold cv;split
 ·simp [aR]
 ·rename_i cs;simp only[aR];exact⟨cs.toList,zj,qx S _⟩
 ·simp [aR]
theorem X2 (v:Value):(cv v).bC=false:=by unfold cv;split<;>rfl
section
theorem Sat.cY (h:Sat C env H D a w S L)(x:Operand)(e:bu env x=p)(b:p.bC=false):aR S p (a.eval x):=by
 cases x with
 |tmp t=>exact h.rep e b
 |const v=>subst e;exact vg S v
 |global g=>subst e;simp [bu,aR,b8]
 |func f=>subst e;simp [bu,aR,b8,aS]
theorem Sat.sj (h:Sat C env H D a w S L): ∀(xs:List Operand) {ps:List AV},xs.map (bu env)=ps->(∀p∈ps,p.bC=false)->aS S ps (xs.map a.eval)
 |[],ps,e,_=>by subst e;simp [aS]
 |x::xs,ps,e,b=>by
  subst e
  simp
  simp only[be,bi]at b
  exact⟨_,_,rfl,h.cY x rfl (b _ (.inl rfl)),h.sj xs rfl (λp m=>b p (.inr m))⟩
end
theorem Lo.semAt {o:Oper}{l:jM}(h:Lo P o l)(hl: ∀op,l≠.other op)(r:Option Nat)(ρ:Operand->Value):o.semAt r ρ=execOp ρ o:=by
 cases r with
 |none=>rfl
 |some r=>
  apply Oper.semAt_some;intro c hc;cases h;case other=>exact hl _ rfl
  case rF h=>rcases h with h|h<;>simp [h]at hc
  case iI h _=>rcases h with h|h<;>simp [h]at hc
  all_goals simp_all
def aF (P:Program)(r:Option Nat)(N:Nat)(l:jM)(dst:Option Nat)(env:Env)(H:Heap)(D:List Nat)(K:Env->Heap->List Nat->Prop):Prop:=
 ∀o:Oper,o.dst=dst->(∀d,dst=some d->d<N)->Lo P o l-> ∀(C:Ctx) (a:Act) (w:World) (S:aE) (L:Nat->Option Nat),C.N=N->Sat C env H D a w S L->
  ∀(next:Act->World->Prop) (Q:Exit->Act->World->Prop),
   (∀env' H' b y w' c e,K env' H' b->Sat C env' H' b (a.put dst y) w' c e->S.Le c->next (a.put dst y) w')->o.wpIn (Fw r) 0 P a w next Q
def ct (env:Env)(dst:Option Nat)(p:AV):Env:=match dst with|some d=>dK env d p|none=>env
theorem Sat.lA (h:Sat C env H D a w S L)(hd: ∀d,dst=some d->d<C.N)
  {y:Value} (c:p.bC=false) (e:aR S p y): ∃b,Sat C (ct env dst p) H D (a.put dst y) w S b:=by
 cases dst with
 |none=>exact⟨L,h⟩
 |some d=>exact⟨_,h.put (bs (hd d rfl) h.size) c e⟩
theorem Oper.bO {o:Oper}{l:jM}(hl:Lo P o l)(b: ∀op,l≠.other op){y:Value} 
  (h:(execOp a.eval o).run P w= .ok (.value y) w') {next:Act->World->Prop} {Q:Exit->Act->World->Prop} (k:next (a.put o.dst y) w'):o.wpIn (Fw r) N P a w next Q:=by
 refine⟨λ_ _=>trivial,?_⟩
 show o.uponIn (Fw r) N P a next Q ((o.semAt r a.eval).run P w)
 rw[hl.semAt b,h]
 exact k
theorem Oper.wpIn_skip {o:Oper}{l:jM}(hl:Lo P o l)(b: ∀op,l≠.other op) 
  (h:(execOp a.eval o).run P w= .ok .skip w') {next:Act->World->Prop} {Q:Exit->Act->World->Prop} (k:next (a.put o.dst undef) w'):o.wpIn (Fw r) N P a w next Q:=by
 refine⟨λ_ _=>trivial,?_⟩
 show o.uponIn (Fw r) N P a next Q ((o.semAt r a.eval).run P w)
 rw[hl.semAt b,h]
 exact k
theorem aF.pure {l:jM}(n:p.bC=false)
  (i: ∀op,l≠.other op)
  (h: ∀o:Oper,Lo P o l-> ∀(C:Ctx) (a:Act) (w:World) (S:aE) (L:Nat->Option Nat),Sat C env H D a w S L-> ∃y,(execOp a.eval o).run P w= .ok (.value y) w/\aR S p y)
  (k:K (ct env dst p) H D):aF P r N l dst env H D K:=by
 intro o c hd f C a w S L m hs next Q b
 obtain⟨y,df,g⟩:=h o f C a w S L hs
 obtain⟨q,j⟩:=hs.lA (dst:=dst) (λd e=>m▸hd d e) n g
 exact Oper.bO f i df (by rw[c];exact b _ _ _ _ _ _ _ k j (aE.Le.refl _))
structure td (P:Program)(N:Nat)(arr:Array Oper)(i:Nat)(l:aH):Prop where
 at_: ∃o,arr[i]? =some o/\o.dst=l.dst/\(∀d,l.dst=some d->d<N)/\Lo P o l.op/\
  ((l.guard=none/\o.guard=none)\/ ∃j t b,l.guard=some (t,b)/\o.guard=some (j,b)/\(arr[j]?).bind (·.dst)=some t)
def gP (P:Program)(N:Nat)(arr:Array Oper):List Nat->List aH->Prop
 |[],ls=>ls=[]
 |i::is,ls=> ∃l ls',ls=l::ls'/\td P N arr i l/\gP P N arr is ls'
abbrev cI:=Exit->Env->Heap->List Nat->Prop
def vM (C:Ctx)(Q:cI):Exit->Act->World->Prop:=λe a w=> ∃env H D S L,Sat C env H D a w S L/\Q e env H D
def aT (P:Program)(r:Option Nat)(N:Nat)(ls:List aH)(Q:cI)(env:Env)(H:Heap)(D:List Nat):Prop:=
 ∀(arr:Array Oper) (is:List Nat),gP P N arr is ls-> ∀(C:Ctx) (a:Act) (w:World) (S:aE) (L:Nat->Option Nat),C.N=N->Sat C env H D a w S L->
  wpOpsIn (Fw r) 0 P arr (vM C Q) is a w
section
variable {Q:cI}
theorem aT.nil (h:Q .normal env H D):aT P r N [] Q env H D:=by
 intro arr is hm C a w S L _ hs;cases is with
 |nil=>exact⟨env,H,D,S,L,hs,h⟩
 |cons i is=>obtain⟨l,ls',e,_⟩:=hm;cases e
theorem fF {o:Oper}{y:Nat->Option Bool}(h:o.guard=none):ap o y=true:=by simp [ap,h]
theorem aT.cons {l:jM}(h:aF P r N l dst env H D (λenv' H' j=>aT P r N ls Q env' H' j)):aT P r N (⟨dst,none,l⟩::ls) Q env H D:=by
 intro arr is hm C a w S L m hs;cases is with
 |nil=>cases hm
 |cons i is=>
  obtain⟨t,ls',e,q,f⟩:=hm;cases e;obtain⟨o,s,b,hd,d,hg⟩:=q.at_
  have c:o.guard=none:=zx
  simp only[wpOpsIn,s,fF c,if_true];exact h o b hd d C a w S L m hs _ _ (λenv' H' j y w' p n k g _=>k arr is f C _ w' p n m g)
theorem oO {b:Bool}(hs:Sat C env H D a w S L)
  (d:(arr[j]?).bind (·.dst)=some t) (e:env t= .v (.bool b)):yielded arr a.tmps j=some b:=by
 have c:=hs.rep e rfl
 simp only[aR]at c
 have:a.tmps[t]? =some (.bool b):=by
  rw[az]at c
  cases hx:a.tmps[t]? with
  |none=>rw[hx]at c;simp [undef]at c
  |some x=>grind
 simp [yielded,d,this]
theorem uB {cs:Array Value}(hs:Sat C env H D a w S L)
  (c:(arr[j]?).bind (·.dst)=some t) (d:env t= .v (.tuple cs)):yielded arr a.tmps j=none:=by
 have b:=hs.rep d rfl
 simp only[aR]at b
 rw[az]at b
 unfold yielded
 rw[c]
 cases hx:a.tmps[t]? with
 |none=>simp [hx]
 |some x=>grind
theorem aT.yes {l:jM}{b:Bool}(A:env t= .v (.bool b))
  (h:aF P r N l dst env H D (λenv' H' n=>aT P r N ls Q env' H' n)):aT P r N (⟨dst,some (t,b),l⟩::ls) Q env H D:=by
 intro arr is hm C a w S L p hs
 cases is with
 |nil=>cases hm
 |cons i is=>
  obtain⟨F,ls',e,u,g⟩:=hm
  cases e
  obtain⟨o,z,c,hd,f,hg⟩:=u.at_
  rcases hg with⟨hg,_⟩|⟨j,G,E,hg,d,x⟩
  ·cases hg
  ·cases hg
   have B:ap o (yielded arr a.tmps)=true:=by
    simp [ap,d,oO hs x A]
   simp only[wpOpsIn,z,B,if_true]
   exact h o c hd f C a w S L p hs _ _ (λenv' H' n y w' s q k m _=>k arr is g C _ w' s q p m)
theorem aT.no {l:jM}{b c:Bool}(A:env t= .v (.bool c))(g:c≠b)
  (h:aT P r N ls Q (ct env dst (.v undef)) H D):aT P r N (⟨dst,some (t,b),l⟩::ls) Q env H D:=by
 intro arr is hm C a w S L q hs
 cases is with
 |nil=>cases hm
 |cons i is=>
  obtain⟨F,ls',e,u,m⟩:=hm
  cases e
  obtain⟨o,z,f,hd,y,hg⟩:=u.at_
  rcases hg with⟨hg,_⟩|⟨j,G,E,hg,k,x⟩
  ·cases hg
  ·cases hg
   have B:ap o (yielded arr a.tmps)=false:=by
    simp [ap,k,oO hs x A,g]
   simp only[wpOpsIn,z,B,if_false,a6]
   obtain⟨s,n⟩:=hs.lA (dst:=dst) (λd e=>q▸hd d e) (p:=.v undef) rfl (by simp [aR]:aR S (.v undef) undef)
   exact⟨λ_ _=>trivial,by rw[f];exact h arr is m C _ w S s q n⟩
theorem aT.nop {l:jM}{b:Bool}{cs:Array Value}(y:env t= .v (.tuple cs))
  (h:aT P r N ls Q (ct env dst (.v undef)) H D):aT P r N (⟨dst,some (t,b),l⟩::ls) Q env H D:=by
 intro arr is hm C a w S L m hs
 cases is with
 |nil=>cases hm
 |cons i is=>
  obtain⟨B,ls',e,q,g⟩:=hm
  cases e
  obtain⟨o,x,c,hd,u,hg⟩:=q.at_
  rcases hg with⟨hg,_⟩|⟨j,E,A,hg,f,s⟩
  ·cases hg
  ·cases hg
   have z:ap o (yielded arr a.tmps)=false:=by
    simp [ap,f,uB hs s y]
   simp only[wpOpsIn,x,z,if_false,a6]
   obtain⟨n,k⟩:=hs.lA (dst:=dst) (λd e=>m▸hd d e) (p:=.v undef) rfl (by simp [aR]:aR S (.v undef) undef)
   exact⟨λ_ _=>trivial,by rw[c];exact h arr is g C _ w S n m k⟩
end
variable {n:Nat}{T:TypeId}
theorem aR.jP {y:Value}(h:aR S p y):p.bC=false:=by cases p<;>simp_all [aR,AV.bC]
theorem aS.length : ∀{l:List AV} {cs:List Value},aS S l cs->cs.length=l.length
 |[],cs,h=>by simp only[aS]at h;subst h;rfl
 |a::l,cs,h=>by
  simp only[aS]at h
  obtain⟨c,b,rfl,_,h⟩:=h
  simp [h.length]
theorem aS.get : ∀{l:List AV} {cs:List Value},aS S l cs-> ∀{i:Nat} {p:AV},l[i]? =some p-> ∃c,cs[i]? =some c/\aR S p c
 |[],cs,_,i,p,e=>by simp at e
 |a::l,cs,h,i,p,e=>by
  simp only[aS]at h
  obtain⟨c,b,rfl,d,f⟩:=h
  cases i with
  |zero=>simp at e;subst e;exact⟨c,zj,d⟩
  |succ i=>simp at e ⊢;exact f.get e
theorem aS.drop : ∀{l:List AV} {cs:List Value} (n:Nat),aS S l cs->aS S (l.drop n) (cs.drop n)
 |_,_,0,h=>by simpa using h
 |[],cs,n+1,h=>by simp only[aS]at h;subst h;simp [aS]
 |a::l,cs,n+1,h=>by
  simp only[aS]at h
  obtain⟨c,b,rfl,e,d⟩:=h
  simpa using aS.drop n d
theorem aS.take : ∀{l:List AV} {cs:List Value} (n:Nat),aS S l cs->aS S (l.take n) (cs.take n)
 |_,_,0,h=>by simp [aS]
 |[],cs,n+1,h=>by simp only[aS]at h;subst h;simp [aS]
 |a::l,cs,n+1,h=>by
  simp only[aS]at h
  obtain⟨c,b,rfl,d,e⟩:=h
  simp
  exact⟨c,_,rfl,d,aS.take n e⟩
theorem aS.append : ∀{l m:List AV} {cs b:List Value},aS S l cs->aS S m b->aS S (l++m) (cs++b)
 |[],m,cs,b,h,k=>by simp only[aS]at h;subst h;simpa using k
 |a::l,m,cs,b,h,k=>by
  simp only[aS]at h
  obtain⟨c,d,rfl,e,f⟩:=h
  simp
  exact⟨c,_,rfl,e,aS.append f k⟩
theorem aS.split : ∀{l m:List AV} {cs:List Value},aS S (l++m) cs-> ∃c1 b,cs=c1++b/\aS S l c1/\aS S m b
 |[],m,cs,h=>⟨[],cs,rfl,by simp [aS],h⟩
 |a::l,m,cs,h=>by
  simp only[bk,aS]at h
  obtain⟨c,d,rfl,e,f⟩:=h
  obtain⟨c1,b,rfl,g,h4⟩:=aS.split f
  exact⟨c::c1,b,rfl,by simp only[aS];exact⟨c,c1,rfl,e,g⟩,h4⟩
theorem aS.set : ∀{l:List AV} {cs:List Value} (i:Nat) {p:AV} {c:Value},aS S l cs->aR S p c->aS S (l.set i p) (cs.set i c)
 |[],cs,i,p,c,h,_=>by simp only[aS]at h;subst h;simp [aS]
 |a::l,cs,0,p,c,h,k=>by
  simp only[aS]at h
  obtain⟨c0,b,rfl,e,d⟩:=h
  simp
  exact⟨c,b,rfl,k,d⟩
 |a::l,cs,i+1,p,c,h,k=>by
  simp only[aS]at h
  obtain⟨c0,b,rfl,e,d⟩:=h
  simp only[List.set_cons_succ,aS]
  exact⟨c0,_,rfl,e,aS.set i d k⟩
theorem eO.drop : ∀{cs:List AV} (n:Nat) {b o:Nat},eO S cs b o->eO S (cs.drop n) b (o+n)
 |_,0,b,o,h=>by simpa using h
 |[],n+1,b,o,h=>by simp [eO]
 |a::cs,n+1,b,o,h=>by
  simp only[eO]at h
  have:=eO.drop n h.2
  rw[show o+(n+1)=o+1+n from zz]
  simpa using this
theorem eO.cells : ∀{cs:List AV} {b o:Nat},eO S cs b o-> ∀n,n<=cs.length-> ∃l:List Value,aS S (cs.take n) l/\(∀c∈l,c.oneCell'=true)/\ ∀i,i<n->S.cell b (o+i)=l[i]?
 |_,b,o,_,0,_=>⟨[],by simp [aS],zj,zj⟩
 |[],b,o,h,n+1,d=>by simp at d
 |a::cs,b,o,h,n+1,d=>by
  simp only[eO]at h
  obtain⟨⟨c,e,f,r⟩,g⟩:=h
  obtain⟨l,k,hl,hi⟩:=eO.cells g n (by simpa using d)
  refine⟨c::l,?_,?_,?_⟩
  ·simp;exact⟨c,l,rfl,r,k⟩
  ·intro x hx;rcases bi.1 hx with rfl|hx
   ·exact f
   ·exact hl x hx
  ·intro i j
   cases i with
   |zero=>simpa using e
   |succ i=>have:=hi i zz;simp;rw[<-this];congr 1;omega
theorem addr_add (b o n:Nat):(⟨b,o,none⟩:Addr).add n=⟨b,o+n,none⟩:=by unfold Addr.add;split<;>simp_all
theorem run_loadCellsFrom {P:Program}{w:World}{b o:Nat}: ∀(n i:Nat) (acc:Array Value) (l:List Value),l.length=n->
  (∀j,j<n->w.cell? ⟨b,o+(i+j),none⟩=l[j]?)->(loadCellsFrom ⟨b,o,none⟩ i n acc).run P w= .ok (acc++l.toArray) w
 |0,i,acc,l,hl,_=>by
  cases l with
  |nil=>simp [loadCellsFrom]
  |cons=>simp at hl
 |n+1,i,acc,l,hl,h=>by
  cases l with
  |nil=>simp at hl
  |cons c l=>
   have a:=h 0 zz
   simp at a
   have d:=run_loadCellsFrom (P:=P) (w:=w) (b:=b) (o:=o) n (i+1) (acc.push c) l (by simpa using hl) (λj e=>by
    have:=h (j+1) zz
    rw[show o+(i+1+j)=o+(i+(j+1))from zz]
    simpa using this)
   simp only[loadCellsFrom,addr_add,bm,run_load,a,a7,d]
   simp
theorem run_loadCells {o:Nat}{l:List Value}(hl:l.length=n)(h: ∀j,j<n->w.cell? ⟨b,o+j,none⟩=l[j]?):
  (loadCells ⟨b,o,none⟩ n).run P w= .ok l.toArray w:=by
 have:=run_loadCellsFrom (P:=P) (w:=w) (b:=b) (o:=o) n 0 #[] l hl (λj a=>zx)
 simpa [loadCells]using this
theorem tQ {d:TypeDesc}(h:P.underlying T=some d):(isAgg T).run P w= .ok (G9 P T) w:=by unfold isAgg G9;simp only[bm,underlying,run_program,a7,h,b1];cases d<;>rfl
theorem pd {n:Option Nat}(a:ya P T=some n){o:Nat}{l:List Value}
  (hl:l.length=n.getD 1) (h: ∀j,j<n.getD 1->w.cell? ⟨b,o+j,none⟩=l[j]?):
  (loadVar T ⟨b,o,none⟩).run P w= .ok (match n with|some _=>.agg l.toArray|none=>l.headD undef) w:=by
 unfold ya at a
 cases hi:P.info? T with
 |none=>grind
 |some i=>
  cases e:P.underlying T with
  |none=>grind
  |some d=>
  rw[hi,e]at a
  simp only at a
  cases ha:G9 P T with
  |true=>
   rw[ha]at a
   simp only[if_true,bt]at a
   subst a
   have hc:=run_loadCells (P:=P) (w:=w) (b:=b) (o:=o) (n:=i.size) (l:=l) (by simpa using hl) (by simpa using h)
   simp only[loadVar,bm,tQ e,ha,a7,b3,if_true,sizeOf,typeInfo,run_program,hi,b1,hc]
  |false=>
   rw[ha]at a
   simp only[a6,if_false]at a
   split at a
   ·rename_i hs
    simp only[bt]at a
    subst a
    cases l with
    |nil=>simp at hl
    |cons c l=>
     have f:=h 0 zj
     simp at f
     simp only[loadVar,bm,tQ e,ha,a7,a6,b3,if_false,run_load,f,List.headD_cons]
   ·cases a
end Go.Px
