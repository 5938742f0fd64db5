/- Part 1 of the proof of a statement of this seat (a logic of pure contracts; the functions; their contracts). No conditions. -/
import GoSem.Claims
import Derived.KernelRfl
import Derived.RangeFuncIn
import Derived.RangeFuncCalls
import Derived.Below
import Derived.Laws.AppendOwn
import Derived.Laws.MakeOwn
import Derived.Laws.CopyOwn
import Derived.WalkKit
import Derived.Laws.OwnMore
import Derived.Laws.CopyRow
import Derived.RangeFuncLeaves
set_option linter.all false
open Array renaming getD_eq_getD_getElem?->b6,getElem?_eq_some_iff->en,toList_map->eM,range->gm
open BitVec renaming toNat_ofNat->b1,ofInt->cc,ofNat->cd,toNat_and->fv
open Bool renaming false_eq_true->bm,and_eq_true->c8
open Decidable renaming not_not->e7
open Go.Act renaming eval->hI
open Go.Builtin renaming zeroCells->b7,append_->cA,firstCells->er,lenOf->e5,len_->hC
open Go.Deferred renaming ofValue->fx
open Go.Fence renaming wide->e6
open Go.Frame renaming atR->hU
open Go.Instr renaming sureAddr->bn,indexAt->ey,loadAt->eS,buildSlice->fy,build->hJ,field->hL,fill->hQ
open Go.IntKind renaming i64->e2,bits->hD
open Go.Op renaming intArith->gx,stringOp->hM,intDiv->hV,shift->hX
open Go.Program renaming cellsOf->gX
open Go.Region renaming wanted->bA
open Go.Result renaming andThen_ok->a7
open Go.RowKit renaming Below->ek
open Go.RowKit.Below renaming refl->fu
open Go.Sem renaming run_pure->cy,run_bind->c7,run_ite->hO
open Go.StepsIn renaming trans->hr
open Go.Value renaming oneCell'->e3,cells->hP
open Go.stepG renaming exec->hR
open Int renaming toNat_natCast->e8
open List renaming mem_append->an,length_append->ap,mem_cons->bk,replicate->bl,getElem?_eq_getElem->bt,map_cons->bx,length_take->bI,mem_of_getElem?->b8,cons_append->cr,mem_map->cx,getElem?_take->cB,flatten_cons->cD,take_of_length_le->cR,all_eq_true->de,eq_nil_of_length_eq_zero->dn,mem_of_mem_take->ds,map_append->ea,flatten_append->ec,getElem?_append_right->et,getElem?_drop->eu,getElem?_append_left->ew,length_drop->eP,eraseIdx_sublist->eU,length_flatten->e4,ext_getElem?->fb,getElem?_inj->fe,getElem?_set->ff,nodup_append->fj,map_toArray->fD,length_nil->gM,nodup_cons->gQ,range->hf,take_left->ho,map_nil->hE
open List.Sublist renaming refl->e9
open Nat renaming lt_of_lt_of_le->az,add_mul->bs,mod_eq_of_lt->b0,min_eq_left->b3,le_of_ble_eq_true->b4,le_refl->b9,mul_le_mul_right->cb,lt_irrefl->dk,le_trans->ej,le_of_eq->eT,add_zero->fk,zero_add->fr,and_le_left->gR,le_of_lt->hF,succ_mul->hG,zero_mul->hH,beq->hS,ble->hT
open Option renaming map_eq_some_iff->a6,getD_some->ga
open Option.some renaming injEq->a8
open Pure renaming pure->hB
namespace Go.Px
variable {g:Option Nat}{E:Nat}{l:List Value}{v:Value}{A:Nat->Prop}{e:Sort _}{c:Prop}{h:Exit->Act->World->Prop}{s:Array Value}{z:Act->World->Prop}{F:World}{G:Bool}{M:Oper}{R:Nat->Option Nat}{Y:Operand}{Z:Type}
theorem zz {a:e}:a=a:=rfl
theorem zq:True:=⟨⟩
theorem zy {h:Decidable c}(hc:c){α:Sort _}{t e:α}:ite c t e=t:=if_pos hc
theorem zj {h:Decidable c}(hc:¬c){α:Sort _}{t e:α}:ite c t e=e:=if_neg hc
theorem eE {d:Sort _}{a1:d}{a:e}{f:Sort _}{b:f}{g:Sort _}{c:g}:(a1=a1/\a=a)/\(b=b/\c=c)/\True:=⟨⟨rfl,rfl⟩,⟨rfl,rfl⟩,⟨⟩⟩
theorem lO {f:Sort _}{a1:f}{g:Sort _}{a:g}{h:Sort _}{b:h}{i:Sort _}{c:i}{j:Sort _}{d:j}{k:Sort _}{e:k}:a1=a1/\a=a/\b=b/\c=c/\d=d/\e=e/\True:=⟨rfl,rfl,rfl,rfl,rfl,rfl,⟨⟩⟩
theorem uD {a:Prop}{b:Prop}(c:a:=by omega)(d:b:=by omega):(a/\b)/\True:=⟨⟨c,d⟩,⟨⟩⟩
theorem aK {b:Sort _}{a1:b}{c:Sort _}{a:c}:(a1=a1/\a=a)/\True:=⟨⟨rfl,rfl⟩,⟨⟩⟩
theorem pu {a:Prop}{b:Prop}(c:a:=by decide)(d:b:=by decide):a/\b:=⟨c,d⟩
theorem re {a:Prop}{b:Prop}{p3:Prop}(c:a:=by decide)(d:b:=by decide)(e:p3:=by decide):a/\b/\p3:=⟨c,d,e⟩
theorem fR {a:Prop}{b:Prop}(c:a:=by omega)(d:b:=by omega):a/\b:=⟨c,d⟩
theorem nN {b:Prop}{d:Sort _}{a:d}(c:b:=by omega):b/\a=a:=⟨c,rfl⟩
theorem bL {a:Prop}(b:a:=by omega):a/\True:=⟨b,⟨⟩⟩
theorem eQ {a1:e}{f:Sort _}{a:f}{g:Sort _}{b:g}{h:Sort _}{c:h}{p5:Prop}(d:p5:=by decide):a1=a1/\(a=a/\b=b/\c=c/\p5)/\True:=⟨rfl,⟨rfl,rfl,rfl,d⟩,⟨⟩⟩
theorem gJ {b:Sort _}{a1:b}{c:Sort _}{a:c}:a1=a1/\a=a:=⟨rfl,rfl⟩
theorem dO {c:Sort _}{a1:c}{d:Sort _}{a:d}{b:e}:a1=a1/\a=a/\b=b:=⟨rfl,rfl,rfl⟩
theorem ef {d:Sort _}{a1:d}{a:e}{f:Sort _}{b:f}(h4:c:=by decide):a1=a1/\a=a/\b=b/\c:=⟨rfl,rfl,rfl,h4⟩
theorem jt {a1:e}{f:Sort _}{a:f}{g:Sort _}{b:g}{h:Sort _}{c:h}{i:Sort _}{d:i}:a1=a1/\a=a/\b=b/\c=c/\d=d/\True:=⟨rfl,rfl,rfl,rfl,rfl,⟨⟩⟩
theorem xH {c:Sort _}{a1:c}{d:Sort _}{a:d}{b:e}:a1=a1/\a=a/\b=b/\True:=⟨rfl,rfl,rfl,⟨⟩⟩
theorem jA {b:Sort _}{a1:b}{c:Sort _}{a:c}:a1=a1/\a=a/\True:=⟨rfl,rfl,⟨⟩⟩
theorem cI {a:Sort _}{a1:a}:a1=a1/\True:=⟨rfl,⟨⟩⟩
theorem af {p:Prop}(h:p:=by omega):p:=h
theorem aG {p:Prop}(h:p:=by decide):p:=h
theorem bB {p:Prop}(h:p:=by assumption):p:=h
theorem aF {p:Prop}(h:p:=by simp):p:=h
theorem aX {p:Prop}(h:p:=by kernel_rfl):p:=h
theorem bD {p:Prop}(h:p:=by grind):p:=h
def QN:List Nat:=[0,1,4,5]
def Kq (l:List Value)(o:Option Obj):Prop:= ∃t h,o=some (.cells l.toArray t h)
def CI (h:Nat->Option Obj):Prop:=
 (∃m,Kq [.int .i64 m] (h 1))/\Kq ([1,10,100,1000,10000,100000,1000000,10000000,100000000,1000000000,10000000000,100000000000,1000000000000,10000000000000,100000000000000,1000000000000000,10000000000000000,100000000000000000,1000000000000000000,10000000000000000000].map λn=>.int .u64 n) (h 0)/\(∃t p,Kq [.iface t p] (h 4))/\ ∃t p,Kq [.iface t p] (h 5)
theorem CI.congr {h k:Nat->Option Obj}(e: ∀b∈QN,k b=h b)(p:CI h):CI k:=by unfold CI at p ⊢;rw[e 0 (by decide),e 1 (by decide),e 4 (by decide),e 5 (by decide)];exact p
structure aI where
 cell:Nat->Nat->Option Value
 map:Nat->Option (Array MapEntry×Nat)
variable {O:aI}
def aI.has (S:aI)(b:Nat):Prop:=(∃o v,S.cell b o=some v)\/ ∃m,S.map b=some m
structure aI.Le (S T:aI):Prop where
 cell: ∀b o v,S.cell b o=some v->T.cell b o=some v
 map: ∀b m,S.map b=some m->T.map b=some m
structure aI.In (S:aI)(w:World):Prop where
 cell: ∀b o v,S.cell b o=some v->w.cell? ⟨b,o,none⟩=some v
 map: ∀b m,S.map b=some m->w.heap[b]? =some (.map m.1 m.2)
def te (S:aI)(w:World):Prop:=(∀b∈QN,S.has b)/\CI λb=>w.heap[b]?
theorem aI.Le.refl (S:aI):S.Le S:=⟨λ_ _ _ h=>h,λ_ _ h=>h⟩
theorem aI.Le.trans {S T:aI}(h:S.Le T)(k:T.Le O):S.Le O:=⟨λb o v e=>k.cell b o v (h.cell b o v e),λb m e=>k.map b m (h.map b m e)⟩
theorem aI.Le.has {S T:aI}(h:S.Le T){b:Nat}(k:S.has b):T.has b:=by rcases k with⟨o,v,e⟩|⟨m,e⟩;exact .inl ⟨o,v,h.cell _ _ _ e⟩;exact .inr ⟨m,h.map _ _ e⟩
theorem te.mono {S T:aI}{w:World}(h:te S w)(k:S.Le T):te T w:=⟨λb a=>k.has (h.1 b a),h.2⟩
theorem aI.In.lt {S:aI}{w:World}(h:S.In w){b:Nat}(k:S.has b):b<w.heap.size:=by rcases k with⟨o,v,e⟩|⟨m,e⟩;exact World.block_lt_of_cell? w ⟨b,o,none⟩ (h.cell _ _ _ e);exact(en.1 (h.map _ _ e)).1
theorem aI.In.uw {S:aI}{w w':World}(h:S.In w)(k: ∀b,S.has b->w'.heap[b]? =w.heap[b]?):S.In w':=
 ⟨λb o v e=>(World.cell?_of_block (k b (.inl ⟨o,v,e⟩))).trans (h.cell b o v e),λb m e=>(k b (.inr ⟨m,e⟩)).trans (h.map b m e)⟩
inductive AV where
 |any
 |v (x:Value)
 |nil
 |agg (l:List AV)
 |cG (l:List AV)
 |sl (k:Nat) (es:List (List AV))
 |pi (cs:List AV)
 |po (b off:Nat)
 |so (b n cap:Nat)
 |aT (T k:Nat) (es:List (List AV))
 |eR (T:Nat) (cs:List AV)
 |gT (T k:Nat) (es:List (List AV)) (ad:Option Addr) (cap:Nat)
 |rF (cs:List AV) (es:List (Value×AV))
 |mi (es:List (Value×AV))
 |mo (b:Nat)
 |fn (f:Fn) (first caps:List AV)
 |Zk (t:TypeId) (x:AV)
 deriving Inhabited
variable {W:List AV}
def Sq (bV:Array MapEntry)(a:Nat):Prop:=a=bV.size/\(∀(j:Nat) (e:MapEntry),bV[j]? =some e->e.born=j)/\(bV.toList.map (·.key)).Nodup
mutual
def bf (S:aI):AV->Value->Prop
 | .any,_=>True
 | .v x,y=>y=x
 | .nil,y=>y= .slice none 0 0
 | .agg l,y=> ∃cs:List Value,y= .agg cs.toArray/\aS S l cs
 | .cG l,y=> ∃cs:List Value,y= .tuple cs.toArray/\aS S l cs
 | .sl k es,y=>((∃g,y= .slice g 0 0)/\es=[])\/
  ∃b off cap,y= .slice (some ⟨b,off,none⟩) es.length cap/\es.length<=cap/\cap<=maxLen/\gZ S k es b off
 | .pi cs,y=> ∃b off,y= .pointer (some ⟨b,off,none⟩)/\fY S cs b off
 | .po b off,y=>y= .pointer (some ⟨b,off,none⟩)
 | .so b n cap,y=>y= .slice (some ⟨b,0,none⟩) n cap
 | .aT _ _ _,_=>False
 | .eR _ _,_=>False
 | .gT _ _ _ _ _,_=>False
 | .rF _ _,_=>False
 | .mi es,y=> ∃r bV a,y= .map (some r)/\S.map r=some (bV,a)/\jg S es bV.toList/\Sq bV a
 | .mo b,y=>y= .map (some b)
 | .fn f first d,y=> ∃e cs:List Value,y= .func f e.toArray cs.toArray/\aS S first e/\aS S d cs
 | .Zk t x,y=> ∃c,y= .iface t c/\bf S x c
def aS (S:aI):List AV->List Value->Prop
 |[],cs=>cs=[]
 |a::l,cs=> ∃c b,cs=c::b/\bf S a c/\aS S l b
def fY (S:aI):List AV->Nat->Nat->Prop
 |[],_,_=>True
 |a::l,b,o=>(∃c,S.cell b o=some c/\c.oneCell'=true/\bf S a c)/\fY S l b (o+1)
def gZ (S:aI)(k:Nat):List (List AV)->Nat->Nat->Prop
 |[],_,_=>True
 |l::es,b,o=>l.length=k/\fY S l b o/\gZ S k es b (o+k)
def jg (S:aI):List (Value×AV)->List MapEntry->Prop
 |[],es=>es=[]
 |(key,a)::l,es=> ∃e b,es=e::b/\e.key=key/\bf S a e.val/\jg S l b
end
mutual
theorem bf.mono {S T:aI}(h:S.Le T): ∀(a:AV) (y:Value),bf S a y->bf T a y
 | .any,_,_=>by simp only[bf]
 | .v x,y,r=>by simp only[bf]at r ⊢;exact r
 | .nil,y,r=>by simp only[bf]at r ⊢;exact r
 | .agg l,y,r=>by simp only[bf]at r ⊢;obtain⟨cs,e,r⟩:=r;exact⟨cs,e,aS.mono h l cs r⟩
 | .cG l,y,r=>by simp only[bf]at r ⊢;obtain⟨cs,e,r⟩:=r;exact⟨cs,e,aS.mono h l cs r⟩
 | .sl k es,y,r=>by
  simp only[bf]at r ⊢;rcases r with r|⟨b,off,cap,e,m,o,r⟩
  exact .inl r;exact .inr ⟨b,off,cap,e,m,o,gZ.mono h k es b off r⟩
 | .pi cs,y,r=>by simp only[bf]at r ⊢;obtain⟨b,off,e,r⟩:=r;exact⟨b,off,e,fY.mono h cs b off r⟩
 | .po b off,y,r=>by simp only[bf]at r ⊢;exact r
 | .so b n cap,y,r=>by simp only[bf]at r ⊢;exact r
 | .aT _ _ _,_,r=>by simp only[bf]at r
 | .eR _ _,_,r=>by simp only[bf]at r
 | .gT _ _ _ _ _,_,r=>by simp only[bf]at r
 | .rF _ _,_,r=>by simp only[bf]at r
 | .mi es,y,r=>by simp only[bf]at r ⊢;obtain⟨b,bV,d,e,hm,r,i⟩:=r;exact⟨b,bV,d,e,h.map _ _ hm,jg.mono h es _ r,i⟩
 | .mo b,y,r=>by simp only[bf]at r ⊢;exact r
 | .fn f first g,y,r=>by simp only[bf]at r ⊢;obtain⟨j,cs,e,p,q⟩:=r;exact⟨j,cs,e,aS.mono h first j p,aS.mono h g cs q⟩
 | .Zk t x,y,r=>by simp only[bf]at r ⊢;obtain⟨c,e,r⟩:=r;exact⟨c,e,bf.mono h x c r⟩
theorem aS.mono {S T:aI}(h:S.Le T): ∀(l:List AV) (cs:List Value),aS S l cs->aS T l cs
 |[],cs,r=>by simp only[aS]at r ⊢;exact r
 |a::l,cs,r=>by simp only[aS]at r ⊢;obtain⟨c,b,e,d,f⟩:=r;exact⟨c,b,e,bf.mono h a c d,aS.mono h l b f⟩
theorem fY.mono {S T:aI}(h:S.Le T): ∀(l:List AV) (b o:Nat),fY S l b o->fY T l b o
 |[],b,o,_=>by simp only[fY]
 |a::l,b,o,r=>by simp only[fY]at r ⊢;obtain⟨⟨c,e,d,f⟩,g⟩:=r;exact⟨⟨c,h.cell _ _ _ e,d,bf.mono h a c f⟩,fY.mono h l b (o+1) g⟩
theorem gZ.mono {S T:aI}(h:S.Le T)(k:Nat): ∀(es:List (List AV)) (b o:Nat),gZ S k es b o->gZ T k es b o
 |[],b,o,_=>by simp only[gZ]
 |l::es,b,o,r=>by simp only[gZ]at r ⊢;exact⟨r.1,fY.mono h l b o r.2.1,gZ.mono h k es b (o+k) r.2.2⟩
theorem jg.mono {S T:aI}(h:S.Le T): ∀(es:List (Value×AV)) (bV:List MapEntry),jg S es bV->jg T es bV
 |[],bV,r=>by simp only[jg]at r ⊢;exact r
 |(key,a)::l,bV,r=>by simp only[jg]at r ⊢;obtain⟨e,b,c,d,f,g⟩:=r;exact⟨e,b,c,d,bf.mono h a e.val f,jg.mono h l b g⟩
end
abbrev Env:=Nat->AV
inductive dp where
 |cells (T:Nat) (cs:List AV)
 |arr (T k cap:Nat) (es:List (List AV))
 |map (es:List (Value×AV))
 |tl (m:Nat) (es:List (Value×AV)) (seen:List Nat)
 |ri
 |qh (st:LoopState) (pend:Option Code) (fn:FuncId) (N:Nat) (env0:Env) (ps:Array Tmp) (assign body:Code) (ri:Nat)
 |raw (o:Obj)
def agI (S:aI)(a:List AV)(cs:List Value):Prop:=aS S a cs/\ ∀c∈cs,c.oneCell'=true
def Holds (S:aI):dp->Obj->Prop
 | .cells T d,o=> ∃cs:List Value,o= .cells cs.toArray T (0,0)/\agI S d cs
 | .arr T k cap es,o=> ∃cur:List Value,o= .cells cur.toArray T (0,0)/\cap*k<=cur.length/\es.length<=cap/\cap<=maxLen/\(∀e∈es,e.length=k)/\
  aS S es.flatten (cur.take (es.length*k))/\ ∀c∈cur.take (es.length*k),c.oneCell'=true
 | .map es,o=> ∃(bV:Array MapEntry) (a:Nat),o= .map bV a/\jg S es bV.toList/\Sq bV a
 | .tl m es seen,o=> ∃(bV:Array MapEntry) (a:Nat) (sn:Array Nat),o= .mapIter (some m) a sn a/\S.map m=some (bV,a)/\jg S es bV.toList/\Sq bV a/\sn.toList=seen
 | .ri,o=>o= .deferred (some [])
 | .qh st b fn N env0 ps assign body ri,o=> ∃tmps:Array Value,o= .loop {state:=st,pending:=b,fn:=fn,tmps:=tmps,params:=ps,assign:=assign,body:=body,defers:=ri}/\N<=tmps.size/\ ∀t,bf S (env0 t) (tmps.getD t undef)
 | .raw x,o=>o=x
theorem Holds.mono {S T:aI}(h:S.Le T){x:dp}{o:Obj}(r:Holds S x o):Holds T x o:=by
 cases x with
 |cells t l=>obtain⟨cs,e,f,g⟩:=r;exact⟨cs,e,aS.mono h _ _ f,g⟩
 |arr t k cap es=>obtain⟨cur,e,c,d,j,h4,f,g⟩:=r;exact⟨cur,e,c,d,j,h4,aS.mono h _ _ f,g⟩
 |map es=>obtain⟨bV,a,e,r,b⟩:=r;exact⟨bV,a,e,jg.mono h _ _ r,b⟩
 |tl m es seen=>obtain⟨bV,a,sn,e,hm,r,b⟩:=r;exact⟨bV,a,sn,e,h.map _ _ hm,jg.mono h _ _ r,b⟩
 |ri=>exact r
 |qh st i fn N env0 ps assign body ri=>obtain⟨tmps,e,c,d⟩:=r;exact⟨tmps,e,c,λt=>bf.mono h _ _ (d t)⟩
 |raw x=>exact r
structure Own (A:Nat->Prop)(S:aI)(w:World)(b:Nat)(x:dp):Prop where
 base:A b
 apart: ¬S.has b
 holds: ∃o,w.heap[b]? =some o/\Holds S x o
theorem Own.lt {B:Nat->Prop}{S:aI}{w:World}{b:Nat}{x:dp}(h:Own B S w b x):b<w.heap.size:=by obtain⟨o,e,_⟩:=h.holds;exact(en.1 e).1
abbrev av:=List (Nat×dp)
variable {V:Env->av->List Nat->Prop}
structure iC (A:Nat->Prop)(w w':World):Prop where
 os:w'.os=w.os
 tape:w'.tape=w.tape
 output:w'.output=w.output
 size:w.heap.size<=w'.heap.size
 block: ∀k,k<w.heap.size-> ¬A k->w'.heap[k]? =w.heap[k]?
theorem iC.refl (A:Nat->Prop)(w:World):iC A w w:=⟨zz,zz,zz,b9 _,λ_ _ _=>rfl⟩
theorem iC.trans {A:Nat->Prop}{a b c:World}(h:iC A a b)(k:iC A b c):iC A a c:=
 ⟨k.os.trans h.os,k.tape.trans h.tape,k.output.trans h.output,ej h.size k.size,λi hi ha=>(k.block i (az hi h.size) ha).trans (h.block i hi ha)⟩
theorem iC.mono {c:Nat->Prop}{a b:World}(h:iC A a b)(hA: ∀k,k<a.heap.size->A k->c k):iC c a b:=
 ⟨h.os,h.tape,h.output,h.size,λi hi ha=>h.block i hi (λhh=>ha (hA i hi hh))⟩
theorem iC.Ua {w w':World}(k:ek w.heap.size w w'):iC A w w':=⟨k.os,k.tape,k.output,k.size,λi hi _=>k.block i hi⟩
structure rX where
 A:Nat->Prop
 w0:World
 S0:aI
 F:av
 N:Nat
 hA: ∀b,w0.heap.size<=b->A b
 hg:te S0 w0
 hgA: ∀b∈QN,¬A b
 hgI: ∀b∈QN,b<w0.heap.size
 base:List Deferred:=[]
def AV.bT:AV->Bool
 | .aT _ _ _| .eR _ _| .gT _ _ _ _ _| .rF _ _=>true
 |_=>false
def acy (B:Nat->Prop)(S:aI)(w:World)(b:Option Nat)(T k:Nat)(es:List (List AV))(y:Value):Prop:=
 (y= .slice none 0 0/\es=[]/\b=none)\/ ∃g cap,b=some g/\y= .slice (some ⟨g,0,none⟩) es.length cap/\Own B S w g (.arr T k cap es)
def cH (B:Nat->Prop)(S:aI)(w:World)(b:Option Nat):AV->Value->Prop
 | .aT T k es,y=>(y= .slice none 0 0/\es=[]/\b=none)\/ ∃g cap,b=some g/\y= .slice (some ⟨g,0,none⟩) es.length cap/\Own B S w g (.arr T k cap es)
 | .eR T cs,y=> ∃g,b=some g/\y= .pointer (some ⟨g,0,none⟩)/\Own B S w g (.cells T cs)
 | .gT T k es c cap,y=>y= .slice c es.length cap/\acy B S w b T k es y
 | .rF cs es,y=> ∃g bb off,b=some g/\y= .pointer (some ⟨bb,off,none⟩)/\fY S (cs++[.mo g]) bb off/\Own B S w g (.map es)
 |a,y=>b=none/\bf S a y
def xC (r:Nat):Deferred:={target:=.collected r,args:= #[]}
structure Sat (C:rX)(env:Env)(H:av)(D:List Nat)(a:Act)(w:World)(S:aI)(L:Nat->Option Nat):Prop where
 size:C.N<=a.tmps.size
 Fl:a.defers=D.map xC++C.base
 le:C.S0.Le S
 sin:S.In w
 ux: ∀b,S.has b->C.S0.has b\/C.A b
 below:iC C.A C.w0 w
 env: ∀t,cH C.A S w (L t) (env t) (a.tmps.getD t undef)
 heap: ∀e∈H,Own C.A S w e.1 e.2
 frame: ∀e∈C.F,Own C.A S w e.1 e.2
 nodup:((H++C.F).map (·.1)).Nodup
 aT: ∀t b,L t=some b->b ∉ (H++C.F).map (·.1)
 lL: ∀t u b,L t=some b->L u=some b->t=u
theorem Sat.gl {C:rX}{env:Env}{H:av}{D:List Nat}{a:Act}{w:World}{S:aI}{L:Nat->Option Nat}(h:Sat C env H D a w S L):te S w:=
 ⟨λb c=>h.le.has (C.hg.1 b c),CI.congr (λb c=>h.below.block b (C.hgI b c) (C.hgA b c)) C.hg.2⟩
theorem Sat.fresh {C:rX}{env:Env}{H:av}{D:List Nat}{a:Act}{w:World}{S:aI}{L:Nat->Option Nat}(h:Sat C env H D a w S L){b:Nat}(c:w.heap.size<=b):C.A b:=
 C.hA b (ej h.below.size c)
variable {b d i t:Nat}{w w':World}{S:aI}{p:AV}
def eC (env:Env)(d:Nat)(p:AV):Env:=λi=>bif hS i d then p else env i
theorem bN (env:Env)(d:Nat)(p:AV):eC env d p d=p:=by simp [eC]
theorem ij (env:Env)(p:AV)(h:i≠d):eC env d p i=env i:=by
 have:hS i d=false:=by
  cases a:hS i d with
  |false=>rfl
  |true=>exact absurd (Nat.eq_of_beq_eq_true a) h
 simp [eC,this]
theorem wj {a:Array Value}{y:Value}(h:d<a.size):(a.setIfInBounds d y).getD d undef=y:=by simp [Array.getD,h]
theorem pz {a:Array Value}{y:Value}(h:i≠d):(a.setIfInBounds d y).getD i undef=a.getD i undef:=by simp only[b6,Array.getElem?_setIfInBounds];rw[zj (λe=>h e.symm)]
section sat
variable {C:rX}{env:Env}{H:av}{D:List Nat}{a:Act}{L:Nat->Option Nat}
theorem cH.gW {B:Nat->Prop}{y:Value}(a:p.bT=false)(r:bf S p y):cH B S w none p y:=by cases p<;>simp_all [cH,AV.bT]
theorem cH.sA {B:Nat->Prop}{b:Option Nat}{y:Value}(a:p.bT=false)(r:cH B S w b p y):b=none/\bf S p y:=by cases p<;>simp_all [cH,AV.bT]
theorem Sat.sA (h:Sat C env H D a w S L)(e:env t=p)(b:p.bT=false):bf S p (a.tmps.getD t undef):=by have:=h.env t;rw[e]at this;exact(this.sA b).2
theorem Sat.aaZ (h:Sat C env H D a w S L)(e:L t=some b): ∃x,Own C.A S w b x:=by
 have:=h.env t;rw[e]at this;cases f:env t<;>rw[f]at this<;>simp at this;case aT T k es=>rcases this with⟨_,_,c⟩|⟨g,cap,c,hy,d⟩;cases c;grind
 case eR T cs=>obtain⟨g,c,hy,d⟩:=this;cases c;exact⟨_,d⟩
 case gT T k es i cap=>rcases this.2 with⟨_,_,c⟩|⟨g,cap,c,hy,d⟩;cases c;grind
 case rF cs es=>obtain⟨g,bb,off,c,hy,hc,d⟩:=this;cases c;exact⟨_,d⟩
 all_goals (obtain⟨c,_⟩:=this;cases c)
theorem Sat.K9 (h:Sat C env H D a w S L)(e:L t=some b):b<w.heap.size:=(h.aaZ e).elim λ_ o=>o.lt
theorem Sat.B2 (h:Sat C env H D a w S L)(e:L t=some b): ¬S.has b:=(h.aaZ e).elim λ_ o=>o.apart
def pX (L:Nat->Option Nat)(d:Nat)(b:Option Nat):Nat->Option Nat:=λt=>if t=d then b else L t
theorem vB {u:Nat}(h:pX L t none u=some b):u≠t/\L u=some b:=by simp [pX]at h;exact h
theorem Sat.abP (h:Sat C env H D a w S L){c:Act}(m:cH C.A S w g p (c.tmps.getD t undef))(hg: ∀b,g=some b->b ∉ (H++C.F).map (·.1)/\ ∀u,u≠t->L u≠some b)
  (j:C.N<=c.tmps.size) (k:c.defers=a.defers:=by rfl) (l: ∀u,u≠t->c.tmps.getD u undef=a.tmps.getD u undef:=by exact λ_ _=>rfl):Sat C (eC env t p) H D c w S (pX L t g):=by
 refine {size:=j,Fl:=k.trans h.Fl,le:=h.le,sin:=h.sin,ux:=h.ux,below:=h.below,heap:=h.heap,frame:=h.frame,nodup:=h.nodup,env:=λu=>?_,aT:=λu b e=>?_,lL:=λu v b d f=>?_}
 ·by_cases i:u=t;subst i;simp only[bN,pX,if_true];exact m;simp only[ij env p i,pX,zj i,l u i];exact h.env u
 ·simp only[pX]at e;split at e;exact(hg b e).1;exact h.aT u b e
 simp only[pX]at d f;split at d<;>split at f;omega;rename_i q;exact absurd f ((hg b d).2 v q);rename_i q _;exact absurd d ((hg b f).2 u q);exact h.lL u v b d f
theorem Sat.oA (hs:Sat C env H D a w S L)(c:cH C.A S w g p (a.tmps.getD t undef))(hg: ∀b,g=some b->b ∉ (H++C.F).map (·.1)/\ ∀u,u≠t->L u≠some b):Sat C (eC env t p) H D a w S (pX L t g):=hs.abP c hg hs.size
theorem Sat.rW (hs:Sat C env H D a w S L)(b:p.bT=false)(c:bf S p (a.tmps.getD t undef)):Sat C (eC env t p) H D a w S (pX L t none):=hs.abP (cH.gW b c) (λ_ e=>by cases e) hs.size
theorem Sat.sC (hs:Sat C env H D a w S L)(hd:d<a.tmps.size){y:Value}(c:cH C.A S w g p y)(hg: ∀b,g=some b->b ∉ (H++C.F).map (·.1)/\ ∀t,t≠d->L t≠some b):Sat C (eC env d p) H D (a.put (some d) y) w S (pX L d g):=
 hs.abP (by rwa [show (a.put (some d) y).tmps.getD d undef=y from wj hd]) hg (by simp only[Act.put,Array.size_setIfInBounds];exact hs.size) zz (λ_ h=>pz h)
theorem Sat.put (h:Sat C env H D a w S L)(hd:d<a.tmps.size){y:Value}(b:p.bT=false)(r:bf S p y):Sat C (eC env d p) H D (a.put (some d) y) w S (pX L d none):=h.sC hd (cH.gW b r) (λ_ e=>by cases e)
theorem cH.world {B:Nat->Prop}{b:Option Nat}{y:Value}(r:cH B S w b p y)(k: ∀g,b=some g->w'.heap[g]? =w.heap[g]?):cH B S w' b p y:=by
 cases p;case aT T e es=>
  simp only[cH]at r ⊢;rcases r with r|⟨g,cap,c,hy,a⟩
  exact .inl r;exact .inr ⟨g,cap,c,hy,a.base,a.apart,by rw[k g c];exact a.holds⟩
 case eR T cs=>simp only[cH]at r ⊢;obtain⟨g,c,hy,a⟩:=r;exact⟨g,c,hy,a.base,a.apart,by rw[k g c];exact a.holds⟩
 case gT T e es h d=>
  simp only[cH]at r ⊢;obtain⟨f,r⟩:=r;refine⟨f,?_⟩;rcases r with r|⟨g,cap,c,hy,a⟩
  exact .inl r;exact .inr ⟨g,cap,c,hy,a.base,a.apart,by rw[k g c];exact a.holds⟩
 case rF cs es=>simp only[cH]at r ⊢;obtain⟨g,bb,off,c,hy,hc,a⟩:=r;exact⟨g,bb,off,c,hy,hc,a.base,a.apart,by rw[k g c];exact a.holds⟩
 all_goals exact r
theorem Own.world {B:Nat->Prop}{x:dp}(h:Own B S w b x)(k:w'.heap[b]? =w.heap[b]?):Own B S w' b x:=
 ⟨h.base,h.apart,by rw[k];exact h.holds⟩
theorem Sat.world (h:Sat C env H D a w S L)(d:iC C.A w w')(hs: ∀b,S.has b->w'.heap[b]? =w.heap[b]?)
  (c: ∀b,b∈(H++C.F).map (·.1)->w'.heap[b]? =w.heap[b]?) (hl: ∀t b,L t=some b->w'.heap[b]? =w.heap[b]?):Sat C env H D a w' S L where
 size:=h.size
 Fl:=h.Fl
 le:=h.le
 ux:=h.ux
 sin:=h.sin.uw hs
 below:=h.below.trans d
 env:=λt=>(h.env t).world (λg e=>hl t g e)
 heap:=λe he=>(h.heap e he).world (c e.1 bD)
 frame:=λe he=>(h.frame e he).world (c e.1 bD)
 nodup:=h.nodup
 aT:=h.aT
 lL:=h.lL
theorem Sat.tN (h:Sat C env H D a w S L)(c:b∈(H++C.F).map (·.1)):b<w.heap.size:=by
 simp only[ea,an,cx]at c;rcases c with⟨e,he,rfl⟩|⟨e,he,rfl⟩
 exact(h.heap e he).lt;exact(h.frame e he).lt
theorem Sat.grow (h:Sat C env H D a w S L)(k:ek w.heap.size w w'):Sat C env H D a w' S L:=
 h.world (iC.Ua k) (λb c=>k.block b (h.sin.lt c)) (λb c=>k.block b (h.tN c)) (λ_ _ e=>k.block _ (h.K9 e))
theorem Sat.Zc (h:Sat C env H D a w S L){T:aI}(c:S.Le T)(m:T.In w)(i: ∀b,T.has b->S.has b\/C.A b)(hh: ∀e∈H++C.F,¬T.has e.1)(hl: ∀t b,L t=some b-> ¬T.has b):Sat C env H D a w T L where
 size:=by first|exact h.size|(simp;exact h.size)
 Fl:=h.Fl
 le:=h.le.trans c
 sin:=m
 ux:=λb d=>(i b d).elim (h.ux b) .inr
 below:=h.below
 env:=by
  intro t
  have r:=h.env t
  cases j:env t
  case aT n k es=>
   rw[j]at r
   simp at r ⊢
   rcases r with r|⟨g,cap,d,hy,f⟩
   ·exact .inl r
   ·obtain⟨o,e,x⟩:=f.holds
    exact .inr ⟨g,cap,d,hy,f.base,hl t g d,o,e,x.mono c⟩
  case eR n cs=>
   rw[j]at r
   simp at r ⊢
   obtain⟨g,d,hy,f⟩:=r
   obtain⟨o,e,x⟩:=f.holds
   exact⟨g,d,hy,f.base,hl t g d,o,e,x.mono c⟩
  case gT n k es u p=>
   rw[j]at r
   simp at r ⊢
   obtain⟨s,r⟩:=r
   refine⟨s,?_⟩
   rcases r with r|⟨g,cap,d,hy,f⟩
   ·exact .inl r
   ·obtain⟨o,e,x⟩:=f.holds
    exact .inr ⟨g,cap,d,hy,f.base,hl t g d,o,e,x.mono c⟩
  case rF cs es=>
   rw[j]at r
   simp at r ⊢
   obtain⟨g,bb,off,d,hy,hc,f⟩:=r
   obtain⟨o,e,x⟩:=f.holds
   exact⟨g,bb,off,d,hy,fY.mono c _ _ _ hc,f.base,hl t g d,o,e,x.mono c⟩
  all_goals
   rw[j]at r
   have q:=cH.sA (by simp [AV.bT]) r
   rw[q.1]
   exact cH.gW (by simp [AV.bT]) (bf.mono c _ _ q.2)
 heap:=λe he=>by
  obtain⟨o,l,x⟩:=(h.heap e he).holds
  exact⟨(h.heap e he).base,hh e (an.2 (.inl he)),o,l,x.mono c⟩
 frame:=λe he=>by
  obtain⟨o,l,x⟩:=(h.frame e he).holds
  exact⟨(h.frame e he).base,hh e (an.2 (.inr he)),o,l,x.mono c⟩
 nodup:=h.nodup
 aT:=h.aT
 lL:=h.lL
theorem Sat.alloc (h:Sat C env H D a w S L){x:dp}{o:Obj}(hx:Holds S x o):
  Sat C env ((w.heap.size,x)::H) D a (w.alloc o) S L:=by
 have k:ek w.heap.size w (w.alloc o):=(fu _ _).alloc (b9 _) _;have g:=h.grow k;have c:(w.alloc o).heap[w.heap.size]? =some o:=heap_alloc_new w o;refine {g with heap:=?_,nodup:=?_,aT:=?_};intro e he;rcases bk.1 he with rfl|he
 exact⟨h.fresh (b9 _),λhs=>absurd (h.sin.lt hs) (dk _),o,c,hx⟩;exact g.heap e he
 simp only[cr,bx,gQ];exact⟨λhm=>absurd (h.tN hm) (dk _),h.nodup⟩;intro t b e;simp only[cr,bx,bk,not_or];exact⟨λd=>absurd (h.K9 e) af,h.aT t b e⟩
end sat
inductive kK where
 |tJ (x:Operand)
 |pick (c x y:Operand)
 |bin (op:BinOp) (T:TypeId) (x y:Operand)
 |pK (neg:Bool) (T:TypeId) (x y:Operand)
 |un (op:UnOp) (x:Operand)
 |toInt (k:IntKind) (src dst:TypeId) (x:Operand)
 |conv (src dst:TypeId) (x:Operand)
 |extract (x:Operand) (i:Nat)
 |rG (T:TypeId) (x:Operand) (f off:Nat)
 |qx (T:TypeId) (x i:Operand) (k:Nat)
 |mK (T:TypeId) (x i:Operand) (n k:Nat)
 |load (T:TypeId) (x:Operand) (n:Option Nat)
 |store (T:TypeId) (x y:Operand) (n:Nat)
 |field (T:TypeId) (x:Operand) (f off:Nat) (n:Option Nat)
 |rb (T:TypeId) (x i:Operand)
 |kH (T:TypeId) (x i:Operand) (n k:Nat) (g:Option Nat)
 |build (T:TypeId) (ps:List (Nat×Operand)) (zero:List Value) (places:List (Nat×Nat×Operand))
 |jM (T:TypeId) (len:Nat) (ps:List (Nat×Operand)) (E k:Nat) (zero:List Value)
 |alloc (T:TypeId) (zero:List Value)
 |box (T:TypeId) (x:Operand)
 |yM (f:Fn) (first caps:List Operand)
 |yv (x:Operand)
 |len (str:Bool) (T:TypeId) (ty:TypeId) (x:Operand)
 |NJ (T:TypeId) (ty:TypeId) (x:Operand)
 |append (T:TypeId) (ty:TypeId) (x y:Operand) (E k bytes:Nat) (zero:List Value)
 |nF (T U:TypeId) (ty:TypeId) (x y:Operand) (E k bytes:Nat) (zero:List Value)
 |oL (T U:TypeId) (ty:TypeId) (x y:Operand) (E k bytes:Nat) (zero:List Value)
 |Bh (T:TypeId) (ty:TypeId) (x:Operand)
 |G9 (T U:TypeId) (ty:TypeId) (x y:Operand)
 |copy (T:TypeId) (U:TypeId) (ty:TypeId) (x y:Operand) (E k:Nat)
 |min (ts:List TypeId) (ty:TypeId) (xs:List Operand)
 |max (ts:List TypeId) (ty:TypeId) (xs:List Operand)
 |ji (T:TypeId) (l c:Operand) (E k bytes:Nat) (zero:List Value)
 |vY (T:TypeId)
 |lookup (T:TypeId) (x i:Operand) (ok:Bool) (K E:TypeId) (zero:List Value)
 |jH (T:TypeId) (x i y:Operand) (K E:TypeId)
 |qi (T:TypeId) (x i:Operand) (K E:TypeId) (zero:List Value)
 |xT (T:TypeId) (x s y:Operand)
 |range (T:TypeId) (x:Operand) (str:Bool)
 |next (x:Operand) (str:Bool) (ty:TypeId)
 |entry (x:Operand)
 |pG (T:TypeId) (x:Operand) (lo hi mx:Option Operand)
 |oB (T:TypeId) (x:Operand) (lo hi mx:Option Operand) (k:Nat)
 |oo (T:TypeId) (x:Operand) (lo hi mx:Option Operand) (n k:Nat)
 |call (f:FuncId) (args:List Operand) (ty:TypeId)
 |kV (x:Operand) (args:List Operand) (ty:TypeId)
 |RC (T:TypeId) (x:Operand)
 |Cg (x:Operand) (T A:TypeId) (ok:Bool)
 |panic (x:Operand)
 |other (op:Op)
variable {u:kK}
structure aQ where
 dst:Option Nat
 guard:Option (Nat×Bool)
 op:kK
def JT (P:Program)(t:TypeId):Bool:=match P.underlying t with
 |some (.struct _)|some (.array _ _)=>true
 |_=>false
def Ao (P:Program)(t:TypeId):Option (Option Nat):=match P.info? t,P.underlying t with
 |some i,some _=>if JT P t then some (some i.size)else if i.size=1 then some none else none
 |_,_=>none
def zeroOf (P:Program)(t:TypeId):Option (List Value):=match P.info? t with
 |some i=>(i.zero).map λz=>z.cells.toList
 |none=>none
def lV (P:Program)(b:Array Field):List (Nat×Operand)->Option (List (Nat×Nat×Operand))
 |[]=>some []
 |(f,x)::l=>match b[f]?,lV P b l with
  |some a,some r=>(P.info? a.type).map λj=>(a.offset,j.size,x)::r
  |_,_=>none
def HC (P:Program)(o:Oper):Option kK:=
 match o.op with
 | .move x| .assign x=>some (.tJ x)
 | .pick c x y=>some (.pick c x y)
 | .binOp op T x y _=>
  match op,P.underlying T with
  | .eql,some (.int _)| .eql,some .string=>some (.bin .eql T x y)
  | .neq,some (.int _)| .neq,some .string=>some (.bin .neq T x y)
  | .eql,some _=>some (.pK false T x y)
  | .neq,some _=>some (.pK true T x y)
  |op,some _=>some (.bin op T x y)
  |_,none=>none
 | .unOp op _ x=>some (.un op x)
 | .convert src dst x=>
  match P.underlying src,P.underlying dst with
  |some (.int _),some (.int k)=>some (.toInt k src dst x)
  |some _,some _=>some (.conv src dst x)
  |_,_=>none
 | .extract x i=>some (.extract x i)
 | .fieldAddr T x f=>
  match P.underlying T with
  |some (.struct b)=>
   match b[f]? with
   |some e=>match P.info? e.type with
    |some i=>if i.size=0 then none else some (.rG T x f e.offset)
    |none=>none
   |none=>none
  |_=>none
 | .indexAddr T x i=>
  match P.underlying T with
  |some (.slice E)=>(P.info? E).map λj=>.qx T x i j.size
  |some (.array n E)=>if n<=1 then none else(P.info? E).map λj=>.mK T x i n j.size
  |_=>none
 | .load T x=>(Ao P T).map λn=>.load T x n
 | .store T x y=>(P.info? T).map λj=>.store T x y j.size
 | .field T x f=>
  match P.underlying T with
  |some (.struct b)=>
   match b[f]? with
   |some e=>(Ao P e.type).map λn=>.field T x f e.offset n
   |none=>none
  |_=>none
 | .index T x i=>
  match P.underlying T with
  |some .string=>some (.rb T x i)
  |some (.array n E)=>match P.info? E,Ao P E with
   |some j,some g=>some (.kH T x i n j.size g)
   |_,_=>none
  |_=>none
 | .build T ps=>
  match zeroOf P T,P.underlying T with
  |some z,some (.struct b)=>if b.toList.all (λf=>(P.info? f.type).isSome)then(lV P b ps.toList).map λa=>.build T ps.toList z a else none
  |some z,some (.array _ E)=>(P.info? E).map λj=>.build T ps.toList z (ps.toList.map λp=>(p.1*j.size,j.size,p.2))
  |_,_=>none
 | .buildSlice T n ps=>
  match P.underlying T with
  |some (.slice E)=>match P.info? E,zeroOf P E with
   |some j,some z=>if j.size=0\/n*j.size>2^24\/z.length≠j.size then none else some (.jM T n ps.toList E j.size z)
   |_,_=>none
  |_=>none
 | .alloc T=>(zeroOf P T).map λz=>.alloc T z
 | .box T x=>some (.box T x)
 | .makeFunc f first d=>some (.yM f first.toList d.toList)
 | .nilCheck x=>some (.yv x)
 | .call {callee:=.builtin .len,args,argTypes}=>match argTypes.toList,args.toList with
  |[T],[x]=>match P.underlying T with
   |some .string=>some (.len true T o.type x)
   |some (.slice _)=>some (.len false T o.type x)
   |some (.map _ _)=>some (.NJ T o.type x)
   |_=>none
  |_,_=>none
 | .call {callee:=.builtin .append,args,argTypes}=>match argTypes.toList,args.toList with
  |[T,U],[x,y]=>match P.underlying T with
   |some (.slice E)=>match P.info? E,zeroOf P E with
    |some j,some z=>if j.size=0\/z.length≠j.size then none else if T=U then some (.append T o.type x y E j.size j.bytes z)else match P.underlying U with
     |some .string=>some (.nF T U o.type x y E j.size j.bytes z)
     |some (.int _)=>some (.oL T U o.type x y E j.size j.bytes z)
     |_=>none
    |_,_=>none
   |_=>none
  |_,_=>none
 | .call {callee:=.builtin .unsafeSliceData,args,argTypes}=>match argTypes.toList,args.toList with
  |[T],[x]=>some (.Bh T o.type x)
  |_,_=>none
 | .call {callee:=.builtin .unsafeString,args,argTypes}=>match argTypes.toList,args.toList with
  |[T,U],[x,y]=>some (.G9 T U o.type x y)
  |_,_=>none
 | .call {callee:=.builtin .copy,args,argTypes}=>match argTypes.toList,args.toList with
  |[T,U],[x,y]=>match P.underlying T with
   |some (.slice E)=>match P.info? E with
    |some j=>some (.copy T U o.type x y E j.size)
    |_=>none
   |_=>none
  |_,_=>none
 | .call {callee:=.builtin .min,args,argTypes}=>some (.min argTypes.toList o.type args.toList)
 | .call {callee:=.builtin .max,args,argTypes}=>some (.max argTypes.toList o.type args.toList)
 | .call {callee:=.value (.func f),args,..}=>match P.funcs[f]? with
  |some fn=>if fn.name== "runtime.NumGoroutine" ||fn.body.isNone then none else some (.call f args.toList o.type)
  |none=>none
 | .call {callee:=.value x,args,..}=>some (.kV x args.toList o.type)
 | .makeSlice T l c=>
  match P.underlying T with
  |some (.slice E)=>match P.info? E,zeroOf P E with
   |some j,some z=>if j.size=0\/z.length≠j.size then none else some (.ji T l c E j.size j.bytes z)
   |_,_=>none
  |_=>none
 | .makeMap T none=>some (.vY T)
 | .lookup T x i ok=>
  match P.underlying T with
  |some (.map K E)=>(zeroOf P E).map λz=>.lookup T x i ok K E z
  |_=>none
 | .mapUpdate T x i y| .insert T x i y=>
  match P.underlying T with
  |some (.map K E)=>some (.jH T x i y K E)
  |_=>none
 | .mapEntry T x i=>
  match P.underlying T with
  |some (.map K E)=>(zeroOf P E).map λz=>.qi T x i K E z
  |_=>none
 | .entryStore T x s y=>some (.xT T x s y)
 | .range T x=>
  match P.underlying T with
  |some .string=>some (.range T x true)
  |some (.map _ _)=>some (.range T x false)
  |_=>none
 | .next x s=>some (.next x s o.type)
 | .entry x=>some (.entry x)
 | .slice T x lo hi h=>
  match P.underlying T with
  |some .string=>if h.isSome then none else some (.pG T x lo hi h)
  |some (.slice E)=>(P.info? E).map λj=>.oB T x lo hi h j.size
  |some (.array n E)=>(P.info? E).map λj=>.oo T x lo hi h n j.size
  |_=>none
 | .makeInterface T x=>match P.underlying T with
  |some (.interface _)=>none
  |some _=>some (.RC T x)
  |none=>none
 | .typeAssert x T A ok=>some (.Cg x T A ok)
 | .panic x=>some (.panic x)
 |op=>some (.other op)
variable {P:Program}
inductive Lo (P:Program)(o:Oper):kK->Prop where
 |tJ {x:_}:o.op= .move x\/o.op= .assign x->Lo P o (.tJ x)
 |pick {c x y:_}:o.op= .pick c x y->Lo P o (.pick c x y)
 |bin {op T x y U d:_}:o.op= .binOp op T x y U->P.underlying T=some d->((op= .eql\/op= .neq)->(∃k,d= .int k)\/d= .string)->Lo P o (.bin op T x y)
 |pK {neg T x y U d:_}:o.op= .binOp (if neg then .neq else .eql) T x y U->P.underlying T=some d->Lo P o (.pK neg T x y)
 |un {op T x:_}:o.op= .unOp op T x->Lo P o (.un op x)
 |toInt {k k' src dst x:_}:o.op= .convert src dst x->P.underlying src=some (.int k')->P.underlying dst=some (.int k)->Lo P o (.toInt k src dst x)
 |conv {src dst x d e:_}:o.op= .convert src dst x->P.underlying src=some d->P.underlying dst=some e->Lo P o (.conv src dst x)
 |extract {x i:_}:o.op= .extract x i->Lo P o (.extract x i)
 |rG {T x f fs fd i:_}:o.op= .fieldAddr T x f->P.underlying T=some (.struct fs)->fs[f]? =some fd->P.info? fd.type=some i->i.size≠0->Lo P o (.rG T x f fd.offset)
 |qx {T x i E j:_}:o.op= .indexAddr T x i->P.underlying T=some (.slice E)->P.info? E=some j->Lo P o (.qx T x i j.size)
 |mK {T x i E j n:_}:o.op= .indexAddr T x i->P.underlying T=some (.array n E)-> ¬n<=1->P.info? E=some j->Lo P o (.mK T x i n j.size)
 |load {T x n:_}:o.op= .load T x->Ao P T=some n->Lo P o (.load T x n)
 |store {T x y j:_}:o.op= .store T x y->P.info? T=some j->Lo P o (.store T x y j.size)
 |field {T x f fs fd n:_}:o.op= .field T x f->P.underlying T=some (.struct fs)->fs[f]? =some fd->Ao P fd.type=some n->Lo P o (.field T x f fd.offset n)
 |rb {T x i:_}:o.op= .index T x i->P.underlying T=some .string->Lo P o (.rb T x i)
 |kH {T x i n E j g:_}:o.op= .index T x i->P.underlying T=some (.array n E)->P.info? E=some j->Ao P E=some g->Lo P o (.kH T x i n j.size g)
 |aa6 {T ps z fs pl:_}:o.op= .build T ps->zeroOf P T=some z->P.underlying T=some (.struct fs)->fs.toList.all (λf=>(P.info? f.type).isSome)=true->lV P fs ps.toList=some pl->Lo P o (.build T ps.toList z pl)
 |SH {T ps z n E j:_}:o.op= .build T ps->zeroOf P T=some z->P.underlying T=some (.array n E)->P.info? E=some j->
  Lo P o (.build T ps.toList z (ps.toList.map λp=>(p.1*j.size,j.size,p.2)))
 |jM {T n ps E j z:_}:o.op= .buildSlice T n ps->P.underlying T=some (.slice E)->P.info? E=some j->zeroOf P E=some z-> ¬(j.size=0\/n*j.size>2^24\/z.length≠j.size)->
  Lo P o (.jM T n ps.toList E j.size z)
 |alloc {T z:_}:o.op= .alloc T->zeroOf P T=some z->Lo P o (.alloc T z)
 |box {T x:_}:o.op= .box T x->Lo P o (.box T x)
 |yM {f first caps:_}:o.op= .makeFunc f first caps->Lo P o (.yM f first.toList caps.toList)
 |yv {x:_}:o.op= .nilCheck x->Lo P o (.yv x)
 |agG {T x:_}:o.op= .call {callee:=.builtin .len,args:= #[x],argTypes:= #[T]}->P.underlying T=some .string->Lo P o (.len true T o.type x)
 |aeA {T x E:_}:o.op= .call {callee:=.builtin .len,args:= #[x],argTypes:= #[T]}->P.underlying T=some (.slice E)->Lo P o (.len false T o.type x)
 |NJ {T x K E:_}:o.op= .call {callee:=.builtin .len,args:= #[x],argTypes:= #[T]}->P.underlying T=some (.map K E)->Lo P o (.NJ T o.type x)
 |append {T x y E j z:_}:o.op= .call {callee:=.builtin .append,args:= #[x,y],argTypes:= #[T,T]}->P.underlying T=some (.slice E)->P.info? E=some j->zeroOf P E=some z->
  ¬(j.size=0\/z.length≠j.size)->Lo P o (.append T o.type x y E j.size j.bytes z)
 |nF {T U x y E j z:_}:o.op= .call {callee:=.builtin .append,args:= #[x,y],argTypes:= #[T,U]}->P.underlying T=some (.slice E)->P.underlying U=some .string->P.info? E=some j->zeroOf P E=some z->
  ¬(j.size=0\/z.length≠j.size)->Lo P o (.nF T U o.type x y E j.size j.bytes z)
 |oL {T U x y E j z k:_}:o.op= .call {callee:=.builtin .append,args:= #[x,y],argTypes:= #[T,U]}->P.underlying T=some (.slice E)->P.underlying U=some (.int k)->P.info? E=some j->zeroOf P E=some z->
  ¬(j.size=0\/z.length≠j.size)->Lo P o (.oL T U o.type x y E j.size j.bytes z)
 |Bh {T x:_}:o.op= .call {callee:=.builtin .unsafeSliceData,args:= #[x],argTypes:= #[T]}->Lo P o (.Bh T o.type x)
 |G9 {T U x y:_}:o.op= .call {callee:=.builtin .unsafeString,args:= #[x,y],argTypes:= #[T,U]}->Lo P o (.G9 T U o.type x y)
 |copy {T U x y E j:_}:o.op= .call {callee:=.builtin .copy,args:= #[x,y],argTypes:= #[T,U]}->P.underlying T=some (.slice E)->P.info? E=some j->
  Lo P o (.copy T U o.type x y E j.size)
 |min {ts xs}:o.op= .call {callee:=.builtin .min,args:=xs,argTypes:=ts}->Lo P o (.min ts.toList o.type xs.toList)
 |max {ts xs}:o.op= .call {callee:=.builtin .max,args:=xs,argTypes:=ts}->Lo P o (.max ts.toList o.type xs.toList)
 |call {f xs ts fn:_}:o.op= .call {callee:=.value (.func f),args:=xs,argTypes:=ts}->P.funcs[f]? =some fn->(fn.name== "runtime.NumGoroutine")=false->fn.body.isNone=false->
  Lo P o (.call f xs.toList o.type)
 |kV {x xs ts:_}:o.op= .call {callee:=.value x,args:=xs,argTypes:=ts}->Lo P o (.kV x xs.toList o.type)
 |ji {T l c E j z:_}:o.op= .makeSlice T l c->P.underlying T=some (.slice E)->P.info? E=some j->zeroOf P E=some z-> ¬(j.size=0\/z.length≠j.size)->
  Lo P o (.ji T l c E j.size j.bytes z)
 |vY {T:_}:o.op= .makeMap T none->Lo P o (.vY T)
 |lookup {T x i ok K E z:_}:o.op= .lookup T x i ok->P.underlying T=some (.map K E)->zeroOf P E=some z->Lo P o (.lookup T x i ok K E z)
 |jH {T x i y K E:_}:(o.op= .mapUpdate T x i y\/o.op= .insert T x i y)->P.underlying T=some (.map K E)->Lo P o (.jH T x i y K E)
 |qi {T x i K E z:_}:o.op= .mapEntry T x i->P.underlying T=some (.map K E)->zeroOf P E=some z->Lo P o (.qi T x i K E z)
 |xT {T x s y:_}:o.op= .entryStore T x s y->Lo P o (.xT T x s y)
 |xD {T x:_}:o.op= .range T x->P.underlying T=some .string->Lo P o (.range T x true)
 |zV {T x K E:_}:o.op= .range T x->P.underlying T=some (.map K E)->Lo P o (.range T x false)
 |next {x s:_}:o.op= .next x s->Lo P o (.next x s o.type)
 |entry {x:_}:o.op= .entry x->Lo P o (.entry x)
 |pG {T x lo hi:_}:o.op= .slice T x lo hi none->P.underlying T=some .string->Lo P o (.pG T x lo hi none)
 |oB {T x lo hi mx E j:_}:o.op= .slice T x lo hi mx->P.underlying T=some (.slice E)->P.info? E=some j->Lo P o (.oB T x lo hi mx j.size)
 |oo {T x lo hi mx n E j:_}:o.op= .slice T x lo hi mx->P.underlying T=some (.array n E)->P.info? E=some j->Lo P o (.oo T x lo hi mx n j.size)
 |RC {T x d:_}:o.op= .makeInterface T x->P.underlying T=some d->(∀m,d≠.interface m)->Lo P o (.RC T x)
 |Cg {x T A ok:_}:o.op= .typeAssert x T A ok->Lo P o (.Cg x T A ok)
 |panic {x:_}:o.op= .panic x->Lo P o (.panic x)
 |other {op}:o.op=op->Lo P o (.other op)
theorem aeu {a:Array Z}{x:Z}(h:a.toList=[x]):a= #[x]:=by cases a;simp_all
theorem YT {a:Array Z}{x y:Z}(h:a.toList=[x,y]):a= #[x,y]:=by cases a;simp_all
theorem MN {o:Oper}{l:kK}(h:HC P o=some l):Lo P o l:=by
 obtain⟨dst,op,f,e,a,guard⟩:=o;unfold HC at h;dsimp only at h;repeat' split at h
 all_goals
  try(have b:_=(#[_]:Array Operand):=aeu (by assumption);have c:_=(#[_]:Array TypeId):=aeu (by assumption);subst b c)
  try(have b:_=(#[_,_]:Array Operand):=YT (by assumption);have c:_=(#[_,_]:Array TypeId):=YT (by assumption);subst b c)
  try(simp only[a6]at h;obtain⟨n,d,h⟩:=h)
 all_goals first
  |(cases h;done)
  |(cases h;first|exact .tJ (.inl rfl)|exact .tJ (.inr rfl)|exact .jH (.inl rfl) bB|exact .jH (.inr rfl) bB|exact .bin rfl bB λ_=>.inl ⟨_,zz⟩|exact .bin rfl bB λ_=>.inr rfl|exact .bin rfl bB λh=>by rcases h with rfl|rfl<;>simp_all|exact .pK (neg:=true) rfl bB|exact .SH rfl bB bB d|exact .zV rfl bB|exact .aeA rfl bB|exact .call rfl bB bD bD|(constructor<;>first|rfl|assumption);done)
  |(rename Option Operand=>m;cases m;cases h;exact .pG zz bB;simp_all)
  |(simp_all;subst h;exact .append zz bB bB bB (by simp_all))
variable {a:Act}{L:Nat->Option Nat}{H:av}{C:rX}{ls:List aQ}{env:Env}{arr:Array Oper}{D:List Nat}{N j:Nat}{dst r:Option Nat}{K:Env->av->List Nat->Prop}
def Fw (r:Option Nat):Fence:={e6 with round:=r}
def cv:Value->AV
 | .slice none 0 0=>.nil
 | .agg cs=>.agg (cs.toList.map .v)
 |v=>.v v
def bG (env:Env):Operand->AV
 | .tmp t=>env t
 | .const v=>cv v
 | .global g=>.v (.pointer (some ⟨g,0,none⟩))
 | .func f=>.fn (.func f) [] []
theorem sM (S:aI): ∀l:List Value,aS S (l.map .v) l
 |[]=>by simp [aS]
 |c::l=>by simp;exact⟨c,l,zz,by simp [bf],sM S l⟩
theorem Ch (S:aI): ∀l m:List Value,aS S (l.map .v) m↔m=l
 |[],m=>by simp [aS]
 |c::l,m=>by simp only[bx,aS,bf,Ch S l];constructor;rintro⟨_,_,rfl,rfl,rfl⟩;rfl;rintro rfl;exact⟨_,_,zz,zz,zz⟩
theorem xa (S:aI)(v:Value):bf S (cv v) v:=by unfold cv;split;simp [bf];rename_i cs;simp only[bf];exact⟨cs.toList,aF,sM S _⟩;simp [bf]
theorem acb (v:Value):(cv v).bT=false:=by unfold cv;split<;>rfl
section
theorem Sat.dM (h:Sat C env H D a w S L)(x:Operand)(e:bG env x=p)(b:p.bT=false):bf S p (a.eval x):=by
 cases x with
 |tmp t=>exact h.sA e b
 |const v=>subst e;exact xa S v
 |global g=>subst e;simp [bG,bf,hI]
 |func f=>subst e;simp [bG,bf,hI,aS]
theorem Sat.FA (h:Sat C env H D a w S L): ∀(xs:List Operand) {ps:List AV},xs.map (bG env)=ps->(∀p∈ps,p.bT=false)->aS S ps (xs.map a.eval)
 |[],ps,e,_=>by subst e;simp [aS]
 |x::xs,ps,e,b=>by subst e;simp;simp only[bx,bk]at b;exact⟨_,_,zz,h.dM x zz (b _ (.inl zz)),h.FA xs zz (λp m=>b p (.inr m))⟩
end
theorem Lo.semAt {o:Oper}{l:kK}(h:Lo P o l)(hl: ∀op,l≠.other op)(r:Option Nat)(ρ:Operand->Value):o.semAt r ρ=execOp ρ o:=by
 cases r with
 |none=>rfl
 |some r=>
  apply Oper.semAt_some;intro c hc;cases h;case other=>exact hl _ zz
  case tJ h=>rcases h with h|h<;>simp [h]at hc
  case jH h _=>rcases h with h|h<;>simp [h]at hc
  all_goals simp_all
def aO (P:Program)(r:Option Nat)(N:Nat)(l:kK)(dst:Option Nat)(env:Env)(H:av)(D:List Nat)(K:Env->av->List Nat->Prop):Prop:=
 ∀o:Oper,o.dst=dst->(∀d,dst=some d->d<N)->Lo P o l-> ∀(C:rX) (a:Act) (w:World) (S:aI) (L:Nat->Option Nat),C.N=N->Sat C env H D a w S L->
  ∀(next:Act->World->Prop) (Q:Exit->Act->World->Prop),
   (∀b H' c y w' e f,K b H' c->Sat C b H' c (a.put dst y) w' e f->S.Le e->next (a.put dst y) w')->o.wpIn (Fw r) 0 P a w next Q
def cP (env:Env)(dst:Option Nat)(p:AV):Env:=match dst with|some d=>eC env d p|none=>env
theorem Sat.mP (h:Sat C env H D a w S L)(hd: ∀d,dst=some d->d<C.N)
  {y:Value} (c:p.bT=false) (e:bf S p y): ∃b,Sat C (cP env dst p) H D (a.put dst y) w S b:=by
 cases dst with
 |none=>exact⟨L,h⟩
 |some d=>exact⟨_,h.put (az (hd d zz) h.size) c e⟩
theorem Oper.ck {o:Oper}{l:kK}(hl:Lo P o l)(b: ∀op,l≠.other op){y:Value} 
  (h:(execOp a.eval o).run P w= .ok (.value y) w') {Q:Exit->Act->World->Prop} (k:z (a.put o.dst y) w'):o.wpIn (Fw r) N P a w z Q:=by
 refine⟨λ_ _=>trivial,?_⟩;show o.uponIn (Fw r) N P a z Q ((o.semAt r a.eval).run P w)
 rw[hl.semAt b,h];exact k
theorem Oper.wpIn_skip {o:Oper}{l:kK}(hl:Lo P o l)(b: ∀op,l≠.other op) 
  (h:(execOp a.eval o).run P w= .ok .skip w') {Q:Exit->Act->World->Prop} (k:z (a.put o.dst undef) w'):o.wpIn (Fw r) N P a w z Q:=by
 refine⟨λ_ _=>trivial,?_⟩;show o.uponIn (Fw r) N P a z Q ((o.semAt r a.eval).run P w)
 rw[hl.semAt b,h];exact k
theorem aO.pure {l:kK}(n:p.bT=false)
  (i: ∀op,l≠.other op)
  (h: ∀o:Oper,Lo P o l-> ∀(C:rX) (a:Act) (w:World) (S:aI) (L:Nat->Option Nat),Sat C env H D a w S L-> ∃y,(execOp a.eval o).run P w= .ok (.value y) w/\bf S p y)
  (k:K (cP env dst p) H D):aO P r N l dst env H D K:=by
 intro o c hd f C a w S L m hs next Q b
 obtain⟨y,eD,g⟩:=h o f C a w S L hs;obtain⟨q,j⟩:=hs.mP (λd e=>m▸hd d e) n g;exact Oper.ck f i eD (by rw[c];exact b _ _ _ _ _ _ _ k j (aI.Le.refl _))
structure AL (P:Program)(N:Nat)(arr:Array Oper)(i:Nat)(l:aQ):Prop where
 at_: ∃o,arr[i]? =some o/\o.dst=l.dst/\(∀d,l.dst=some d->d<N)/\Lo P o l.op/\
  ((l.guard=none/\o.guard=none)\/ ∃j t b,l.guard=some (t,b)/\o.guard=some (j,b)/\(arr[j]?).bind (·.dst)=some t)
def iE (P:Program)(N:Nat)(arr:Array Oper):List Nat->List aQ->Prop
 |[],ls=>ls=[]
 |i::is,ls=> ∃l ls',ls=l::ls'/\AL P N arr i l/\iE P N arr is ls'
abbrev dl:=Exit->Env->av->List Nat->Prop
def CE (C:rX)(Q:dl):Exit->Act->World->Prop:=λe a w=> ∃env H D S L,Sat C env H D a w S L/\Q e env H D
def aY (P:Program)(r:Option Nat)(N:Nat)(ls:List aQ)(Q:dl)(env:Env)(H:av)(D:List Nat):Prop:=
 ∀(arr:Array Oper) (is:List Nat),iE P N arr is ls-> ∀(C:rX) (a:Act) (w:World) (S:aI) (L:Nat->Option Nat),C.N=N->Sat C env H D a w S L->
  wpOpsIn (Fw r) 0 P arr (CE C Q) is a w
section
variable {Q:dl}
theorem aY.nil (h:Q .normal env H D):aY P r N [] Q env H D:=by
 intro arr is hm C a w S L _ hs;cases is with
 |nil=>exact⟨env,H,D,S,L,hs,h⟩
 |cons i is=>obtain⟨l,ls',e,_⟩:=hm;cases e
theorem gG {o:Oper}{y:Nat->Option Bool}(h:o.guard=none):bA o y=true:=by simp [bA,h]
theorem aY.cons {l:kK}(h:aO P r N l dst env H D (λb H' m=>aY P r N ls Q b H' m)):aY P r N (⟨dst,none,l⟩::ls) Q env H D:=by
 intro arr is hm C a w S L n hs;cases is with
 |nil=>cases hm
 |cons i is=>obtain⟨u,ls',e,s,g⟩:=hm;cases e;obtain⟨o,t,c,hd,f,hg⟩:=s.at_;have d:o.guard=none:=bD;simp only[wpOpsIn,t,gG d,if_true];exact h o c hd f C a w S L n hs _ _ (λb H' m y w' q p k j _=>k arr is g C _ w' q p n j)
theorem qp {b:Bool}(hs:Sat C env H D a w S L)
  (d:(arr[j]?).bind (·.dst)=some t) (e:env t= .v (.bool b)):yielded arr a.tmps j=some b:=by
 have c:=hs.sA e zz;simp only[bf]at c;have:a.tmps[t]? =some (.bool b):=by
  rw[b6]at c;cases hx:a.tmps[t]? with
  |none=>rw[hx]at c;simp [undef]at c
  |some x=>grind
 simp [yielded,d,this]
theorem wm {cs:Array Value}(hs:Sat C env H D a w S L)
  (c:(arr[j]?).bind (·.dst)=some t) (d:env t= .v (.tuple cs)):yielded arr a.tmps j=none:=by
 have b:=hs.sA d zz;simp only[bf]at b;rw[b6]at b;unfold yielded;rw[c];cases hx:a.tmps[t]? with
 |none=>simp [hx]
 |some x=>grind
theorem aY.Vg {l:kK}{b:Bool}(B:env t= .v (.bool b))
  (h:aO P r N l dst env H D (λc H' p=>aY P r N ls Q c H' p)):aY P r N (⟨dst,some (t,b),l⟩::ls) Q env H D:=by
 intro arr is hm C a w S L q hs;cases is with
 |nil=>cases hm
 |cons i is=>obtain⟨G,ls',e,x,m⟩:=hm;cases e;obtain⟨o,A,d,hd,g,hg⟩:=x.at_;rcases hg with⟨hg,_⟩|⟨j,I,F,hg,f,z⟩;cases hg;cases hg;have E:bA o (yielded arr a.tmps)=true:=(by simp [bA,f,qp hs z B]);simp only[wpOpsIn,A,E,if_true];exact h o d hd g C a w S L q hs _ _ (λc H' p y w' u s k n _=>k arr is m C _ w' u s q n)
theorem aY.no {l:kK}{b c:Bool}(z:env t= .v (.bool c))(g:c≠b)
  (h:aY P r N ls Q (cP env dst (.v undef)) H D):aY P r N (⟨dst,some (t,b),l⟩::ls) Q env H D:=by
 intro arr is hm C a w S L p hs;cases is with
 |nil=>cases hm
 |cons i is=>obtain⟨E,ls',e,s,m⟩:=hm;cases e;obtain⟨o,y,f,hd,x,hg⟩:=s.at_;rcases hg with⟨hg,_⟩|⟨j,F,B,hg,k,u⟩;cases hg;cases hg;have A:bA o (yielded arr a.tmps)=false:=(by simp [bA,k,qp hs u z,g]);simp only[wpOpsIn,y,A,if_false,bm];obtain⟨q,n⟩:=hs.mP (λd e=>p▸hd d e) zz (by simp [bf]:bf S (.v undef) undef);exact⟨λ_ _=>trivial,by rw[f];exact h arr is m C _ w S q p n⟩
theorem aY.nop {l:kK}{b:Bool}{cs:Array Value}(x:env t= .v (.tuple cs))
  (h:aY P r N ls Q (cP env dst (.v undef)) H D):aY P r N (⟨dst,some (t,b),l⟩::ls) Q env H D:=by
 intro arr is hm C a w S L m hs;cases is with
 |nil=>cases hm
 |cons i is=>obtain⟨A,ls',e,p,g⟩:=hm;cases e;obtain⟨o,u,c,hd,s,hg⟩:=p.at_;rcases hg with⟨hg,_⟩|⟨j,B,z,hg,f,q⟩;cases hg;cases hg;have y:bA o (yielded arr a.tmps)=false:=(by simp [bA,f,wm hs q x]);simp only[wpOpsIn,u,y,if_false,bm];obtain⟨n,k⟩:=hs.mP (λd e=>m▸hd d e) zz (by simp [bf]:bf S (.v undef) undef);exact⟨λ_ _=>trivial,by rw[c];exact h arr is g C _ w S n m k⟩
end
variable {n:Nat}{T:TypeId}
theorem bf.sU {y:Value}(h:bf S p y):p.bT=false:=by cases p<;>simp_all [bf,AV.bT]
theorem aS.length : ∀{l:List AV} {cs:List Value},aS S l cs->cs.length=l.length
 |[],cs,h=>by simp only[aS]at h;subst h;rfl
 |a::l,cs,h=>by simp only[aS]at h;obtain⟨c,b,rfl,_,h⟩:=h;simp [h.length]
theorem aS.get : ∀{l:List AV} {cs:List Value},aS S l cs-> ∀{i:Nat} {p:AV},l[i]? =some p-> ∃c,cs[i]? =some c/\bf S p c
 |[],cs,_,i,p,e=>by simp at e
 |a::l,cs,h,i,p,e=>by
  simp only[aS]at h;obtain⟨c,b,rfl,d,f⟩:=h;cases i with
  |zero=>simp at e;subst e;exact⟨c,aF,d⟩
  |succ i=>simp at e ⊢;exact f.get e
theorem aS.drop : ∀{l:List AV} {cs:List Value} (n:Nat),aS S l cs->aS S (l.drop n) (cs.drop n)
 |_,_,0,h=>by simpa using h
 |[],cs,n+1,h=>by simp only[aS]at h;subst h;simp [aS]
 |a::l,cs,n+1,h=>by simp only[aS]at h;obtain⟨c,b,rfl,e,d⟩:=h;simpa using aS.drop n d
theorem aS.take : ∀{l:List AV} {cs:List Value} (n:Nat),aS S l cs->aS S (l.take n) (cs.take n)
 |_,_,0,h=>by simp [aS]
 |[],cs,n+1,h=>by simp only[aS]at h;subst h;simp [aS]
 |a::l,cs,n+1,h=>by simp only[aS]at h;obtain⟨c,b,rfl,d,e⟩:=h;simp;exact⟨c,_,zz,d,aS.take n e⟩
theorem aS.append : ∀{l m:List AV} {cs b:List Value},aS S l cs->aS S m b->aS S (l++m) (cs++b)
 |[],m,cs,b,h,k=>by simp only[aS]at h;subst h;simpa using k
 |a::l,m,cs,b,h,k=>by simp only[aS]at h;obtain⟨c,d,rfl,e,f⟩:=h;simp;exact⟨c,_,zz,e,aS.append f k⟩
theorem aS.split : ∀{l m:List AV} {cs:List Value},aS S (l++m) cs-> ∃c1 b,cs=c1++b/\aS S l c1/\aS S m b
 |[],m,cs,h=>⟨[],cs,zz,by simp [aS],h⟩
 |a::l,m,cs,h=>by simp only[cr,aS]at h;obtain⟨c,d,rfl,e,f⟩:=h;obtain⟨c1,b,rfl,g,h4⟩:=aS.split f;exact⟨c::c1,b,zz,by simp only[aS];exact⟨c,c1,zz,e,g⟩,h4⟩
theorem aS.set : ∀{l:List AV} {cs:List Value} (i:Nat) {p:AV} {c:Value},aS S l cs->bf S p c->aS S (l.set i p) (cs.set i c)
 |[],cs,i,p,c,h,_=>by simp only[aS]at h;subst h;simp [aS]
 |a::l,cs,0,p,c,h,k=>by simp only[aS]at h;obtain⟨c0,b,rfl,e,d⟩:=h;simp;exact⟨c,b,zz,k,d⟩
 |a::l,cs,i+1,p,c,h,k=>by simp only[aS]at h;obtain⟨c0,b,rfl,e,d⟩:=h;simp only[List.set_cons_succ,aS];exact⟨c0,_,zz,e,aS.set i d k⟩
theorem fY.drop : ∀{cs:List AV} (n:Nat) {b o:Nat},fY S cs b o->fY S (cs.drop n) b (o+n)
 |_,0,b,o,h=>by simpa using h
 |[],n+1,b,o,h=>by simp [fY]
 |a::cs,n+1,b,o,h=>by simp only[fY]at h;have:=fY.drop n h.2;rw[show o+(n+1)=o+1+n from af];simpa using this
theorem fY.cells : ∀{cs:List AV} {b o:Nat},fY S cs b o-> ∀n,n<=cs.length-> ∃l:List Value,aS S (cs.take n) l/\(∀c∈l,c.oneCell'=true)/\ ∀i,i<n->S.cell b (o+i)=l[i]?
 |_,b,o,_,0,_=>⟨[],by simp [aS],aF,aF⟩
 |[],b,o,h,n+1,d=>by simp at d
 |a::cs,b,o,h,n+1,d=>by
  simp only[fY]at h;obtain⟨⟨c,e,f,r⟩,g⟩:=h;obtain⟨l,k,hl,hi⟩:=fY.cells g n (by simpa using d);refine⟨c::l,?_,?_,?_⟩;simp;exact⟨c,l,zz,r,k⟩;intro x hx;rcases bk.1 hx with rfl|hx
  exact f;exact hl x hx
  intro i j;cases i with
  |zero=>simpa using e
  |succ i=>have:=hi i af;simp;rw[<-this];congr 1;omega
theorem addr_add (b o n:Nat):(⟨b,o,none⟩:Addr).add n=⟨b,o+n,none⟩:=by unfold Addr.add;split<;>simp_all
theorem run_loadCellsFrom {P:Program}{w:World}{b o:Nat}: ∀(n i:Nat) (acc:Array Value) (l:List Value),l.length=n->
  (∀j,j<n->w.cell? ⟨b,o+(i+j),none⟩=l[j]?)->(loadCellsFrom ⟨b,o,none⟩ i n acc).run P w= .ok (acc++l.toArray) w
 |0,i,acc,l,hl,_=>by
  cases l with
  |nil=>simp [loadCellsFrom]
  |cons=>simp at hl
 |n+1,i,acc,l,hl,h=>by
  cases l with
  |nil=>simp at hl
  |cons c l=>
   have a:=h 0 af
   simp at a
   have d:=run_loadCellsFrom (P:=P) (w:=w) (b:=b) (o:=o) n (i+1) (acc.push c) l (by simpa using hl) (λj e=>by
    have:=h (j+1) af
    rw[show o+(i+1+j)=o+(i+(j+1))from af]
    simpa using this)
   simp only[loadCellsFrom,addr_add,c7,run_load,a,a7,d]
   simp
theorem run_loadCells {o:Nat}(hl:l.length=n)(h: ∀j,j<n->w.cell? ⟨b,o+j,none⟩=l[j]?):
  (loadCells ⟨b,o,none⟩ n).run P w= .ok l.toArray w:=by have:=run_loadCellsFrom (P:=P) (w:=w) (b:=b) (o:=o) n 0 #[] l hl (λj a=>bD);simpa [loadCells]using this
theorem vG {d:TypeDesc}(h:P.underlying T=some d):(isAgg T).run P w= .ok (JT P T) w:=by unfold isAgg JT;simp only[c7,underlying,run_program,a7,h,cy];cases d<;>rfl
theorem qQ {n:Option Nat}(a:Ao P T=some n){o:Nat}
  (hl:l.length=n.getD 1) (h: ∀j,j<n.getD 1->w.cell? ⟨b,o+j,none⟩=l[j]?):
  (loadVar T ⟨b,o,none⟩).run P w= .ok (match n with|some _=>.agg l.toArray|none=>l.headD undef) w:=by
 unfold Ao at a;cases hi:P.info? T with
 |none=>grind
 |some i=>
  cases e:P.underlying T with
  |none=>grind
  |some d=>
  rw[hi,e]at a;simp only at a;cases ha:JT P T with
  |true=>rw[ha]at a;simp at a;subst a;have hc:=run_loadCells (P:=P) (by simpa using hl) (by simpa using h);simp only[loadVar,c7,vG e,ha,a7,hO,if_true,sizeOf,typeInfo,run_program,hi,cy,hc]
  |false=>
   rw[ha]at a;simp only[bm,if_false]at a;split at a;rename_i hs;simp at a;subst a;cases l with
   |nil=>simp at hl
   |cons c l=>have f:=h 0 aF;simp at f;simp only[loadVar,c7,vG e,ha,a7,bm,hO,if_false,run_load,f,List.headD_cons]
   cases a
def AV.dG:AV->Bool
 | .v x=>x.oneCell'
 | .any| .agg _| .cG _| .aT _ _ _| .eR _ _| .gT _ _ _ _ _| .rF _ _=>false
 |_=>true
theorem bf.GW {y:Value}(h:bf S p y)(a:p.dG=true):y.oneCell'=true:=by
 cases p<;>simp only[AV.dG,bm]at a<;>simp only[bf]at h;case v x=>subst h;exact a
 case nil=>subst h;rfl
 case sl=>rcases h with⟨⟨_,rfl⟩,_⟩|⟨_,_,_,rfl,_⟩<;>rfl
 case pi=>obtain⟨_,_,rfl,_⟩:=h;rfl
 case po=>subst h;rfl
 case so=>subst h;rfl
 case mi=>obtain⟨_,_,_,rfl,_⟩:=h;rfl
 case mo=>subst h;rfl
 case fn=>obtain⟨_,_,rfl,_⟩:=h;rfl
 case Zk=>obtain⟨_,rfl,_⟩:=h;rfl
def ct:AV->List AV
 | .agg l=>l
 |p=>[p]
def AV.cS:AV->Bool
 | .agg _=>true
 |p=>p.dG
theorem Value.Ij {y:Value}(h:y.oneCell'=true):y.cells= #[y]:=by cases y<;>simp_all [hP,e3]
theorem bf.cells {y:Value}(h:bf S p y)(a:p.cS=true):aS S (ct p) y.cells.toList:=by
 cases p;case agg l=>simp only[bf]at h;obtain⟨cs,rfl,h⟩:=h;simpa [hP,ct]using h
 all_goals
  simp only[AV.cS]at a
  have b:=h.GW a
  rw[Value.Ij b]
  simp
  exact⟨y,[],zz,h,zz⟩
theorem aS.va : ∀{l:List AV} {cs:List Value},aS S l cs->l.all AV.dG=true-> ∀c∈cs,c.oneCell'=true
 |[],cs,h,_,c,hc=>by simp only[aS]at h;subst h;simp at hc
 |a::l,cs,h,hl,c,hc=>by
  simp only[aS]at h;obtain⟨c0,b,rfl,d,e⟩:=h;simp only[List.all_cons,c8]at hl;rcases bk.1 hc with rfl|hc
  exact d.GW hl.1;exact e.va hl.2 c hc
def qX (cs:List AV)(off:Nat):List AV->List AV
 |[]=>cs
 |c::l=>qX (cs.set off c) (off+1) l
def iK (cs:List AV):List (Nat×Nat×AV)->Option (List AV)
 |[]=>some cs
 |(off,size,p)::a=>
  if p.cS&&(ct p).length==size&&hT (off+(ct p).length) cs.length then iK (qX cs off (ct p)) a else none
theorem Eg : ∀(l:List AV) (d:List Value) (cs:List AV) (b:List Value) (off j:Nat),aS S l d->aS S cs b->
  aS S (qX cs (off+j) l) ((d.zipIdx j).foldl (λcs (c,j)=>cs.set (off+j) c) b)
 |[],d,cs,b,off,j,h,k=>by simp only[aS]at h;subst h;simpa [qX]using k
 |a::l,d,cs,b,off,j,h,k=>by
  simp only[aS]at h
  obtain⟨c,e,rfl,f,g⟩:=h
  simp
  exact Eg l e _ _ off (j+1) g (k.set (off+j) f)
theorem vR (l:List (Value×Nat))(off:Nat): ∀(cs:Array Value),(l.foldl (λcs (x:Value×Nat)=>cs.setIfInBounds (off+x.2) x.1) cs).toList=l.foldl (λcs (x:Value×Nat)=>cs.set (off+x.2) x.1) cs.toList:=by
 induction l with
 |nil=>intro cs;rfl
 |cons x l a=>grind
def fp {α β:Type}(R:α->β->Prop):List α->List β->Prop
 |[],[]=>True
 |a::l,b::m=>R a b/\fp R l m
 |_,_=>False
theorem yw {place:Nat->Option (Nat×Nat)}: ∀(ps:List (Nat×Value)) (j:List (Nat×Nat×AV)) (cs:List AV) (a:Array Value) (r:List AV),
  (fp (λp q=>place p.1=some (q.1,q.2.1)/\bf S q.2.2 p.2) ps j)->aS S cs a.toList->iK cs j=some r->
  ∃es:Array Value,hQ place a ps=some es/\aS S r es.toList
 |[],[],cs,a,r,_,k,e=>by simp only[iK,a8]at e;subst e;exact⟨a,zz,k⟩
 |(i,v)::ps,(off,size,p)::j,cs,a,r,h,k,e=>by
  obtain⟨⟨o,s⟩,t⟩:=h
  simp only at o s
  simp only[iK]at e
  split at e
  ·rename_i hc
   simp only[c8,beq_iff_eq,Nat.ble_eq]at hc
   obtain⟨⟨l,d⟩,u⟩:=hc
   have f:=s.cells l
   have g:v.cells.size=size:=by rw[<-d,<-f.length];simp
   have c:a.size=cs.length:=by rw[<-k.length];simp
   have hx:=Eg (ct p) v.cells.toList cs a.toList off 0 f k
   simp only[fk]at hx
   have b:(v.cells.zipIdx.foldl (λcs (x:Value×Nat)=>cs.setIfInBounds (off+x.2) x.1) a).toList=(v.cells.toList.zipIdx 0).foldl (λcs (x:Value×Nat)=>cs.set (off+x.2) x.1) a.toList:=by
    rw[<-Array.foldl_toList,vR];simp
   obtain⟨es,m,n⟩:=yw ps j _ (v.cells.zipIdx.foldl (λcs (x:Value×Nat)=>cs.setIfInBounds (off+x.2) x.1) a) r t (by rw[b];exact hx) e
   refine⟨es,?_,n⟩
   simp only[hQ,o]
   rw[zj]
   ·exact m
   ·simp only[g,ne_eq,not_true_eq_false,decide_false,Bool.false_or,decide_eq_true_eq,c]
    rw[<-d];omega
  ·cases e
 |[],_::_,_,_,_,h,_,_=>h.elim
 |_::_,[],_,_,_,h,_,_=>h.elim
def gw (n:Option Nat)(cs:List AV):Option AV:=match n with
 |none=>cs.head?
 |some m=>if hT m cs.length then some (.agg (cs.take m))else none
def lm (n:Option Nat)(off:Nat)(l:List AV):Option AV:=match n with
 |none=>l[off]?
 |some m=>if hT (off+m) l.length then some (.agg ((l.drop off).take m))else none
def lj (l:kK)(env:Env):Option AV:=
 match l with
 | .tJ x=>match bG env x with
  | .any=>some .any
  | .v x=>some (.v x)
  | .nil=>some .nil
  | .agg l=>some (.agg l)
  | .cG l=>some (.cG l)
  | .sl k es=>some (.sl k es)
  | .pi cs=>some (.pi cs)
  | .po b o=>some (.po b o)
  | .so b n c=>some (.so b n c)
  | .aT _ _ _=>none
  | .eR _ _=>none
  | .gT _ _ _ _ _=>none
  | .rF _ _=>none
  | .mi es=>some (.mi es)
  | .mo b=>some (.mo b)
  | .fn f a c=>some (.fn f a c)
  | .Zk t x=>some (.Zk t x)
 | .bin op _ x y=>match bG env x,bG env y with
  | .v (.int k a),.v (.int e b)=>if k=e then(match op with
   | .eql=>some (.v (.bool (a==b)))
   | .neq=>some (.v (.bool (a !=b)))
   | .lss=>some (.v (.bool (decide (a<b))))
   | .leq=>some (.v (.bool (decide (a<=b))))
   | .gtr=>some (.v (.bool (decide (a>b))))
   | .geq=>some (.v (.bool (decide (a>=b))))
   |_=>none)else none
  | .v (.string a),.v (.string b)=>(match op with
   | .eql=>some (.v (.bool (a.toList==b.toList)))
   | .neq=>some (.v (.bool !(a.toList==b.toList)))
   | .lss=>some (.v (.bool (Op.bytesLess a.toList b.toList)))
   |_=>none)
  |_,_=>none
 | .un .not x=>match bG env x with
  | .v (.bool b)=>some (.v (.bool !b))
  |_=>none
 | .extract x i=>match bG env x with
  | .cG l=>l[i]?
  |_=>none
 | .rG _ x _ off=>match bG env x with
  | .pi cs=>some (.pi (cs.drop off))
  | .po b o=>some (.po b (o+off))
  |_=>none
 | .load _ x n=>match bG env x with
  | .pi cs=>gw n cs
  |_=>none
 | .field _ x _ off n=>match bG env x with
  | .agg l=>lm n off l
  |_=>none
 | .yM f first d=>if (first.map (bG env)).all (λp=> !p.bT)&&(d.map (bG env)).all (λp=> !p.bT)then some (.fn f (first.map (bG env)) (d.map (bG env)))else none
 | .yv x=>match bG env x with
  | .pi cs=>some (.pi cs)
  | .po b o=>some (.po b o)
  |_=>none
 | .len str _ _ x=>match bG env x,str with
  | .sl _ es,false=>some (.v (.int .i64 es.length))
  | .so _ n _,false=>some (.v (.int .i64 n))
  | .nil,false=>some (.v (.int .i64 0))
  | .v (.slice _ n _),false=>some (.v (.int .i64 n))
  | .v (.string s),true=>some (.v (.int .i64 s.size))
  |_,_=>none
 | .build _ _ z g=>(iK (z.map .v) (g.map λq=>(q.1,q.2.1,bG env q.2.2))).map .agg
 |_=>none
variable {ty:TypeId}{off:Nat}{cs:List AV}{x:Operand}
section
variable {o:Oper}
theorem fY.afB {o:Nat}(h:fY S cs b o)(e:cs.head? =some p): ∃c,S.cell b o=some c/\c.oneCell'=true/\bf S p c:=by
 cases cs with
 |nil=>simp at e
 |cons x l=>simp at e;subst e;simp only[fY]at h;exact h.1
theorem P0 (hs:Sat C env H D a w S L){n:Option Nat}(q:Lo P o (.load T x n))(hx:bG env x= .pi cs)
  (f:gw n cs=some p):
  ∃y,(execOp a.eval o).run P w= .ok (.value y) w/\bf S p y:=by
 cases q with
 |load i s=>
  have t:=hs.dM x hx zz;simp only[bf]at t;obtain⟨b,off,u,hc⟩:=t;cases n with
  |none=>
   simp only[gw]at f;obtain⟨c,d,_,r⟩:=hc.afB f;refine⟨c,?_,r⟩;have:=qQ s (l:=[c]) zz (by
    intro j g
    have:j=0:=by simp at g;exact g
    subst this
    simpa using hs.sin.cell _ _ _ d)
   simp [execOp,i,eS,bn,u,this]
  |some m=>
   simp only[gw]at f;split at f;rename_i hm;cases f;obtain⟨l,v,_,hi⟩:=hc.cells m (b4 hm);have h:l.length=m:=(by rw[v.length,bI];exact b3 (b4 hm));refine⟨.agg l.toArray,?_,by simp only[bf];exact⟨l,zz,v⟩⟩;have:=qQ s (b:=b) (o:=off) (l:=l) (by simpa using h) (by
    intro j g
    simp only[ga]at g
    have e:=hi j g
    have k:j<l.length:=af
    rw[bt k]at e ⊢
    exact hs.sin.cell _ _ _ e)
   simp [execOp,i,eS,bn,u,this]
   cases f
theorem Ey {f:Nat}(c:Lo P o (.rG T x f off)){q:Nat}(i:a.eval x= .pointer (some ⟨b,q,none⟩)):
  (execOp a.eval o).run P w= .ok (.value (.pointer (some ⟨b,q+off,none⟩))) w:=by
 cases c with
 |rG d g h hi e=>simp [execOp,d,Instr.fieldAt,underlying,g,h,bn,i,fieldPlace,sizeOf,typeInfo,hi,e,addr_add]
theorem yo {n:Option Nat}(a:Ao P T=some n){cs:Array Value}{y:Value}
  (h:match n with|none=>cs[off]? =some y|some m=>y= .agg (cs.extract off (off+m))):(part T cs off).run P w= .ok y w:=by
 unfold Ao at a;cases hi:P.info? T with
 |none=>grind
 |some i=>
  cases b:P.underlying T with
  |none=>grind
  |some d=>
   rw[hi,b]at a;simp only at a;cases ha:JT P T with
   |true=>rw[ha]at a;simp at a;subst a;simp only at h;subst h;simp [part,vG b,ha,sizeOf,typeInfo,hi]
   |false=>rw[ha]at a;simp only[bm,if_false]at a;split at a;simp at a;subst a;simp only at h;simp [part,vG b,ha,h];cases a
theorem NO (hs:Sat C env H D a w S L){f:Nat}{n:Option Nat}(i:Lo P o (.field T x f off n)){l:List AV}(hx:bG env x= .agg l)
  (b:lm n off l=some p):
  ∃y,(execOp a.eval o).run P w= .ok (.value y) w/\bf S p y:=by
 cases i with
 |field d j k q=>
  have r:=hs.dM x hx zz;simp only[bf]at r;obtain⟨cs,s,hc⟩:=r;cases n with
  |none=>simp only[lm]at b;obtain⟨c,g,h⟩:=hc.get b;refine⟨c,?_,h⟩;have:=yo (w:=w) q (cs:=cs.toArray) (by simpa using g);simp [execOp,d,hL,underlying,j,k,s,asAgg,this]
  |some m=>simp only[lm]at b;split at b;cases b;rename_i t e _;refine⟨.agg ((cs.drop e.offset).take m).toArray,?_,by simp only[bf];exact⟨_,zz,(hc.drop _).take m⟩⟩;have:=yo (w:=w) q (cs:=cs.toArray) (off:=e.offset) (y:=.agg ((cs.drop e.offset).take m).toArray) (by simp [List.extract_toArray,List.extract_eq_take_drop]);simp [execOp,d,hL,underlying,j,k,s,asAgg,this];cases b
theorem rH (f:Lo P o (.len G T ty x)):
  (∀{b n c},a.eval x= .slice b n c->G=false->(execOp a.eval o).run P w= .ok (.value (.int .i64 n)) w)/\
  (∀{s},a.eval x= .string s->G=true->(execOp a.eval o).run P w= .ok (.value (.int .i64 s.size)) w):=by
 cases f with
 |agG d e=>constructor;grind;intro s g _;simp [execOp,d,resolve,invoke,builtin,hC,underlying,e,g,goInt]
 |aeA d e=>constructor;intro b n c g _;simp [execOp,d,resolve,invoke,builtin,hC,underlying,e,g,goInt];grind
end
variable {y:Operand}{k:Nat}
section
variable {o:Oper}
theorem Sat.int (hs:Sat C env H D a w S L)(e:bG env x= .v v):a.eval x=v:=by have:=hs.dM x e zz;simpa only[bf]using this
theorem oe {op:BinOp}(b:Lo P o (.bin op T x y)){k:IntKind}{m n:Int}(hx:a.eval x= .int k m)(hy:a.eval y= .int k n):
  (execOp a.eval o).run P w=((binOp op T (.int k m) (.int k n)).run P w).andThen λv w'=>.ok (.value v) w':=by
 cases b with
 |bin c d _=>cases op<;>simp [execOp,c,hx,hy,eqGuard]
theorem A8 {op:BinOp}(b:Lo P o (.bin op T x y)){m n:ByteArray}(hx:a.eval x= .string m)(hy:a.eval y= .string n):
  (execOp a.eval o).run P w=((hM op m n).run P w).andThen λv w'=>.ok (.value v) w':=by
 cases b with
 |bin c d _=>cases op<;>simp [execOp,c,hx,hy,eqGuard,binOp]
theorem Dm {g:Array Field}: ∀(ps:List (Nat×Operand)) (d:List (Nat×Nat×Operand)),lV P g ps=some d->
  ∀{b:Array (Nat×Nat)},(∀(f:Nat) (c:Field) (i:TypeInfo),g[f]? =some c->P.info? c.type=some i->b[f]? =some (c.offset,i.size))->
  ∀(_:Sat C env H D a w S L),(∀q∈d,(bG env q.2.2).bT=false)->
  fp (λ(p:Nat×Value) (q:Nat×Nat×AV)=>b[p.1]? =some (q.1,q.2.1)/\bf S q.2.2 p.2) (ps.map λp=>(p.1,a.eval p.2)) (d.map λq=>(q.1,q.2.1,bG env q.2.2))
 |[],d,e,_,_,_,_=>by simp only[lV,a8]at e;subst e;simp [fp]
 |(f,x)::l,d,e,b,h,hs,hl=>by
  simp only[lV]at e
  split at e
  ·rename_i c r k o
   simp only[a6]at e
   obtain⟨j,m,rfl⟩:=e
   simp
   refine⟨⟨h f c j k m,hs.dM x zz (hl _ (bk.2 (.inl zz)))⟩,?_⟩
   exact Dm l r o h hs (λq n=>hl q (bk.2 (.inr n)))
  ·cases e
theorem oq {cs:List AV}: ∀{a:List (Nat×Nat×AV)} {r:List AV},iK cs a=some r-> ∀q∈a,q.2.2.bT=false
 |[],_,_,q,h=>by cases h
 |(off,size,p)::b,r,e,q,h=>by
  simp only[iK]at e;split at e;rename_i hc;simp only[c8]at hc;rcases bk.1 h with rfl|h
  cases p<;>simp_all [AV.bT,AV.cS,AV.dG];exact oq e q h
  cases e
theorem kN (h:zeroOf P T=some l): ∃v,(zeroValue T).run P w= .ok v w/\v.cells=l.toArray:=by
 unfold zeroOf at h;cases hi:P.info? T with
 |none=>grind
 |some i=>rw[hi]at h;simp at h;obtain⟨v,a,rfl⟩:=h;exact⟨v,by simp [zeroValue,typeInfo,hi,a],aF⟩
theorem wq {α β:Type}{f:α->Sem β}{g:α->β}: ∀(l:List α),(∀x∈l,(f x).run P w= .ok (g x) w)->(l.mapM f).run P w= .ok (l.map g) w
 |[],_=>aF
 |x::l,h=>by rw[List.mapM_cons];simp [h x aF,wq l (λy hy=>h y (by simp [hy]))]
theorem CY {β:Type}{f:Z->Sem β}{g:Z->β}(l:Array Z)(h: ∀x∈l.toList,(f x).run P w= .ok (g x) w):(l.mapM f).run P w= .ok (l.map g) w:=by rw[Array.mapM_eq_mapM_toList];simp only[Sem.run_map,wq l.toList h,a7];congr 1;apply Array.toList_inj.1;simp
theorem run_places {b:Array Field}(c:b.toList.all (λf=>(P.info? f.type).isSome)=true):
  ∃a:Array (Nat×Nat),(b.mapM (λf=>Prod.mk f.offset<$>sizeOf f.type:Field->Sem (Nat×Nat))).run P w= .ok a w/\
   ∀(f:Nat) (d:Field) (i:TypeInfo),b[f]? =some d->P.info? d.type=some i->a[f]? =some (d.offset,i.size):=by refine⟨b.map (λf=>(f.offset,P.cellsOf f.type)),CY b ?_,?_⟩;intro f e;have:=de.1 c f e;obtain⟨i,hi⟩:=Option.isSome_iff_exists.1 this;simp [sizeOf,typeInfo,hi,gX];intro f d i e hi;simp [e,gX,hi]
theorem vf : ∀(ps:List (Nat×Operand)) (_:Sat C env H D a w S L),(∀p∈ps,(bG env p.2).bT=false)->
  fp (λ(p:Nat×Value) (q:Nat×Nat×AV)=>(λi=>some (i*k,k)) p.1=some (q.1,q.2.1)/\bf S q.2.2 p.2) (ps.map λp=>(p.1,a.eval p.2)) (ps.map λp=>(p.1*k,k,bG env p.2))
 |[],_,_=>by simp [fp]
 |(f,x)::l,hs,hl=>by
  simp only[bx,fp]
  exact⟨⟨aF,hs.dM x zz (hl (f,x) aF)⟩,vf l hs (λq b=>hl q (by simp [b]))⟩
theorem Mj (hs:Sat C env H D a w S L){ps:List (Nat×Operand)}{z:List Value}{F:List (Nat×Nat×Operand)}(t:Lo P o (.build T ps z F)){r:List AV}
  (l:iK (z.map .v) (F.map λq=>(q.1,q.2.1,bG env q.2.2))=some r): ∃y,(execOp a.eval o).run P w= .ok (.value y) w/\bf S (.agg r) y:=by
 have h:=oq l;cases t with
 |aa6 d B s g A=>obtain⟨v,e,f⟩:=kN (w:=w) B;obtain⟨m,u,x⟩:=run_places (w:=w) g;obtain⟨es,b,c⟩:=yw _ _ _ (z.toArray) r (Dm _ _ A x hs (λq J=>h (q.1,q.2.1,bG env q.2.2) (cx.2 ⟨q,J,zz⟩))) (by simpa using sM S z) l;refine⟨.agg es,?_,by simp only[bf];exact⟨es.toList,aF,c⟩⟩;simp [execOp,d,hJ,e,f,underlying,s,u,b]
 |SH d B s I=>obtain⟨v,e,f⟩:=kN (w:=w) B;rename_i ps n E j;simp at l;have G:=vf (k:=j.size) ps.toList hs (λp K=>h (p.1*j.size,j.size,bG env p.2) bD);obtain⟨es,b,c⟩:=yw (S:=S) (place:=λi=>some (i*j.size,j.size)) _ _ _ (z.toArray) r G (by simpa using sM S z) l;refine⟨.agg es,?_,by simp only[bf];exact⟨es.toList,aF,c⟩⟩;simp [execOp,d,hJ,e,f,underlying,s,sizeOf,typeInfo,I,b]
end
variable {Q:dl}
section
variable {o:Oper}
theorem Ib (b:Lo P o (.tJ x)):(execOp a.eval o).run P w= .ok (.value (a.eval x)) w:=by
 cases b with
 |tJ h=>rcases h with h|h<;>simp [execOp,h]
theorem Wv (hs:Sat C env H D a w S L)(b:Lo P o (.tJ x))(hx:bG env x=p)(c:p.bT=false):
 ∃y,(execOp a.eval o).run P w= .ok (.value y) w/\bf S p y:=⟨_,Ib b,hs.dM x hx c⟩
theorem UK (hs:Sat C env H D a w S L){op:BinOp}(b:Lo P o (.bin op T x y))(h:lj (.bin op T x y) env=some p):
  ∃y,(execOp a.eval o).run P w= .ok (.value y) w/\bf S p y:=by simp only[lj]at h;split at h;rename_i k m d n hx hy;split at h;rename_i hk;subst hk;have c:=oe (w:=w) b (hs.int hx) (hs.int hy);cases op<;>simp only at h<;>cases h<;>exact⟨_,by rw[c];simp [binOp,Op.intCmp];rfl,by simp [bf]⟩;cases h;rename_i m n hx hy;have c:=A8 (w:=w) b (hs.int hx) (hs.int hy);cases op<;>simp only at h<;>cases h<;>exact⟨_,by rw[c];simp [hM];rfl,by simp [bf]⟩;cases h
theorem UA (hs:Sat C env H D a w S L){l:kK}(d:Lo P o l)(h:lj l env=some p):
  ∃y,(execOp a.eval o).run P w= .ok (.value y) w/\bf S p y:=by
 cases l;case tJ x=>
  simp only[lj]at h;split at h;all_goals first
   |cases h;done
   |(rename_i hx;cases h;exact Wv hs d hx zz)
 case bin=>exact UK hs d h
 case un op x=>
  cases op<;>simp only[lj]at h<;>first|cases h;done|skip
  split at h;rename_i b hx;cases h;cases d with
  |un g=>exact⟨_,by simp [execOp,g,hs.int hx,Op.unary];rfl,by simp [bf]⟩
  cases h
 case extract x i=>
  simp only[lj]at h;split at h;rename_i l hx;have e:=hs.dM x hx zz;simp only[bf]at e;obtain⟨cs,m,hc⟩:=e;obtain⟨c,t,u⟩:=hc.get h;cases d with
  |extract g=>exact⟨c,by simp [execOp,g,m,Instr.extract,t],u⟩
  cases h
 case rG T x f off=>simp only[lj]at h;split at h;rename_i cs hx;cases h;have e:=hs.dM x hx zz;simp only[bf]at e;obtain⟨b,q,m,hc⟩:=e;exact⟨_,Ey d m,by simp only[bf];exact⟨b,q+off,zz,hc.drop off⟩⟩;rename_i b q hx;cases h;have e:=hs.dM x hx zz;simp only[bf]at e;exact⟨_,Ey d e,by simp [bf]⟩;cases h
 case load T x n=>simp only[lj]at h;split at h;rename_i cs hx;exact P0 hs d hx h;cases h
 case field T x f off n=>simp only[lj]at h;split at h;rename_i l hx;exact NO hs d hx h;cases h
 case yM f first v=>
  simp only[lj]at h;split at h;rename_i hc;cases h;simp only[c8,de,Bool.not_eq_true']at hc;cases d with
  |yM g=>rename_i fa ca;refine⟨_,by simp [execOp,g,Instr.makeFunc];rfl,?_⟩;simp only[bf];exact⟨fa.toList.map a.eval,ca.toList.map a.eval,by simp [<-eM],hs.FA fa.toList zz hc.1,hs.FA ca.toList zz hc.2⟩
  cases h
 case yv x=>
  simp only[lj]at h;split at h;rename_i cs hx;cases h;have e:=hs.dM x hx zz;have j:=e;simp only[bf]at j;obtain⟨b,q,m,_⟩:=j;cases d with
  |yv g=>exact⟨a.eval x,by simp [execOp,g,m],e⟩
  rename_i b q hx;cases h;have e:=hs.dM x hx zz;have j:=e;simp only[bf]at j;cases d with
  |yv g=>exact⟨a.eval x,by simp [execOp,g,j],e⟩
  cases h
 case len str T E x=>
  simp only[lj]at h;split at h;rename_i k es hx;cases h;have e:=hs.dM x hx zz;simp only[bf]at e;rcases e with⟨⟨_,m⟩,he⟩|⟨b,q,cap,m,_⟩
  subst he;exact⟨_,(rH d).1 m zz,by simp [bf]⟩;exact⟨_,(rH d).1 m zz,by simp [bf]⟩
  rename_i b n cap hx;cases h;have e:=hs.dM x hx zz;simp only[bf]at e;exact⟨_,(rH d).1 e zz,by simp [bf]⟩;rename_i hx;cases h;have e:=hs.dM x hx zz;simp only[bf]at e;exact⟨_,(rH d).1 e zz,by simp [bf]⟩;rename_i A n c hx;cases h;exact⟨_,(rH d).1 (hs.int hx) zz,by simp [bf]⟩;rename_i s hx;cases h;exact⟨_,(rH d).2 (hs.int hx) zz,by simp [bf]⟩;cases h
 case build T ps z B=>simp only[lj,a6]at h;obtain⟨r,e,rfl⟩:=h;exact Mj hs d e
 all_goals (simp only[lj]at h;cases h)
theorem BD {l:kK}(h:lj l env=some p): ∀op,l≠.other op:=by rintro op rfl;simp [lj]at h
theorem aO.plain {l:kK}(h:lj l env=some p)(b:p.bT=false)
  (k:K (cP env dst p) H D):aO P r N l dst env H D K:=
 aO.pure b (BD h) (λ_ a _ _ _ _ _ hs=>UA hs a h) k
end
variable {cap kk m:Nat}{kd:IntKind}{es:List (List AV)}
section
theorem fh {n:Int}(a: -9223372036854775808<=n)(b:n<=9223372036854775807):e2.wrap n=n:=by have:=IntWalk.i64_in n ⟨a,b⟩;exact this
theorem aO.add {a b:Int}(hx:bG env x= .v (.int .i64 a))(hy:bG env y= .v (.int .i64 b))(d: -9223372036854775808<=a+b)(e:a+b<=9223372036854775807)
  (k:K (cP env dst (.v (.int .i64 (a+b)))) H D):aO P r N (.bin .add T x y) dst env H D K:=
 aO.pure zz aF (λo c C f w S L hs=>⟨_,by
  rw[oe c (hs.int hx) (hs.int hy)]
  simp only[binOp,gx,ne_eq,not_true_eq_false,if_false,cy,a7,fh d e];rfl,by simp [bf]⟩) k
theorem aO.sub {a b:Int}(hx:bG env x= .v (.int .i64 a))(hy:bG env y= .v (.int .i64 b))(d: -9223372036854775808<=a-b)(e:a-b<=9223372036854775807)
  (k:K (cP env dst (.v (.int .i64 (a-b)))) H D):aO P r N (.bin .sub T x y) dst env H D K:=
 aO.pure zz aF (λo c C f w S L hs=>⟨_,by
  rw[oe c (hs.int hx) (hs.int hy)]
  simp only[binOp,gx,ne_eq,not_true_eq_false,if_false,cy,a7,fh d e];rfl,by simp [bf]⟩) k
theorem aO.mul {a b:Int}(hx:bG env x= .v (.int .i64 a))(hy:bG env y= .v (.int .i64 b))(d: -9223372036854775808<=a*b)(e:a*b<=9223372036854775807)
  (k:K (cP env dst (.v (.int .i64 (a*b)))) H D):aO P r N (.bin .mul T x y) dst env H D K:=
 aO.pure zz aF (λo c C f w S L hs=>⟨_,by
  rw[oe c (hs.int hx) (hs.int hy)]
  simp only[binOp,gx,ne_eq,not_true_eq_false,if_false,cy,a7,fh d e];rfl,by simp [bf]⟩) k
theorem aO.G5 {op:BinOp}{a b:Int}(hx:bG env x= .v (.int kd a))(hy:bG env y= .v (.int kd b))
  (h: ∀w:World,(binOp op T (.int kd a) (.int kd b)).run P w= .ok v w) (k:K (cP env dst (.v v)) H D):aO P r N (.bin op T x y) dst env H D K:=
 aO.pure zz aF (λo c C d w S L hs=>⟨v,by rw[oe c (hs.int hx) (hs.int hy),h];rfl,by simp [bf]⟩) k
theorem aO.quo {a:Nat}(hx:bG env x= .v (.int .i64 a))(hy:bG env y= .v (.int .i64 b))(d:(a:Int)<=9223372036854775807)(e:0<b)
  (k:K (cP env dst (.v (.int .i64 ((a/b:Nat):Int)))) H D):aO P r N (.bin .quo T x y) dst env H D K:=
 aO.G5 hx hy (λw=>by
  have c: ¬(b:Int)=0:=af
  have hd:(a/b:Nat)<=a:=Nat.div_le_self _ _
  simp only[binOp,hV,ne_eq,not_true_eq_false,if_false,c]
  rw[show (a:Int).tdiv (b:Int)=((a/b:Nat):Int)from rfl]
  generalize a/b=q at hd ⊢
  rw[fh af af]
  rfl) k
theorem aO.rem {a:Nat}(hx:bG env x= .v (.int kd a))(hy:bG env y= .v (.int kd b))(d:0<b)
  (k:K (cP env dst (.v (.int kd ((a%b:Nat):Int)))) H D):aO P r N (.bin .rem T x y) dst env H D K:=
 aO.G5 hx hy (λw=>by
  have c: ¬(b:Int)=0:=af
  simp only[binOp,hV,ne_eq,not_true_eq_false,if_false,c]
  rfl) k
theorem ph (a:Nat):cc 64 (a:Int)=cd 64 a:=aF
theorem aO.and {a:Nat}(hx:bG env x= .v (.int .i64 a))(hy:bG env y= .v (.int .i64 b))(c:a<9223372036854775808)(d:b<9223372036854775808)
  (k:K (cP env dst (.v (.int .i64 ((a &&& b:Nat):Int)))) H D):aO P r N (.bin .and T x y) dst env H D K:=
 aO.G5 hx hy (λw=>by
  have e:a &&& b<=a:=gR
  show ((hB (.int .i64 (e2.wrap ((cc 64 (a:Int) &&& cc 64 (b:Int)).toNat:Int))):Sem Value)).run P w=_
  rw[ph,ph,fv,b1,b1,b0 (show a<2^64 from af),b0 (show b<2^64 from af),fh af af]
  rfl) k
theorem aO.or {a:Nat}(hx:bG env x= .v (.int .i64 a))(hy:bG env y= .v (.int .i64 b))(c:a<2^63)(d:b<2^63)
  (k:K (cP env dst (.v (.int .i64 ((a ||| b:Nat):Int)))) H D):aO P r N (.bin .or T x y) dst env H D K:=
 aO.G5 hx hy (λw=>by
  have e:a ||| b<2^63:=Nat.or_lt_two_pow c d
  show ((hB (.int .i64 (e2.wrap ((cc 64 (a:Int) ||| cc 64 (b:Int)).toNat:Int))):Sem Value)).run P w=_
  rw[ph,ph,BitVec.toNat_or,b1,b1,b0 (show a<2^64 from af),b0 (show b<2^64 from af),fh af af]
  rfl) k
theorem aO.andNot {a:Nat}(hx:bG env x= .v (.int .i64 a))(hy:bG env y= .v (.int .i64 b))(d:a<9223372036854775808)
  (k:K (cP env dst (.v (.int .i64 (((cd 64 a &&& ~~~ cd 64 b).toNat:Nat):Int)))) H D):aO P r N (.bin .andNot T x y) dst env H D K:=
 aO.G5 hx hy (λw=>by
  have c:(cd 64 a &&& ~~~ cd 64 b).toNat<=a:=by
   rw[fv,b1,b0 (show a<2^64 from af)]
   exact gR
  show ((hB (.int .i64 (e2.wrap ((cc 64 (a:Int) &&& ~~~ cc 64 (b:Int)).toNat:Int))):Sem Value)).run P w=_
  rw[ph,ph]
  generalize (cd 64 a &&& ~~~ cd 64 b).toNat=q at c ⊢
  rw[fh af af]
  rfl) k
theorem aO.shl {a:Nat}(hx:bG env x= .v (.int .i64 a))(hy:bG env y= .v (.int .i64 b))(d:b<64)(e:a*2^b<9223372036854775808)
  (k:K (cP env dst (.v (.int .i64 ((a*2^b:Nat):Int)))) H D):aO P r N (.bin .shl T x y) dst env H D K:=
 aO.G5 hx hy (λw=>by
  have c: ¬(b:Int)<0:=af
  simp only[binOp,hX,c,if_false,hD,e8,b3 (hF d)]
  rw[show (a:Int)*2^b=((a*2^b:Nat):Int)from aF,fh af af]
  rfl) k
theorem aO.shr {a:Nat}(hx:bG env x= .v (.int .i64 a))(hy:bG env y= .v (.int .i64 b))(d:b<64)
  (k:K (cP env dst (.v (.int .i64 ((a/2^b:Nat):Int)))) H D):aO P r N (.bin .shr T x y) dst env H D K:=
 aO.G5 hx hy (λw=>by
  have c: ¬(b:Int)<0:=af
  simp only[binOp,hX,c,if_false,hD,e8,b3 (hF d)]
  rw[show (2:Int)^b=((2^b:Nat):Int)from aF,Int.fdiv_eq_ediv_of_nonneg _ (Int.natCast_nonneg _)]
  rfl) k
theorem aO.Ww {c:Operand}{b:Bool}(hc:bG env c= .v (.bool b))(f:b=true)(hx:bG env x=p)(e:p.bT=false)(k:K (cP env dst p) H D):
  aO P r N (.pick c x y) dst env H D K:=
 aO.pure e aF (λo a C g w S L hs=>⟨_,by
  cases a with
  |pick d=>simp [execOp,d,hs.int hc,f,asBool],hs.dM x hx e⟩) k
theorem aO.ae2 {c:Operand}{b:Bool}(hc:bG env c= .v (.bool b))(f:b=false)(hx:bG env y=p)(e:p.bT=false)(k:K (cP env dst p) H D):
  aO P r N (.pick c x y) dst env H D K:=
 aO.pure e aF (λo a C g w S L hs=>⟨_,by
  cases a with
  |pick d=>simp [execOp,d,hs.int hc,f,asBool],hs.dM y hx e⟩) k
theorem aO.toInt {e:IntKind}{src:TypeId}{n m:Int}(hx:bG env x= .v (.int e n))(hm:kd.wrap n=m)(k:K (cP env dst (.v (.int kd m))) H D):
  aO P r N (.toInt kd src T x) dst env H D K:=
 aO.pure zz aF (λo a C f w S L hs=>⟨.int kd m,by
  cases a with
  |toInt b c d=>simp [execOp,b,hs.int hx,convert,underlying,c,d,Conv.intToInt,hm],by simp [bf]⟩) k
theorem gZ.get : ∀{es:List (List AV)} {b o:Nat},gZ S kk es b o-> ∀{m:Nat} {e:List AV},es[m]? =some e->fY S e b (o+m*kk)/\e.length=kk
 |[],_,_,_,m,e,h=>by simp at h
 |l::es,b,o,a,m,e,h=>by
  simp only[gZ]at a;cases m with
  |zero=>simp at h;subst h;simpa using ⟨a.2.1,a.1⟩
  |succ m=>have:=a.2.2.get (m:=m) (e:=e) (by simpa using h);rw[show o+(m+1)*kk=o+kk+m*kk by rw[bs];omega];exact this
theorem mz {l:List Z}{e:Z}(h:l[m]? =some e):m<l.length:=(List.getElem?_eq_some_iff.1 h).1
theorem aO.qx {i:Operand}{n:Int}(m:Nat){e:List AV}(hx:bG env x= .sl kk es)(hi:bG env i= .v (.int kd n))(l:n=m)
  (he:es[m]? =some e) (k:K (cP env dst (.pi e)) H D):aO P r N (.qx T x i kk) dst env H D K:=
 aO.pure zz aF (λo a C q w S L hs=>by
  have f:=hs.dM x hx zz
  simp only[bf]at f
  rcases f with⟨_,s⟩|⟨b,off,cap,p,_,_,g⟩
  ·grind
  ·have c:=mz he
   refine⟨.pointer (some ⟨b,off+m*kk,none⟩),?_,by simp only[bf];exact⟨b,_,zz,(g.get he).1⟩⟩
   cases a with
   |qx d h j=>
    subst l
    simp [execOp,d,ey,hs.int hi,asIntOf,underlying,h,p,c,sizeOf,typeInfo,j,addr_add]) k
theorem aO.mK {i:Operand}{len:Nat}{n:Int}(m:Nat)(hx:bG env x= .pi cs)(hi:bG env i= .v (.int kd n))(h:n=m)(hm:m<len)
  (k:K (cP env dst (.pi (cs.drop (m*kk)))) H D):aO P r N (.mK T x i len kk) dst env H D K:=
 aO.pure zz aF (λo a C l w S L hs=>by
  have d:=hs.dM x hx zz
  simp only[bf]at d
  obtain⟨b,off,j,e⟩:=d
  refine⟨.pointer (some ⟨b,off+m*kk,none⟩),?_,by simp only[bf];exact⟨b,_,zz,e.drop _⟩⟩
  cases a with
  |mK c f p g=>
   subst h
   simp [execOp,c,ey,hs.int hi,asIntOf,underlying,f,j,bn,hm,sizeOf,typeInfo,g,addr_add]) k
theorem aO.ZO {i:Operand}{len:Nat}{n:Int}(m:Nat)(hx:bG env x= .po b off)(hi:bG env i= .v (.int kd n))(g:n=m)(hm:m<len)
  (k:K (cP env dst (.po b (off+m*kk))) H D):aO P r N (.mK T x i len kk) dst env H D K:=
 aO.pure zz aF (λo a C h w S L hs=>by
  have d:=hs.dM x hx zz
  simp only[bf]at d
  refine⟨.pointer (some ⟨b,off+m*kk,none⟩),?_,by simp [bf]⟩
  cases a with
  |mK c e j f=>
   subst g
   simp [execOp,c,ey,hs.int hi,asIntOf,underlying,e,d,bn,hm,sizeOf,typeInfo,f,addr_add]) k
theorem aO.acG {i:Operand}{len:Nat}{n:Int}(m:Nat)(hx:bG env x= .so b len cap)(hi:bG env i= .v (.int kd n))(g:n=m)(hm:m<len)
  (k:K (cP env dst (.po b (m*kk))) H D):aO P r N (.qx T x i kk) dst env H D K:=
 aO.pure zz aF (λo a C h w S L hs=>by
  have d:=hs.dM x hx zz
  simp only[bf]at d
  refine⟨.pointer (some ⟨b,m*kk,none⟩),?_,by simp [bf]⟩
  cases a with
  |qx c e f=>
   subst g
   simp [execOp,c,ey,hs.int hi,asIntOf,underlying,e,d,hm,sizeOf,typeInfo,f,addr_add]) k
theorem aO.rb {i:Operand}{s:ByteArray}{n:Int}(m:Nat){c:UInt8}(hx:bG env x= .v (.string s))(hi:bG env i= .v (.int kd n))(h:n=m)
  (hc:s.data.toList[m]? =some c) (k:K (cP env dst (.v (.int .u8 c.toNat))) H D):aO P r N (.rb T x i) dst env H D K:=
 aO.pure zz aF (λo a C j w S L hs=>⟨.int .u8 c.toNat,by
  cases a with
  |rb b g=>
   have d:s[m]? =some c:=by
    have e:m<s.size:=by
     have:=mz hc
     simpa using this
    have f:s.data.toList[m]? =some s[m]:=by
     rw[bt (by simpa using e)];rfl
    rw[f]at hc
    rw[getElem?_pos s m e]
    exact hc
   have l:0<=n:=af
   simp [execOp,b,Instr.index,hs.int hi,hs.int hx,asIntOf,underlying,g,h,d],by simp [bf]⟩) k
end
variable {q:AV}
def bU (cs:List AV)(off:Nat)(l:List AV):List AV:=cs.take off++l++cs.drop (off+l.length)
section
theorem Sat.at_ (hs:Sat C env H D a w S L){x:dp}(h:H[i]? =some (b,x)):Own C.A S w b x:=hs.heap (b,x) (b8 h)
theorem Sat.replace (hs:Sat C env H D a w S L){x y:dp}(h:H[i]? =some (b,x)){o:Obj}(N:w'.heap[b]? =some o)(hy:Holds S y o)
  (v:w'.heap.size=w.heap.size) (c: ∀g,g≠b->w'.heap[g]? =w.heap[g]?) (u:w'.os=w.os) (z:w'.tape=w.tape) (q:w'.output=w.output):
  Sat C env (H.set i (b,y)) D a w' S L:=by
 have d:=hs.at_ h;have K:i<H.length:=mz h;have m:((H.set i (b,y))++C.F).map (·.1)=(H++C.F).map (·.1):=by simp;congr 1;apply fb;intro n;rw[ff];have J:H[i]=(b,x):=bD;split;grind;rfl
 have M:=hs.nodup;have p:b∈(H++C.F).map (·.1):=bD;have j: ∀n e,n≠i->H[n]? =some e->e.1≠b:=by
  intro n e l he I;have s:(H.map (·.1)).Nodup:=bD;have B:(H.map (·.1))[n]? =some b:=by simp [he,I]
  have E:(H.map (·.1))[i]? =some b:=by simp [h]
  exact l ((fe (mz B) s).1 (B.trans E.symm))
 have G: ∀e∈C.F,e.1≠b:=bD;have f:iC C.A w w':=⟨u,z,q,eT v.symm,λk hk hA=>c k (λe=>hA (e▸d.base))⟩;refine
  {size:=hs.size,Fl:=hs.Fl,le:=hs.le,sin:=hs.sin.uw (λg hg=>c g (λe=>d.apart (e▸hg))),ux:=hs.ux,below:=hs.below.trans f,env:=?_,heap:=?_,frame:=?_,nodup:=bD,
   aT:=by rw[m];exact hs.aT,lL:=hs.lL}
 intro t;exact(hs.env t).world (λg e=>c g (λeb=>hs.aT t g e (eb▸p)));intro e he;obtain⟨n,l⟩:=List.mem_iff_getElem?.1 he;rw[ff]at l;split at l;simp at l;subst l;exact⟨d.base,d.apart,o,N,hy⟩;rename_i r;exact(hs.heap e (b8 l)).world (c e.1 (j n e (λe=>r e.symm) l));intro e he;exact(hs.frame e he).world (c e.1 (G e he))
theorem Own.row {B:Nat->Prop}{T:Nat}(h:Own B S w b (.cells T cs)): ∃l:List Value,w.heap[b]? =some (.cells l.toArray T (0,0))/\aS S cs l/\ ∀c∈l,c.oneCell'=true:=by obtain⟨o,e,l,rfl,d,a⟩:=h.holds;exact⟨l,e,d,a⟩
end
section
theorem sK {n:Option Nat}(k:Ao P T=some n)(a:gw n cs=some p)(g:aS S cs l){o:Nat}
  (h: ∀j c,l[j]? =some c->w.cell? ⟨b,o+j,none⟩=some c): ∃y,(loadVar T ⟨b,o,none⟩).run P w= .ok y w/\bf S p y:=by
 cases n with
 |none=>
  simp only[gw]at a;cases cs with
  |nil=>simp at a
  |cons x cs=>
   simp at a;subst a;simp only[aS]at g;obtain⟨c,s,rfl,q,r⟩:=g;refine⟨c,?_,q⟩;exact qQ k (l:=[c]) zz (by
    intro j d
    have:j=0:=by simp at d;exact d
    subst this
    simpa using h 0 c aF)
 |some m=>
  simp only[gw]at a;split at a;rename_i hm;cases a;have i:=b4 hm;have f:(l.take m).length=m:=(by rw[bI,g.length];exact b3 i);refine⟨.agg (l.take m).toArray,?_,by simp only[bf];exact⟨l.take m,zz,g.take m⟩⟩;exact qQ k (b:=b) (o:=o) (l:=l.take m) (by simpa using f) (by
   intro j d
   simp only[ga]at d
   have e:j<(l.take m).length:=af
   rw[bt e]
   exact h j _ (by
    have:=bt e
    rw[cB]at this
    rwa [zy d]at this))
  cases a
theorem aO.Xk {n:Option Nat}(hx:bG env x= .po b off)(A:H[i]? =some (b,.cells ty cs))(F:gw n (cs.drop off)=some p)
  (k:K (cP env dst p) H D):aO P r N (.load T x n) dst env H D K:=by
 intro o h hd s C a w S L B hs next Q g
 obtain⟨l,q,G,J⟩:=(hs.at_ A).row;have v:=hs.dM x hx zz;simp only[bf]at v;cases s with
 |load m u=>
  obtain⟨y,hy,f⟩:=sK u F (G.drop off) (λj c E=>by
   rw[cell_of_row w b _ _ _ _ q]
   simpa using E)
  obtain⟨I,t⟩:=hs.mP (λd e=>B▸hd d e) f.sU f;exact Oper.ck (.load m u) aF (y:=y) (w':=w) (by simp [execOp,m,eS,bn,v,hy]) (by rw[h];exact g _ _ _ _ _ _ _ k t (aI.Le.refl _))
theorem aS.Bm : ∀{es:List (List AV)} {l:List Value},aS S es.flatten l->(∀e∈es,e.length=kk)-> ∀{m:Nat} {e:List AV},es[m]? =some e->
  aS S e ((l.drop (m*kk)).take kk)
 |[],_,_,_,m,e,h=>by simp at h
 |x::es,l,c,hk,m,e,h=>by
  simp only[cD]at c
  obtain⟨c1,f,rfl,b,d⟩:=c.split
  have hx:x.length=kk:=hk x aF
  have a:c1.length=kk:=by rw[b.length,hx]
  cases m with
  |zero=>
   simp at h;subst h
   simp
   rw[List.take_append_of_le_length af,cR af]
   exact b
  |succ m=>
   have:=aS.Bm d (λe he=>hk e (by simp [he])) (m:=m) (e:=e) (by simpa using h)
   rw[show (m+1)*kk=c1.length+m*kk by rw[a,bs];omega,List.drop_append,List.drop_eq_nil_of_le af]
   simpa using this
theorem Own.PN {B:Nat->Prop}{T:Nat}(h:Own B S w b (.arr T kk cap es)): ∃cur:List Value,w.heap[b]? =some (.cells cur.toArray T (0,0))/\
  cap*kk<=cur.length/\es.length<=cap/\cap<=maxLen/\(∀e∈es,e.length=kk)/\aS S es.flatten (cur.take (es.length*kk))/\ ∀c∈cur.take (es.length*kk),c.oneCell'=true:=by obtain⟨o,e,cur,rfl,h⟩:=h.holds;exact⟨cur,e,h⟩
theorem EG {l:List Z}(h:m+k<=n):((l.take n).drop m).take k=(l.drop m).take k:=by rw[List.drop_take,List.take_take,b3 af]
theorem aO.afj {I:TypeId}{n:Option Nat}(m f:Nat){e:List AV}(hx:bG env x= .po b off)(J:H[i]? =some (b,.arr I kk cap es))
  (t:off=m*kk+f) (he:es[m]? =some e) (V:gw n (e.drop f)=some p) (k:K (cP env dst p) H D):aO P r N (.load T x n) dst env H D K:=by
 intro o l hd A C a w S L M hs next Q h
 obtain⟨cur,z,O,R,U,hk,W,Y⟩:=(hs.at_ J).PN;have G:=hs.dM x hx zz;simp only[bf]at G;have B:=mz he;have v:=W.Bm hk he;have s:m*kk+kk<=es.length*kk:=by rw[<-hG];exact cb kk B
 rw[EG s]at v;cases A with
 |load u F=>
  obtain⟨y,hy,g⟩:=sK F V (v.drop f) (o:=off) (λj c q=>by
   rw[cell_of_row w b _ _ _ _ z]
   rw[eu,cB]at q
   split at q
   ·rw[eu]at q
    rw[t,show m*kk+f+j=m*kk+(f+j)from af]
    simpa using q
   ·cases q)
  obtain⟨X,E⟩:=hs.mP (λd e=>M▸hd d e) g.sU g;exact Oper.ck (.load u F) aF (y:=y) (w':=w) (by simp [execOp,u,eS,bn,G,hy]) (by rw[l];exact h _ _ _ _ _ _ _ k E (aI.Le.refl _))
theorem aO.G6 {F:TypeId}(hx:bG env x= .po b off)(U:H[i]? =some (b,.cells F cs))(hy:bG env y=q)
  (hq:q.cS=true) (A:(ct q).length=n) (I:(ct q).all AV.dG=true) (V:off+n<=cs.length)
  (k:K (cP env dst .any) (H.set i (b,.cells F (bU cs off (ct q)))) D):aO P r N (.store T x y n) dst env H D K:=by
 intro o u hd G C a w S L Z hs next Q s
 obtain⟨l,m,M,R⟩:=(hs.at_ U).row;have Y:=hs.dM x hx zz;simp only[bf]at Y;have J:bf S q (a.eval y):=hs.dM y hy (by cases q<;>simp_all [AV.cS,AV.dG,AV.bT]);have f:=J.cells hq;have h:=f.va I;have v:(a.eval y).cells.toList.length=n:=by rw[f.length,A]
 have t:=run_storeCells_at P b off F (a.eval y).cells.toList 0 l.toArray w m (by simp only[fk,List.size_toArray];rw[M.length];omega) h;simp only[fk]at t;have E:=hs.replace U (y:=.cells F (bU cs off (ct q))) (w':=w.setRow b (l.take off++(a.eval y).cells.toList++l.drop (off+(a.eval y).cells.toList.length)).toArray)
  (setRow_heap w b _ _ _ _ m)
  (by
    refine⟨_,zz,?_,?_⟩
    ·unfold bU
     rw[v,A]
     exact((M.take off).append f).append (M.drop (off+n))
    ·intro c hc
     simp only[an]at hc
     rcases hc with (hc|hc)|hc
     ·exact R c (ds hc)
     ·exact h c hc
     ·exact R c (List.mem_of_mem_drop hc))
  (setRow_size _ _ _) (λg hg=>setRow_other w b g _ hg) zz zz zz
 obtain⟨L',B⟩:=E.mP (λd e=>Z▸hd d e) (p:=.any) (y:=undef) zz (by simp [bf]);generalize hW:w.setRow b (l.take off++(a.eval y).cells.toList++l.drop (off+(a.eval y).cells.toList.length)).toArray=W at t E B;cases G with
 |store z X=>rename_i j;refine Oper.wpIn_skip (.store z X) aF (w':=W) ?_ (by rw[u];exact s _ _ _ _ _ _ _ k B (aI.Le.refl _));have O:(a.eval y).cells.size=j.size:=bD;simp [execOp,z,Instr.storeAt,bn,Y,storeVar,sizeOf,typeInfo,X,O,t]
end
variable {H1:av}
def aI.ot (S:aI)(b:Nat)(l:List Value):aI:={S with cell:=λa o=>if a=b then l[o]? else S.cell a o}
theorem aI.iO (h: ¬S.has b):S.Le (S.ot b l):=
 ⟨λa o v e=>by
   have:a≠b:=λeb=>h (eb▸.inl ⟨o,v,e⟩)
   simp only[aI.ot,zj this];exact e,λ_ _ e=>e⟩
theorem aI.sX {a:Nat}(h:(S.ot b l).has a):S.has a\/a=b:=by by_cases e:a=b;exact .inr e;rcases h with⟨o,v,h⟩|⟨m,h⟩;simp only[aI.ot,zj e]at h;exact .inl (.inl ⟨o,v,h⟩);exact .inl (.inr ⟨m,h⟩)
theorem aI.FI {T:Nat}(h:S.In w)(a:w.heap[b]? =some (.cells l.toArray T (0,0))):(S.ot b l).In w:=
 ⟨λc o v e=>by
   simp only[aI.ot]at e
   split at e
   ·rename_i eb;subst eb
    rw[cell_of_row w _ _ _ _ _ a];simpa using e
   ·exact h.cell _ _ _ e,λc m e=>h.map c m e⟩
theorem og : ∀{cs:List AV} {l:List Value} {o:Nat},aS S cs l->(∀c∈l,c.oneCell'=true)->(∀j c,l[j]? =some c->S.cell b (o+j)=some c)->fY S cs b o
 |[],l,o,_,_,_=>by simp [fY]
 |a::cs,l,o,h,d,hc=>by simp only[aS]at h;obtain⟨c,i,rfl,e,f⟩:=h;simp only[fY];refine⟨⟨c,by simpa using hc 0 c aF,d c aF,e⟩,og f (λx hx=>d x (by simp [hx])) (λj x g=>?_)⟩;rw[show o+1+j=o+(j+1)from af];exact hc (j+1) x (by simpa using g)
theorem lT : ∀{es:List (List AV)} {l:List Value} {o:Nat},aS S es.flatten l->(∀e∈es,e.length=kk)->(∀c∈l,c.oneCell'=true)->
  (∀j c,l[j]? =some c->S.cell b (o+j)=some c)->gZ S kk es b o
 |[],l,o,_,_,_,_=>by simp [gZ]
 |e::es,l,o,h,hk,f,hc=>by
  simp only[cD]at h
  obtain⟨c1,k,rfl,g,i⟩:=h.split
  have he:e.length=kk:=hk e aF
  have d:c1.length=kk:=by rw[g.length,he]
  simp only[gZ]
  refine⟨he,og g (λx hx=>f x (by simp [hx])) (λj x a=>hc j x (by rw[ew (mz a)];exact a)),
   lT i (λx hx=>hk x (by simp [hx])) (λx hx=>f x (by simp [hx])) (λj x a=>?_)⟩
  rw[show o+kk+j=o+(kk+j)from af]
  exact hc (kk+j) x (by rw[et af];rw[d];simpa using a)
section
theorem Sat.drop (hs:Sat C env H D a w S L)(i:Nat):Sat C env (H.eraseIdx i) D a w S L:=by
 have c:(H.eraseIdx i).Sublist H:=eU H i;exact {hs with
  heap:=λe he=>hs.heap e (c.subset he)
  nodup:=((c.append (e9 C.F)).map _).nodup hs.nodup
  aT:=λt b e hm=>hs.aT t b e (((c.append (e9 C.F)).map _).subset hm)}
theorem Sat.qo (hs:Sat C env H D a w S L){x:dp}(h:H[i]? =some (b,x)): ∀e∈H.eraseIdx i++C.F,e.1≠b:=by
 intro e he j;have c:=hs.nodup;rw[ea]at c;have g:(H.map (·.1))[i]? =some b:=by simp [h]
 rcases an.1 he with he|he;obtain⟨n,k,d⟩:=List.mem_eraseIdx_iff_getElem?.1 he;have f:(H.map (·.1))[n]? =some b:=by simp [d,j]
 exact k ((fe (mz f) (fj.1 c).1).1 (f.trans g.symm))
 exact(fj.1 c).2.2 b (b8 g) e.1 (cx.2 ⟨e,he,zz⟩) j.symm
theorem Sat.freeze (hs:Sat C env H D a w S L){T:Nat}{x:dp}(h:H[i]? =some (b,x))(c:w.heap[b]? =some (.cells l.toArray T (0,0))):
  Sat C env (H.eraseIdx i) D a w (S.ot b l) L:=
 (hs.drop i).Zc (aI.iO (hs.at_ h).apart) (aI.FI hs.sin c)
   (λg hh=>(aI.sX hh).imp id (λh1=>by rw[h1];exact(hs.at_ h).base))
   (λe he hh=>by
     rcases aI.sX hh with h1|h1
     ·rcases an.1 he with he'|he'
      ·exact(hs.heap e ((eU H i).subset he')).apart h1
      ·exact(hs.frame e he').apart h1
     ·exact hs.qo h e he h1)
   (λt g e hh=>by
     rcases aI.sX hh with h1|h1
     ·exact hs.B2 e h1
     ·exact hs.aT t g e (by
       simp only[ea,an,cx]
       exact .inl ⟨(b,x),b8 h,h1.symm⟩))
end
def bO (env:Env)(H:av)(D:List Nat)(b:Env)(H':av)(d:List Nat):Prop:=
 ∀(C:rX) (a:Act) (w:World) (S:aI) (L:Nat->Option Nat),Sat C env H D a w S L-> ∃c e,S.Le c/\Sat C b H' d a w c e
theorem bO.refl (env:Env)(H:av)(D:List Nat):bO env H D env H D:=λ_ _ _ S L h=>⟨S,L,aI.Le.refl S,h⟩
theorem bO.trans {j l m:Env}{g i:av}{d e f:List Nat}(h:bO j H1 d l g e)(k:bO l g e m i f):bO j H1 d m i f:=
 λC a w S L hs=>by obtain⟨p,n,c,r⟩:=h C a w S L hs;obtain⟨q,o,b,s⟩:=k C a w p n r;exact⟨q,o,c.trans b,s⟩
section
theorem bO.jw {T:Nat}(t:Nat)(n:env t= .po b 0)(e:H[i]? =some (b,.cells T cs)):bO env H D (eC env t (.pi cs)) (H.eraseIdx i) D:=by intro C a w S L hs;obtain⟨l,d,m,h⟩:=(hs.at_ e).row;have g:=hs.sA n zz;simp at g;have f:=hs.freeze e d;refine⟨_,_,aI.iO (hs.at_ e).apart,f.rW zz ?_⟩;simp;exact⟨b,0,g,og (m.mono (aI.iO (hs.at_ e).apart) |> λx=>x) h (λj c k=>by simp [aI.ot,k])⟩
theorem bO.vv {T:Nat}(t:Nat)(p:env t= .so b es.length cap)(e:H[i]? =some (b,.arr T kk cap es)):bO env H D (eC env t (.sl kk es)) (H.eraseIdx i) D:=by intro C a w S L hs;obtain⟨cur,d,n,g,h,hk,o,m⟩:=(hs.at_ e).PN;have l:=hs.sA p zz;simp at l;have k:=hs.freeze e d;refine⟨_,_,aI.iO (hs.at_ e).apart,k.rW zz ?_⟩;simp;refine .inr ⟨b,0,cap,l,g,h,lT (aS.mono (aI.iO (hs.at_ e).apart) _ _ o) hk m (λj c f=>?_)⟩;rw[cB]at f;split at f;simp [aI.ot,f];cases f
theorem bO.Kb (i:Nat):bO env H D env (H.eraseIdx i) D:=λ_ _ _ _ _ hs=>⟨_,_,aI.Le.refl _,hs.drop i⟩
end
variable {env':Env}{H':av}
section
theorem Sat.mJ (hs:Sat C env H D a w S L){T:Nat}(j:env t= .aT T kk es):
  (es=[]/\Sat C (eC env t .nil) H D a w S (pX L t none))\/ ∃b cap,Sat C (eC env t (.so b es.length cap)) ((b,.arr T kk cap es)::H) D a w S (pX L t none):=by
 have f:=hs.env t;rw[j]at f;simp only[cH]at f;rcases f with⟨hy,he,c⟩|⟨g,cap,c,hy,i⟩
 exact .inl ⟨he,hs.rW zz (by simp only[bf];exact hy)⟩;refine .inr ⟨g,cap,?_⟩;have h:=hs.rW (p:=.so g es.length cap) zz (by simp only[bf];exact hy);refine {h with heap:=?_,nodup:=?_,aT:=?_};intro e he;rcases bk.1 he with rfl|he
 exact i;exact hs.heap e he
 simp only[cr,bx,gQ];exact⟨hs.aT t g c,hs.nodup⟩;intro u b e;simp only[cr,bx,bk,not_or];refine⟨λd=>?_,h.aT u b e⟩;simp only[pX]at e;split at e;cases e;rename_i k;subst d;exact k (hs.lL u t b e c)
theorem Sat.lC (hs:Sat C env H D a w S L){T:Nat}(f:env t= .so b es.length cap)(c:H[i]? =some (b,.arr T kk cap es)):
  Sat C (eC env t (.aT T kk es)) (H.eraseIdx i) D a w S (pX L t (some b)):=by have hy:=hs.sA f zz;simp at hy;refine(hs.drop i).oA ?_ ?_;simp;exact .inr ⟨b,cap,zz,hy,hs.at_ c⟩;intro g e;cases e;refine⟨λhm=>?_,λu _ e=>hs.aT u b e ?_⟩;obtain⟨e,he,d⟩:=cx.1 hm;exact hs.qo c e he d;grind
end
section
theorem bO.lC {T:Nat}(c:env t= .so b es.length cap)(a:H[i]? =some (b,.arr T kk cap es)):bO env H D (eC env t (.aT T kk es)) (H.eraseIdx i) D:=
 λ_ _ _ _ _ hs=>⟨_,_,aI.Le.refl _,hs.lC c a⟩
theorem eX (env:Env)(t:Nat)(p q:AV):eC (eC env t p) t q=eC env t q:=by funext i;by_cases h:i=t;subst h;simp [bN];simp [ij _ _ h]
theorem bO.gp {T:Nat}(j:env t= .aT T kk es):bO env H D (eC env t (.sl kk es)) H D:=by
 intro C a w S L hs;rcases hs.mJ j with⟨he,h⟩|⟨b,cap,h⟩
 subst he;have e:=h.sA (bN _ _ _) zz;simp only[bf]at e;have:=h.rW (p:=.sl kk []) zz (by simp only[bf];exact .inl ⟨⟨_,e⟩,zq⟩);rw[eX]at this;exact⟨_,_,aI.Le.refl _,this⟩;obtain⟨g,f,c,d⟩:=bO.vv (i:=0) t (bN _ _ _) zz C a w S _ h;rw[eX]at d;exact⟨g,f,c,d⟩
theorem bO.mM (T kk:Nat)(c:env t= .nil):bO env H D (eC env t (.aT T kk [])) H D:=by intro C a w S L hs;have b:=hs.sA c zz;simp only[bf]at b;exact⟨_,_,aI.Le.refl _,hs.oA (g:=none) (by simp only[cH];exact .inl ⟨b,zq,zq⟩) (λ_ e=>by cases e)⟩
theorem bO.ky (kk:Nat)(c:env t= .nil):bO env H D (eC env t (.sl kk [])) H D:=by intro C a w S L hs;have b:=hs.sA c zz;simp only[bf]at b;exact⟨_,_,aI.Le.refl _,hs.rW zz (by simp only[bf];exact .inl ⟨⟨_,b⟩,zq⟩)⟩
theorem aY.oj {c:List Nat}(h:bO env H D env' H' c)(k:aY P r N ls Q env' H' c):aY P r N ls Q env H D:=
 λarr is hm C a w S L f hs=>by obtain⟨e,d,_,b⟩:=h C a w S L hs;exact k arr is hm C a w e d f b
theorem aY.mJ {T:Nat}(f:env t= .aT T kk es)
  (d:es=[]->aY P r N ls Q (eC env t .nil) H D) (e: ∀b cap,aY P r N ls Q (eC env t (.so b es.length cap)) ((b,.arr T kk cap es)::H) D):aY P r N ls Q env H D:=
 λarr is hm C a w S L c hs=>by
  rcases hs.mJ f with⟨he,h⟩|⟨b,cap,h⟩
  ·exact d he arr is hm C a w S _ c h
  ·exact e b cap arr is hm C a w S _ c h
theorem aO.oj {l:kK} 
  (h:aO P r N l dst env H D (λenv' H' q=> ∃b d c,bO env' H' q b d c/\K b d c)):aO P r N l dst env H D K:=
 λo f hd n C a w S L u hs next Q e=>h o f hd n C a w S L u hs next Q (λenv' H' q y w' t s hk p m=>by
  obtain⟨b,d,c,he,hk⟩:=hk
  obtain⟨k,j,g,i⟩:=he C _ w' t s p
  exact e b d c y w' k j hk i (m.trans g))
theorem aO.mono {l:kK}{j:Env->av->List Nat->Prop}(h:aO P r N l dst env H D K)(hk: ∀e h d,K e h d->j e h d):aO P r N l dst env H D j:=
 λo c hd g C a w S L q hs next Q b=>h o c hd g C a w S L q hs next Q (λenv' H' m y w' p n k i f=>b env' H' m y w' p n (hk _ _ _ k) i f)
end
section
theorem aO.box {T:Nat}(hx:bG env x=q)(t:q.cS=true)(j:(ct q).all AV.dG=true)
  (k: ∀b,K (eC env d (.po b 0)) ((b,.cells T (ct q))::H) D):aO P r N (.box T x) (some d) env H D K:=by
 intro o f hd i C a w S L s hs next Q e
 have l:bf S q (a.eval x):=hs.dM x hx (by cases q<;>simp_all [AV.cS,AV.dG,AV.bT]);have c:=l.cells t;have g:=c.va j;have m:=hs.alloc (x:=.cells T (ct q)) (o:=.cells (a.eval x).cells T (0,0)) ⟨(a.eval x).cells.toList,aF,c,g⟩;have n:=m.put (az (s▸hd d zz) hs.size) (p:=.po w.heap.size 0) (y:=.pointer (some ⟨w.heap.size,0,none⟩)) zz (by simp [bf]);cases i with
 |box h=>refine Oper.ck (.box h) aF ?_ (by rw[f];exact e _ _ _ _ _ _ _ (k _) n (aI.Le.refl _));simp [execOp,h,Instr.box,newVar,newRow]
theorem aO.alloc {T:Nat}{z:List Value}(s:z.all e3=true)(k: ∀b,K (eC env d (.po b 0)) ((b,.cells T (z.map .v))::H) D):aO P r N (.alloc T z) (some d) env H D K:=by
 intro o f hd i C a w S L q hs next Q e
 have j:=hs.alloc (x:=.cells T (z.map .v)) ⟨z,zz,sM S z,λc hc=>de.1 s c hc⟩;have l:=j.put (az (q▸hd d zz) hs.size) (p:=.po w.heap.size 0) (y:=.pointer (some ⟨w.heap.size,0,none⟩)) zz (by simp [bf]);cases i with
 |alloc g h=>obtain⟨v,m,n⟩:=kN (w:=w) h;refine Oper.ck (.alloc g h) aF ?_ (by rw[f];exact e _ _ _ _ _ _ _ (k _) l (aI.Le.refl _));simp [execOp,g,Instr.alloc,newVar,newRow,m,n]
theorem aO.agu {T:Nat}(hx:bG env x=q)(c:q.cS=true)(a:(ct q).all AV.dG=true)
  (k:K (eC env d (.pi (ct q))) H D):aO P r N (.box T x) (some d) env H D K:=
 aO.oj (aO.box hx c a (λb=>⟨_,_,_,bO.jw (i:=0) d (bN _ _ _) zz,by rw[eX];exact k⟩))
def chunk (k:Nat):Nat->List AV->List (List AV)
 |0,_=>[]
 |n+1,l=>l.take k::chunk k n (l.drop k)
theorem wh : ∀{n:Nat} {l:List AV},l.length=n*k->(chunk k n l).flatten=l
 |0,l,h=>by simp at h;subst h;rfl
 |n+1,l,h=>by simp only[chunk,cD];rw[wh (by rw[eP,h,bs];omega),List.take_append_drop]
theorem gC : ∀{n:Nat} {l:List AV},(chunk k n l).length=n
 |0,_=>rfl
 |n+1,l=>by simp [chunk,gC]
theorem CK : ∀{n:Nat} {l:List AV},l.length=n*k-> ∀e∈chunk k n l,e.length=k
 |0,_,_,e,h=>by simp [chunk]at h
 |n+1,l,hl,e,h=>by
  simp only[chunk,bk]at h;rcases h with rfl|h
  rw[bI,hl,bs];omega;exact CK (by rw[eP,hl,bs];omega) e h
theorem Ea : ∀{b:List (Nat×Nat×AV)} {r:List AV},iK cs b=some r->r.length=cs.length:=by
 have a: ∀(l:List AV) (cs:List AV) (off:Nat),(qX cs off l).length=cs.length:=by
  intro l;induction l with
  |nil=>intro cs off;rfl
  |cons c l d=>intro cs off;simp only[qX];rw[d];simp
 intro b;induction b generalizing cs with
 |nil=>intro r e;simp only[iK,a8]at e;subst e;rfl
 |cons q b d=>obtain⟨off,size,p⟩:=q;intro r e;simp only[iK]at e;split at e;rw[d e,a];cases e
def sA (n:Nat)(z:List AV):List AV:=(bl n z).flatten
theorem A7 (z:Array Value)(a:z.size≠0): ∀n:Nat,((gm (n*z.size)).map (λi=>z[i%z.size]!)).toList=(bl n z.toList).flatten:=by
 intro n;rw[eM,Array.toList_range];induction n with
 |zero=>simp
 |succ n b=>rw[hG,List.range_add,ea,b,List.replicate_succ',ec];congr 1;simp;apply fb;intro i;simp;by_cases hi:i<z.size;simp [hi,b0 hi];simp [hi]
end
section
theorem kL {E:TypeId}(h:zeroOf P E=some l): ∃i v,P.info? E=some i/\i.zero=some v/\v.cells=l.toArray:=by
 unfold zeroOf at h;cases hi:P.info? E with
 |none=>grind
 |some i=>rw[hi]at h;simp at h;obtain⟨v,a,rfl⟩:=h;exact⟨i,v,zz,a,aF⟩
theorem jQ (S:aI)(z:List Value): ∀n,aS S (bl n (z.map .v)).flatten (bl n z).flatten
 |0=>by simp [aS]
 |n+1=>by simp only[List.replicate_succ,cD];exact(sM S z).append (jQ S z n)
theorem aO.jM {T E:Nat}{ps:List (Nat×Operand)}{z:List Value}{q:List AV}(U:iK (sA n (z.map .v)) (ps.map λp=>(p.1*kk,kk,bG env p.2))=some q)
  (hq:q.all AV.dG=true) (k:K (eC env d (.aT E kk (chunk kk n q))) H D):aO P r N (.jM T n ps E kk z) (some d) env H D K:=by
 intro o u hd M C a w S L hN hs next Q g
 have O:=oq U;cases M with
 |jM m G J hz b=>
  rename_i ps j;simp only[not_or]at b;obtain⟨h0,a1,Z⟩:=b;have F:z.length=j.size:=e7.1 Z;obtain⟨v,X,Y⟩:=kN (w:=w) hz;have a0:v.cells.size=j.size:=bD;obtain⟨es,e,f⟩:=yw (place:=λi=>some (i*j.size,j.size)) _ _ _ ((gm (n*j.size)).map (λi=>v.cells[i%v.cells.size]!)) q
   (vf ps.toList hs (λp hp=>O (p.1*j.size,j.size,bG env p.2) (cx.2 ⟨p,hp,zz⟩)))
   (by
     rw[<-a0,A7 v.cells af,Y]
     exact jQ S z n) U
  have A:=f.va hq;have s:q.length=n*j.size:=by rw[Ea U];simp [sA,e4,F]
  have I:es.toList.length=n*j.size:=by rw[f.length,s]
  have V:=hs.alloc (x:=.arr E j.size n (chunk j.size n q)) (o:=.cells es E (0,0))
   ⟨es.toList,aF,eT I.symm,by rw[gC];exact b9 _,by
     have:n<=n*j.size:=Nat.le_mul_of_pos_right n af
     unfold maxLen;omega,CK s,by rw[wh s,gC,cR af];exact f,λc hc=>A c (ds hc)⟩
  have W:=V.put (az (hN▸hd d zz) hs.size) (p:=.so w.heap.size (chunk j.size n q).length n) (y:=.slice (some ⟨w.heap.size,0,none⟩) n n) zz (by simp only[bf,gC]);have B:=W.lC (i:=0) (t:=d) (bN _ _ _) zz;rw[eX]at B;refine Oper.ck (.jM m G J hz bD) aF (y:=.slice (some ⟨w.heap.size,0,none⟩) n n) (w':=w.alloc (.cells es E (0,0))) ?_
   (by rw[u];exact g _ _ _ _ _ _ _ k B (aI.Le.refl _))
  have a2: ¬(2^24<n*j.size):=af;by_cases l:n*j.size=0;have hn:n=0:=by rcases Nat.mul_eq_zero.1 l with h|h;exact h;exact absurd h h0
  subst hn;have e0:gm 0= #[]:=rfl;simp only[hH,e0,fD,hE]at e;simp [execOp,m,fy,underlying,G,sizeOf,typeInfo,J,e,newRow,e0]
  have R: ¬(n=0\/j.size=0):=by
   intro h;rcases h with h|h
   subst h;simp at l;exact h0 h
  simp only[not_or]at R;simp [execOp,m,fy,underlying,G,sizeOf,typeInfo,J,X,e,newRow];rw[zj af,zj l]
end
variable {ys:List (List AV)}
section
theorem pt (t f e:TypeId)(i:TypeInfo)(d:P.underlying t=some (.slice e))(hi:P.info? e=some i)(v:Value)(a:v= .slice none 0 0\/ ∃g n cap,v= .slice (some g) n cap/\n<=cap)(b:Option Addr):
  (cA #[t,t] f #[v,.slice b 0 0]).run P w= .ok v w:=by
 have hl: ∀(x:Addr),(loadCells x 0).run P w= .ok #[] w:=λx=>by simpa using run_loadCells_list w x [] aF
 rcases a with rfl|⟨g,n,cap,rfl,c⟩;cases b<;>simp [cA,run_underlying d,sizeOf,typeInfo,hi,e5,er,hl];cases b<;>simp [cA,run_underlying d,sizeOf,typeInfo,hi,e5,er,c,storeCells,hl]
theorem qb (z:Array Value)(a:z.size≠0)(n:Nat):(madeCells z (n*z.size)).toList=(bl n z.toList).flatten:=A7 z a n
theorem aO.ji {T E bytes:Nat}{l c:Operand}{W kc:IntKind}{z:List Value}(n:Nat){Y X:Int}(hl:bG env l= .v (.int W Y))(hc:bG env c= .v (.int kc X))(F:Y=n)(B:X=n)
  (hb:bytes*n<=281474976710656) (Z:n<=9223372036854775807) (M:z.all e3=true)
  (k: ∀b,K (eC env d (.so b (bl n (z.map AV.v)).length n)) ((b,.arr E kk n (bl n (z.map AV.v)))::H) D):aO P r N (.ji T l c E kk bytes z) (some d) env H D K:=by
 intro o h hd A C a w S L hN hs next Q g
 cases A with
 |ji q R U V f=>
  rename_i j;simp only[not_or]at f;obtain⟨h0,O⟩:=f;have s:z.length=j.size:=e7.1 O;obtain⟨i,v,hi,u,hv⟩:=kL V;have t:i=j:=bD;subst t;have J:v.cells.size=i.size:=bD;have eD:=run_make w T E i v R U u W kc (n:Int) (n:Int) af af bD af;simp at eD;have e:(madeCells v.cells (n*i.size)).toList=(bl n z).flatten:=by rw[<-J,qb v.cells af,hv]
  have m:(madeCells v.cells (n*i.size)).toList.length=n*i.size:=by rw[e];simp [e4,s]
  have G:=hs.alloc (x:=.arr E i.size n (bl n (z.map AV.v))) (o:=.cells (madeCells v.cells (n*i.size)) E (0,0))
   ⟨(madeCells v.cells (n*i.size)).toList,bD,eT m.symm,bD,by unfold maxLen;omega,bD,by
     rw[List.length_replicate,cR af,e]
     exact jQ S z n,by
     intro x hx
     replace hx:=ds hx
     rw[e]at hx
     simp at hx
     obtain⟨l,⟨_,rfl⟩,hx⟩:=hx
     exact de.1 M x hx⟩
  have I:=G.put (az (hN▸hd d zz) hs.size) (p:=.so w.heap.size (bl n (z.map AV.v)).length n) (y:=.slice (some ⟨w.heap.size,0,none⟩) n n) zz (by simp [bf]);subst F B;refine Oper.ck (.ji q R U V bD) aF (y:=.slice (some ⟨w.heap.size,0,none⟩) n n) (w':=w.alloc (.cells (madeCells v.cells (n*i.size)) E (0,0))) ?_
   (by rw[h];exact g _ _ _ _ _ _ _ (k _) I (aI.Le.refl _))
  simp [execOp,q,hs.int hl,hs.int hc,eD]
theorem aO.af7 {T:Nat}(n:env t= .aT T kk es)(k:K (eC (eC env t .any) d (.aT T kk es)) H D):aO P r N (.tJ (.tmp t)) (some d) env H D K:=by
 intro o f hd g C a w S L m hs next Q c
 have i:=hs.env t;rw[n]at i;have j:=hs.rW (t:=t) (p:=.any) zz (by simp [bf]);have l:=j.sC (az (m▸hd d zz) hs.size) i (by
  intro b e
  refine⟨hs.aT t b e,λu _ h=>?_⟩
  exact(vB h).1 (hs.lL u t b (vB h).2 e))
 exact Oper.ck g aF (Ib g) (by rw[f];exact c _ _ _ _ _ _ _ k l (aI.Le.refl _))
theorem CA (f:S.In w){y:Value}(r:bf S (.sl kk ys) y):
  ((∃c,y= .slice c 0 0)/\ys=[])\/ ∃c cap,∃news:List Value,y= .slice (some c) ys.length cap/\news.length=ys.length*kk/\aS S ys.flatten news/\(∀j u,news[j]? =some u->w.cell? (c.add j)=some u)/\(∀u∈news,u.oneCell'=true)/\(∀e∈ys,e.length=kk):=by
 simp only[bf]at r;rcases r with⟨z,A⟩|⟨b,off,cap,t,_,_,d⟩
 grind;right;have key: ∀(ys:List (List AV)) (o:Nat),gZ S kk ys b o-> ∃news:List Value,news.length=ys.length*kk/\aS S ys.flatten news/\(∀j u,news[j]? =some u->w.cell? ⟨b,o+j,none⟩=some u)/\(∀u∈news,u.oneCell'=true)/\(∀e∈ys,e.length=kk):=by
  intro ys;induction ys with
  |nil=>intro o _;exact⟨[],aF,by simp [aS],aF,aF,aF⟩
  |cons e ys v=>
   intro o h;simp only[gZ]at h;obtain⟨he,s,d⟩:=h;obtain⟨l,q,i,hi⟩:=s.cells e.length (b9 _);rw[List.take_length]at q;obtain⟨news,n1,m,n,n4,p⟩:=v (o+kk) d;have k:l.length=kk:=(by rw[q.length,he]);refine⟨l++news,by simp [k,n1,bs];omega,by simpa using q.append m,?_,?_,?_⟩;intro j u a;by_cases g:j<l.length;rw[ew g]at a;have:=hi j af;rw[a]at this;exact f.cell _ _ _ this;rw[et af]at a;have:=n _ _ a;rwa [show o+kk+(j-l.length)=o+j from af]at this;intro u hu;rcases an.1 hu with hu|hu
   exact i u hu;exact n4 u hu
   intro x hx;rcases bk.1 hx with rfl|hx
   exact he;exact p x hx
 obtain⟨news,n1,m,n,n4,p⟩:=key ys off d;exact⟨⟨b,off,none⟩,cap,news,t,n1,m,λj u a=>by rw[addr_add];exact n j u a,n4,p⟩
end
section
theorem Own.Sw {B:Nat->Prop}{g:Nat}{cur:List Value}(h:B g)(i: ¬S.has g)(a:w.heap[g]? =some (.cells cur.toArray E (0,0)))(b:cap*kk<=cur.length)
 (d:es.length<=cap) (f:cap<=maxLen) (h4: ∀e∈es,e.length=kk) {xs:List Value} (hx:cur.take (es.length*kk)=xs) (j:aS S es.flatten xs) (k: ∀c∈xs,c.oneCell'=true):
 Own B S w g (.arr E kk cap es):=⟨h,i,_,a,cur,zz,b,d,f,h4,bD,bD⟩
def Ru (kk:Nat)(p:AV)(ys:List (List AV)):Prop:=p= .sl kk ys\/(p= .nil/\ys=[])
theorem Ru.sA (h:Ru kk p ys)(hs:Sat C env H D a w S L)(hy:bG env y=p):bf S (.sl kk ys) (a.eval y):=by rcases h with rfl|⟨rfl,rfl⟩;exact hs.dM y hy zz;have:=hs.dM y hy zz;simp only[bf]at this ⊢;exact .inl ⟨⟨_,this⟩,zq⟩
theorem Sat.appendCore {i:TypeInfo}(hs:Sat C env H D a w S L)(ht:env t= .aT E i.size es)(B:d<a.tmps.size)(a4:v.cells.size=i.size)
  {news:List Value} (r:news.length=ys.length*i.size) (M:aS S ys.flatten news) (K: ∀u∈news,u.oneCell'=true) (O: ∀e∈ys,e.length=i.size)
  (hn:es.length+ys.length<=9223372036854775807) {run:Sem Value}
  (r0:a.tmps.getD t undef= .slice none 0 0->ys.length=0->run.run P w= .ok (.slice none 0 0) w)
  (r1:a.tmps.getD t undef= .slice none 0 0->es=[]->0<ys.length->run.run P w= .ok (.slice (some ⟨w.heap.size,0,none⟩) ys.length (grownCap w ys.length 0 E)) (w.drew.alloc (.cells (news.toArray++b7 v.cells (grownCap w ys.length 0 E-ys.length)) E)))
  (r2: ∀(g cap:Nat) (cur:List Value),a.tmps.getD t undef= .slice (some ⟨g,0,none⟩) es.length cap->w.heap[g]? =some (.cells cur.toArray E (0,0))->cap*i.size<=cur.length->es.length+ys.length<=cap->es.length*i.size+news.length<=cur.length->
    run.run P w= .ok (.slice (some ⟨g,0,none⟩) (es.length+ys.length) cap) (w.setRow g (cur.take (es.length*i.size)++news++cur.drop (es.length*i.size+news.length)).toArray))
  (r3: ∀(g cap:Nat) (cur:List Value),a.tmps.getD t undef= .slice (some ⟨g,0,none⟩) es.length cap->es.length<=cap->cap<es.length+ys.length->(cur.take (es.length*i.size)).length=es.length*i.size->
    (∀j u,(cur.take (es.length*i.size))[j]? =some u->w.cell? ((⟨g,0,none⟩:Addr).add j)=some u)->
    run.run P w= .ok (.slice (some ⟨w.heap.size,0,none⟩) (es.length+ys.length) (grownCap w (es.length+ys.length) cap E))
     (w.drew.alloc (.cells ((cur.take (es.length*i.size)).toArray++news.toArray++b7 v.cells (grownCap w (es.length+ys.length) cap E-(es.length+ys.length))) E))):
  ∃v' w' z,run.run P w= .ok v' w'/\Sat C (eC (eC env t .any) d (.aT E i.size (es++ys))) H D (a.put (some d) v') w' S z:=by
 have s:=hs.env t;rw[ht]at s;have U:=hs.rW (t:=t) (p:=.any) zz (by simp [bf]);simp only[cH]at s;have f: ∀h,es.length+ys.length<=grownCap w (es.length+ys.length) h E/\grownCap w (es.length+ys.length) h E<=maxLen:=
  λh=>⟨grownCap_ge _ _ _ _,grownCap_le_maxLen _ _ _ _ (by unfold maxLen;omega)⟩
 have l: ∀(xs:List Value) (h:Nat),xs.length=es.length*i.size->aS S es.flatten xs->(∀e∈es,e.length=i.size)->(∀c∈xs,c.oneCell'=true)->
   ∃z,Sat C (eC (eC env t .any) d (.aT E i.size (es++ys))) H D (a.put (some d) (.slice (some ⟨w.heap.size,0,none⟩) (es.length+ys.length) (grownCap w (es.length+ys.length) h E)))
    (w.drew.alloc (.cells (xs.toArray++news.toArray++b7 v.cells (grownCap w (es.length+ys.length) h E-(es.length+ys.length))) E)) S z:=by
  intro xs h n a2 Y a1
  have X:Sat C (eC env t .any) H D a w.drew S (pX L t none):=U.world ⟨zz,zz,zz,b9 _,λ_ _ _=>rfl⟩ (λ_ _=>rfl) (λ_ _=>rfl) (λ_ _ _=>rfl)
  have A:=X.grow (w':=w.drew.alloc (.cells (xs.toArray++news.toArray++b7 v.cells (grownCap w (es.length+ys.length) h E-(es.length+ys.length))) E))
   ((fu _ _).alloc (b9 _) _)
  refine⟨_,A.sC (g:=some w.heap.size) B ?_ ?_⟩
  ·simp
   refine .inr ⟨w.heap.size,grownCap w (es.length+ys.length) h E,zz,by rw[ap],?_⟩
   refine Own.Sw (cur:=xs++news++(b7 v.cells (grownCap w (es.length+ys.length) h E-(es.length+ys.length))).toList) (hs.fresh (b9 _)) (λhh=>absurd (hs.sin.lt hh) (dk _))
    ((heap_alloc_new w.drew _).trans aF) ?_ (by rw[ap];exact(f h).1) (f h).2 (by
      intro e he
      rcases an.1 he with he|he
      ·exact Y e he
      ·exact O e he) ?_ (by rw[ec];exact a2.append M) (by
      intro c hc
      rcases an.1 hc with hc|hc
      ·exact a1 c hc
      ·exact K c hc)
   ·have:=(f h).1
    refine eT (Eq.symm ?_)
    simp only[ap,n,r,Array.length_toList,size_zeroCells,a4,<-bs]
    congr 1;omega
   ·rw[ap,bs,<-n,<-r,<-ap]
    exact ho
  ·intro b e
   cases e
   refine⟨λhm=>absurd (hs.tN hm) (dk _),λu _ o=>?_⟩
   simp only[pX]at o
   split at o
   ·cases o
   ·exact absurd (hs.K9 o) (dk _)
 rcases s with⟨s,rfl,I⟩|⟨g,cap,I,s,N⟩;by_cases hm:ys.length=0;have a3:ys=[]:=dn hm;subst a3;exact⟨.slice none 0 0,w,_,r0 s hm,U.sC (d:=d) (y:=.slice none 0 0) (g:=none) B (by simp [cH]) (λ_ e=>by cases e)⟩;obtain⟨z,q⟩:=l [] 0 aF (by simp [aS]) aF aF;simp only[gM,fr]at q;exact⟨_,_,z,by rw[r1 s zz af];simp,q⟩;obtain⟨cur,m,Q,V,h3,h4,h5,h6⟩:=N.PN;by_cases k:es.length+ys.length<=cap;have J:es.length*i.size+news.length<=cur.length:=(by rw[r,<-bs];exact ej (cb _ k) Q);have T: ∀b,b≠g->(w.setRow g ((cur.take (es.length*i.size)++news++cur.drop (es.length*i.size+news.length)).toArray)).heap[b]? =w.heap[b]? :=λb W=>setRow_other w g b _ W;have Z: ∀b,b∈(H++C.F).map (·.1)->b≠g:=λb G e=>hs.aT t g I (e▸G);have A:=U.world (w':=w.setRow g ((cur.take (es.length*i.size)++news++cur.drop (es.length*i.size+news.length)).toArray))
  ⟨zz,zz,zz,aF,λb G hA=>T b (λe=>hA (e▸N.base))⟩ (λb G=>T b (λe=>N.apart (e▸G))) (λb G=>T b (Z b G)) (λu b o=>T b (λe=>by
    exact(vB o).1 (hs.lL u t g (e▸(vB o).2) I)))
 refine⟨_,_,_,r2 g cap cur s m Q k J,A.sC (d:=d) (g:=some g) B ?_ ?_⟩;simp only[cH];refine .inr ⟨g,cap,zz,by rw[ap],?_⟩;refine Own.Sw N.base N.apart (setRow_heap w g _ _ E (0,0) m) ?_ (by rw[ap];exact k) h3 (by
  intro e he
  rcases an.1 he with he|he
  ·exact h4 e he
  ·exact O e he) (xs:=cur.take (es.length*i.size)++news) ?_ (by rw[ec];exact h5.append M) (by
  intro x hx
  rcases an.1 hx with hx|hx
  ·exact h6 x hx
  ·exact K x hx)
 simp only[ap,bI,eP];omega;have a5:es.length*i.size<=cur.length:=ej (cb _ V) Q;have a0:(cur.take (es.length*i.size)).length=es.length*i.size:=(by rw[bI];omega);have hl:(cur.take (es.length*i.size)++news).length=(es++ys).length*i.size:=(by rw[ap,a0,r,ap,bs]);rw[<-hl];exact ho
 intro b e;cases e;refine⟨hs.aT t g I,λu _ o=>?_⟩;exact(vB o).1 (hs.lL u t g (vB o).2 I)
 have n:(cur.take (es.length*i.size)).length=es.length*i.size:=(by rw[bI];exact b3 (ej (cb _ V) Q));have holds: ∀j u,(cur.take (es.length*i.size))[j]? =some u->w.cell? ((⟨g,0,none⟩:Addr).add j)=some u:=(by intro j u R;rw[addr_add,fr,cell_of_row w g j _ _ _ m];rw[cB]at R;split at R;simpa using R;cases R);obtain⟨z,q⟩:=l (cur.take (es.length*i.size)) cap n h5 h4 h6;exact⟨_,_,z,r3 g cap cur s V af n holds,q⟩
theorem aO.append {T ty E bytes:Nat}{z:List Value}(ht:env t= .aT E kk es)(hy:Ru kk (bG env y) ys)
  (hb:(es.length+ys.length)*bytes<=140737488355328) (U:es.length+ys.length<=9223372036854775807)
  (k:K (eC (eC env t .any) d (.aT E kk (es++ys))) H D):aO P r N (.append T ty (.tmp t) y E kk bytes z) (some d) env H D K:=by
 intro o u hd R C a w S L hN hs next Q p
 have F:d<a.tmps.size:=az (hN▸hd d zz) hs.size;have Y:=hy.sA hs zz;cases R with
 |append B m hj hz f=>
  rename_i j;simp at f;obtain⟨a0,a2⟩:=f;obtain⟨i,v,hi,x,a1⟩:=kL hz;have O:i=j:=bD;subst O;have I:v.cells.size=i.size:=bD;have s:(es.length+ys.length)*i.bytes<=140737488355328:=hb
  have fin: ∃Z w' L',(cA #[T,T] o.type #[a.tmps.getD t undef,a.eval y]).run P w= .ok Z w'/\Sat C (eC (eC env t .any) d (.aT E i.size (es++ys))) H D (a.put (some d) Z) w' S L':=by
   rcases CA hs.sin Y with⟨⟨q,G⟩,rfl⟩|⟨q,c,news,G,b,V,n,A,X⟩<;>rw[G]
   ·exact hs.appendCore ht F I (news:=[]) aF (by simp [aS]) aF aF U (λe _=>by rw[e];exact pt T o.type E i m hi _ (.inl zz) q) (λ_ _ h=>absurd h aF)
     (λg cap cur e l _ h _=>by simpa [e,setRow_self w g _ E (0,0) l]using pt T o.type E i m hi (w:=w) (.slice (some ⟨g,0,none⟩) es.length cap) (.inr ⟨_,_,_,zz,h⟩) q) (λg cap cur e J M=>absurd M (Nat.not_lt.2 J))
   exact hs.appendCore ht F I b V A X U (λe hm=>by
     rw[hm,hH]at b;rw[e,hm,dn b]at *;simp [cA,run_underlying m,sizeOf,typeInfo,hi,e5,er,loadCells,loadCellsFrom]) (λe he h=>by
     subst he;simp only[gM,fr]at s U;rw[e,run_append_nil (P:=P) w T o.type E i v m hi x q ys.length c news b n af af af])
    (λg cap cur e l _ J M=>by rw[e];exact run_append_room (P:=P) w T o.type E i m hi g es.length cap cur.toArray l q ys.length c news b n A J (by simpa using M))
    (λg cap cur e _ h hl hc=>by rw[e];exact run_append_grow (P:=P) w T o.type E i v m hi x ⟨g,0,none⟩ es.length cap _ hl hc q ys.length c news b n af af (growslice_fits af s))
  obtain⟨Z,w',L',eD,W⟩:=fin;refine Oper.ck (.append B m hj hz bD) aF ?_ (by rw[u];exact p _ _ _ _ _ _ _ k W (aI.Le.refl _));have e1:a.eval (.tmp t)=a.tmps.getD t undef:=rfl;simp only[execOp,B,resolve,invoke,builtin,c7,cy,a7,fD,bx,hE,e1,eD]
end
variable {ps qs:List AV}{res:AV}{f:FuncId}
def uc (P:Program)(f:FuncId):Prop:= ∃fn,P.funcs[f]? =some fn/\(fn.name== "runtime.NumGoroutine")=false/\fn.body.isNone=false
def Ev (P:Program)(f:FuncId)(args:List AV)(res:AV):Prop:=
 uc P f/\ ∀(S:aI) (w:World) (c:List Value),te S w->S.In w->aS S args c->
  Calls P f c.toArray w (λe w'=> ∃v a g,e= .returned v/\S.Le a/\a.In w'/\(∀b,a.has b->S.has b\/w.heap.size<=b)/\ek w.heap.size w w'/\cH (λb=>w.heap.size<=b) a w' g res v)
def mg (ps qs:List AV):Prop:= ∀(S:aI) (a:List Value),aS S ps a->aS S qs a
theorem mg.refl (ps:List AV):mg ps ps:=λ_ _ h=>h
theorem mg.cons (h:mg ps qs):mg (p::ps) (p::qs):=by intro S g b;simp only[aS]at b ⊢;obtain⟨c,a,e,d,f⟩:=b;exact⟨c,a,e,d,h S a f⟩
theorem mg.ky (h:mg ps qs):mg (.nil::ps) (.sl k []::qs):=by intro S g b;simp only[aS,bf]at b ⊢;obtain⟨c,a,e,d,f⟩:=b;exact⟨c,a,e,.inl ⟨⟨_,d⟩,zq⟩,h S a f⟩
section
theorem CU {args:Array Value}{R:Ending->World->Prop}(h:Calls P f args w R)(r:Option Nat):CallsIn (Fw r) 0 P f args w R:=by
 have a:CallsIn e6 0 P f args w R:=callsIn_wide.2 h;cases r with
 |none=>exact a
 |some l=>exact CallsIn.inRound l a
theorem Oper.Nl {o:Oper}{l:kK}(hl:Lo P o l)(c: ∀op,l≠.other op){args:Array Value}
  (h:(execOp a.eval o).run P w= .ok (.enter f args) w') {Q:Exit->Act->World->Prop}
  (k:Calls P f args w' (λe b=> ∃v,e= .returned v/\z (a.put o.dst v) b)):o.wpIn (Fw r) 0 P a w z Q:=by
 refine⟨λ_ _=>trivial,?_⟩;show o.uponIn (Fw r) 0 P a z Q ((o.semAt r a.eval).run P w)
 rw[hl.semAt c,h];refine⟨λhd=>by simp [Fw,e6]at hd,(CU k r).mono ?_⟩;rintro e b ⟨v,rfl,hk⟩;exact hk
theorem mm (h:uc P f)(args:Array Value)(w:World):(callFunc f args).run P w= .ok (.enter f args) w:=by obtain⟨fn,b,c,a⟩:=h;simp only[callFunc,c7,run_program,a7,b,c,a,bm,if_false,cy]
theorem cH.Ad {B e:Nat->Prop}{y:Value}(h:cH B S w g p y)(d: ∀b,B b->e b):cH e S w g p y:=by
 cases p;case aT T k es=>
  simp only[cH]at h ⊢;rcases h with h|⟨b,cap,c,hy,a⟩
  exact .inl h;exact .inr ⟨b,cap,c,hy,d _ a.base,a.apart,a.holds⟩
 case eR T cs=>simp only[cH]at h ⊢;obtain⟨b,c,hy,a⟩:=h;exact⟨b,c,hy,d _ a.base,a.apart,a.holds⟩
 case gT T k es j f=>
  simp only[cH]at h ⊢;obtain⟨i,h⟩:=h;refine⟨i,?_⟩;rcases h with h|⟨b,cap,c,hy,a⟩
  exact .inl h;exact .inr ⟨b,cap,c,hy,d _ a.base,a.apart,a.holds⟩
 case rF cs es=>simp only[cH]at h ⊢;obtain⟨g,bb,off,c,hy,hc,a⟩:=h;exact⟨g,bb,off,c,hy,hc,d _ a.base,a.apart,a.holds⟩
 all_goals exact h
theorem cH.yP {B:Nat->Prop}{y:Value}(h:cH B S w (some b) p y):B b/\ ¬S.has b:=by
 cases p<;>simp only[cH]at h;case aT=>rcases h with⟨_,_,h⟩|⟨g,cap,c,_,a⟩;cases h;cases c;exact⟨a.base,a.apart⟩
 case eR=>obtain⟨g,c,_,a⟩:=h;cases c;exact⟨a.base,a.apart⟩
 case gT=>rcases h.2 with⟨_,_,h⟩|⟨g,cap,c,_,a⟩;cases h;cases c;exact⟨a.base,a.apart⟩
 case rF=>obtain⟨g,bb,off,c,_,_,a⟩:=h;cases c;exact⟨a.base,a.apart⟩
 all_goals (obtain⟨h,_⟩:=h;cases h)
theorem Sat.called (hs:Sat C env H D a w S L)(hd: ∀d,dst=some d->d<C.N){f:aI}
  (k:S.Le f) (j:f.In w') (c: ∀b,f.has b->S.has b\/w.heap.size<=b) (i:ek w.heap.size w w') (m:cH (λb=>w.heap.size<=b) f w' g p v):
  ∃n,Sat C (cP env dst p) H D (a.put dst v) w' f n:=by
 have h:=(hs.grow i).Zc k j (λb hh=>(c b hh).imp id (λh1=>hs.fresh h1))
  (λe he hh=>by
    have l:=hs.tN (cx.2 ⟨e,he,zz⟩)
    rcases c _ hh with h1|h1
    ·rcases an.1 he with he|he
     ·exact(hs.heap e he).apart h1
     ·exact(hs.frame e he).apart h1
    ·omega)
  (λt b e hh=>by
    have l:=hs.K9 e
    rcases c _ hh with h1|h1
    ·exact hs.B2 e h1
    ·omega)
 cases dst with
 |none=>exact⟨L,h⟩
 |some d=>refine⟨_,h.sC (az (hd d zz) hs.size) (m.Ad (λ_ i=>hs.fresh i)) ?_⟩;intro b e;subst e;have:=m.yP;refine⟨λhm=>?_,λt _ e=>?_⟩;have:=hs.tN hm;omega;have:=hs.K9 e;omega
def ni (P:Program)(r:Option Nat)(N:Nat)(l:kK)(dst:Option Nat)(env:Env)(H:av)(D:List Nat)(K:Env->av->List Nat->Prop)(KP:List PanicEntry->Env->av->List Nat->Prop):Prop:=
 ∀o:Oper,o.dst=dst->(∀d,dst=some d->d<N)->Lo P o l-> ∀(C:rX) (a:Act) (w:World) (S:aI) (L:Nat->Option Nat),C.N=N->Sat C env H D a w S L->
  ∀(next:Act->World->Prop) (Q:Exit->Act->World->Prop),
   (∀b H' c y w' e f,K b H' c->Sat C b H' c (a.put dst y) w' e f->S.Le e->next (a.put dst y) w')->
   (∀ch b H' c w' e f,KP ch b H' c->Sat C b H' c a w' e f->Q (.panic ch) a w')->o.wpIn (Fw r) 0 P a w next Q
theorem aO.toX {l:kK}{KP:List PanicEntry->Env->av->List Nat->Prop}(h:aO P r N l dst env H D K):ni P r N l dst env H D K KP:=
 λo b c d C a w S L h4 e next Q k _=>h o b c d C a w S L h4 e next Q k
theorem ni.So {l:kK}(h:ni P r N l dst env H D K λ_ _ _ _=>False):aO P r N l dst env H D K:=λo b c d C a w S L h4 e next Q k=>h o b c d C a w S L h4 e next Q k λ_ _ _ _ _ _ _ h=>h.elim
def Vo (P:Program)(f:FuncId)(dst:Option Nat)(K:Env->av->List Nat->Prop)(KP:List PanicEntry->Env->av->List Nat->Prop)(C:rX)(a:Act)(w:World)(S:aI)(h:List Value):Prop:=
 uc P f/\Calls P f h.toArray w λe w'=>(∃v b H' c d g,e= .returned v/\K b H' c/\Sat C b H' c (a.put dst v) w' d g/\S.Le d)\/ ∃ch b H' c d g,e= .panicked ch/\KP ch b H' c/\Sat C b H' c a w' d g
def qu (P:Program)(f:FuncId)(dst:Option Nat)(env:Env)(H:av)(D:List Nat)(K:Env->av->List Nat->Prop)(KP:List PanicEntry->Env->av->List Nat->Prop)(ps:List AV):Prop:=
 ∀(C:rX) (a:Act) (w:World) (S:aI) (L:Nat->Option Nat),Sat C env H D a w S L->(∀d,dst=some d->d<C.N)-> ∀b,aS S ps b->Vo P f dst K KP C a w S b
section
variable {KP:List PanicEntry->Env->av->List Nat->Prop}{args:List Operand}
theorem Vo.wp {o:Oper}{l:kK}{n:List Value}(h:Vo P f dst K KP C a w S n)(hl:Lo P o l)(m: ∀op,l≠.other op)(j:o.dst=dst)(eD:(execOp a.eval o).run P w= .ok (.enter f n.toArray) w){Q:Exit->Act->World->Prop}
  (p: ∀b H' c y w' g i,K b H' c->Sat C b H' c (a.put dst y) w' g i->S.Le g->z (a.put dst y) w') (q: ∀ch b H' c w' g i,KP ch b H' c->Sat C b H' c a w' g i->Q (.panic ch) a w'):o.wpIn (Fw r) 0 P a w z Q:=by
 refine⟨λ_ _=>trivial,?_⟩;show o.uponIn (Fw r) 0 P a z Q ((o.semAt r a.eval).run P w)
 rw[hl.semAt m,eD,Oper.uponIn_enter];refine⟨λhd=>by simp [Fw,e6]at hd,(CU h.2 r).mono ?_⟩;rintro e w' (⟨v,b,H',c,g,i,rfl,hk,d,k⟩|⟨ch,b,H',c,g,i,rfl,hk,d⟩);rw[j];exact p _ _ _ _ _ _ _ hk d k;exact q _ _ _ _ _ _ _ hk d
theorem ni.OX (j:(args.map (bG env)).all (λp=> !p.bT)=true)(h:qu P f dst env H D K KP (args.map (bG env))):ni P r N (.call f args ty) dst env H D K KP:=by
 intro o b hd g C a w S L l hs next Q q k
 have h:=h C a w S L hs (λd e=>l▸hd d e) _ (hs.FA args zz λp k=>bD);cases g with
 |call c n i m=>rename_i xs _ _ _;exact h.wp (.call c n i m) aF b (by rw[show (List.map a.eval xs.toList).toArray=xs.map a.eval by rw[<-eM]];simp [execOp,c,resolve,fx,hI,invoke,mm h.1]) q k
theorem ni.Hg {b:List AV}(hx:bG env x= .fn (.func f) W b)(n:(args.map (bG env)).all (λp=> !p.bT)=true)(h:qu P f dst env H D K KP (W++args.map (bG env)++b)):ni P r N (.kV x args ty) dst env H D K KP:=by
 intro o c hd l C a w S L s hs next Q t q
 have i:=hs.dM x hx zz;simp only[bf]at i;obtain⟨u,cs,m,k,j⟩:=i;have h:=h C a w S L hs (λd e=>s▸hd d e) _ ((k.append (hs.FA args zz λp q=>bD)).append j);cases l with
 |kV g=>exact h.wp (.kV g) aF c (by simp [execOp,g,resolve,fx,m,invoke,mm h.1]) t q
theorem Ev.ym (c:Ev P f qs res)(i:mg ps qs)(k:K (cP env dst res) H D):qu P f dst env H D K KP ps:=λC a w S L hs hd q p=>⟨c.1,(c.2 S w _ hs.gl hs.sin (i S _ p)).mono (by
 rintro e w' ⟨v,n,g,rfl,d,j,h,b,o⟩;obtain⟨m,l⟩:=hs.called hd d j h b o;exact .inl ⟨v,_,_,_,n,m,zz,k,l,d⟩)⟩
theorem aO.call (c:Ev P f qs res)(d:args.map (bG env)=ps)(a:ps.all (λp=> !p.bT)=true)(b:mg ps qs)(k:K (cP env dst res) H D):aO P r N (.call f args ty) dst env H D K:=by subst d;exact(ni.OX a (c.ym b k)).So
theorem aO.kV {first a:List AV}(hx:bG env x= .fn (.func f) first a)(d:Ev P f qs res)(e:args.map (bG env)=ps)(b:ps.all (λp=> !p.bT)=true)(c:mg (first++ps++a) qs)(k:K (cP env dst res) H D):aO P r N (.kV x args ty) dst env H D K:=by subst e;exact(ni.Hg hx b (d.ym c k)).So
end
end
variable {X:Type}
inductive bZ where
 |skip
 |ops (l:List aQ)
 |nj (l:List (aQ×List Nat))
 |seq (a b:bZ)
 |ite (c:Operand) (a b:bZ)
 |block (id:Nat) (a:bZ)
 |loop (a:bZ)
 |exit (id:Nat)
 |ret
 |scope (a:bZ)
 |label (l:Nat)
 |goto (l:Nat)
 |Az (f:Operand) (ps:List Nat) (assign body:bZ)
def Cl (arr:Array Oper):Option (Nat×Bool)->Option (Option (Nat×Bool))
 |none=>some none
 |some (j,b)=>match (arr[j]?).bind (·.dst)with
  |some t=>some (some (t,b))
  |none=>none
def adZ (N:Nat):Option Nat->Bool
 |none=>true
 |some d=>Nat.blt d N
def Ax (P:Program)(N:Nat)(arr:Array Oper)(o:Oper):Option aQ:=
 match HC P o,Cl arr o.guard,adZ N o.dst with
 |some l,some g,true=>some ⟨o.dst,g,l⟩
 |_,_,_=>none
def pI (P:Program)(N:Nat)(arr:Array Oper):List Oper->Option (List aQ)
 |[]=>some []
 |o::os=>match Ax P N arr o,pI P N arr os with
  |some l,some ls=>some (l::ls)
  |_,_=>none
def jb (o:Oper):List Nat:=(o.after.toList.filter (Region.binds .any)).map (·.on)
def cX (P:Program)(N:Nat):Code->Option bZ
 | .skip=>some .skip
 | .region _ arr false=>(pI P N arr arr.toList).map .ops
 | .region _ arr true=>(pI P N arr arr.toList).map λls=>.nj (ls.zip (arr.toList.map jb))
 | .seq a b=>match cX P N a,cX P N b with
  |some x,some y=>some (.seq x y)
  |_,_=>none
 | .cond c a b=>match cX P N a,cX P N b with
  |some x,some y=>some (.ite c x y)
  |_,_=>none
 | .block id a=>(cX P N a).map (.block id)
 | .loop a=>(cX P N a).map .loop
 | .exit id=>some (.exit id)
 | .ret=>some .ret
 | .scope a=>(cX P N a).map .scope
 | .label l=>some (.label l)
 | .goto l=>some (.goto l)
 | .rangeFunc f ps a b=>match cX P N a,cX P N b with
  |some x,some y=>some (.Az f ps.toList x y)
  |_,_=>none
 | .refuse _=>none
theorem BQ {o:Oper}{l:aQ}(c:arr[i]? =some o)(h:Ax P N arr o=some l):AL P N arr i l:=by unfold Ax at h;split at h;rename_i x g hx hg hd;cases h;refine⟨o,c,zz,?_,MN hx,?_⟩;intro d e;simp only at e;rw[e]at hd;exact az (Nat.lt_succ_self d) (b4 hd);unfold Cl at hg;split at hg;rename_i e;cases hg;exact .inl ⟨zz,e⟩;rename_i j b e;split at hg;rename_i t a;cases hg;exact .inr ⟨j,t,b,zz,e,a⟩;cases hg;cases h
theorem uu : ∀(os:List Oper) (i:Nat) (ls:List aQ),arr.toList.drop i=os->pI P N arr os=some ls->iE P N arr (List.range' i os.length) ls
 |[],i,ls,_,h=>by simp only[pI,a8]at h;subst h;simp [iE]
 |o::os,i,ls,e,h=>by simp only[pI]at h;split at h;rename_i l ls' hl b;cases h;have c:arr[i]? =some o:=(by have:(arr.toList.drop i)[0]? =some o:=(by rw[e];rfl);rw[eu]at this;simpa using this);have a:arr.toList.drop (i+1)=os:=(by rw[<-List.tail_drop,e];rfl);simp;exact⟨l,ls',zz,BQ c hl,uu os (i+1) ls' a b⟩;cases h
inductive Lc (P:Program)(N:Nat):Code->bZ->Prop where
 |skip:Lc P N .skip .skip
 |ops {id arr ls:_}:iE P N arr (hf arr.size) ls->Lc P N (.region id arr false) (.ops ls)
 |nj {id arr ls:_}:iE P N arr (hf arr.size) ls->Lc P N (.region id arr true) (.nj (ls.zip (arr.toList.map jb)))
 |seq {a b x y:_}:Lc P N a x->Lc P N b y->Lc P N (.seq a b) (.seq x y)
 |ite {c a b x y:_}:Lc P N a x->Lc P N b y->Lc P N (.cond c a b) (.ite c x y)
 |block {id a x:_}:Lc P N a x->Lc P N (.block id a) (.block id x)
 |loop {a x:_}:Lc P N a x->Lc P N (.loop a) (.loop x)
 |exit {id}:Lc P N (.exit id) (.exit id)
 |ret:Lc P N .ret .ret
 |scope {a x:_}:Lc P N a x->Lc P N (.scope a) (.scope x)
 |label {l:_}:Lc P N (.label l) (.label l)
 |goto {l:_}:Lc P N (.goto l) (.goto l)
 |Az {f ps a b x y:_}:Lc P N a x->Lc P N b y->Lc P N (.rangeFunc f ps a b) (.Az f ps.toList x y)
theorem yn (h:pI P N arr arr.toList=some ls):iE P N arr (hf arr.size) ls:=by have:=uu arr.toList 0 ls aF h;rw[List.range_eq_range'];simpa using this
theorem eF : ∀{c:Code} {lc:bZ},cX P N c=some lc->Lc P N c lc
 | .skip,_,h=>by simp only[cX,a8]at h;subst h;exact .skip
 | .region _ arr false,_,h=>by simp only[cX,a6]at h;obtain⟨ls,h,rfl⟩:=h;exact .ops (yn h)
 | .region _ arr true,_,h=>by simp only[cX,a6]at h;obtain⟨ls,h,rfl⟩:=h;exact .nj (yn h)
 | .seq a b,_,h=>by simp only[cX]at h;split at h;rename_i x y ha d;cases h;exact .seq (eF ha) (eF d);cases h
 | .cond c a b,_,h=>by simp only[cX]at h;split at h;rename_i x y ha d;cases h;exact .ite (eF ha) (eF d);cases h
 | .block id a,_,h=>by simp only[cX,a6]at h;obtain⟨x,h,rfl⟩:=h;exact .block (eF h)
 | .loop a,_,h=>by simp only[cX,a6]at h;obtain⟨x,h,rfl⟩:=h;exact .loop (eF h)
 | .exit id,_,h=>by simp only[cX,a8]at h;subst h;exact .exit
 | .ret,_,h=>by simp only[cX,a8]at h;subst h;exact .ret
 | .scope a,_,h=>by simp only[cX,a6]at h;obtain⟨x,h,rfl⟩:=h;exact .scope (eF h)
 | .label l,_,h=>by simp only[cX,a8]at h;subst h;exact .label
 | .goto l,_,h=>by simp only[cX,a8]at h;subst h;exact .goto
 | .rangeFunc f ps a b,_,h=>by simp only[cX]at h;split at h;rename_i x y ha d;cases h;exact .Az (eF ha) (eF d);cases h
 | .refuse _,_,h=>by simp only[cX,reduceCtorEq]at h
def aU (P:Program)(r:Option Nat)(N:Nat)(lc:bZ)(Q:dl)(env:Env)(H:av)(D:List Nat):Prop:=
 ∀c,Lc P N c lc-> ∀(C:rX) (a:Act) (w:World) (S:aI) (L:Nat->Option Nat),C.N=N->Sat C env H D a w S L->c.wpIn (Fw r) 0 P (CE C Q) a w
def kX (K:Env->av->List Nat->Prop)(Q:dl):dl:=λe env H D=>match e with
 | .normal=>K env H D
 |e=>Q e env H D
def rC (id:Nat)(Q:dl):dl:=λe env H D=>match e with
 | .exit a=>if a=id then Q .normal env H D else Q (.exit a) env H D
 |e=>Q e env H D
def MV (Q:dl):dl:=λe env H D=>match e with
 | .goto _=>False
 |e=>Q e env H D
section
theorem aU.skip (h:Q .normal env H D):aU P r N .skip Q env H D:=by intro c hc C a w S L b hs;cases hc;exact wpIn_skip ⟨env,H,D,S,L,hs,h⟩
theorem aU.label {l:Nat}(h:Q .normal env H D):aU P r N (.label l) Q env H D:=by intro c hc C a w S L b hs;cases hc;exact wpIn_label ⟨env,H,D,S,L,hs,h⟩
theorem aU.exit {id:Nat}(h:Q (.exit id) env H D):aU P r N (.exit id) Q env H D:=by intro c hc C a w S L b hs;cases hc;exact wpIn_exit ⟨env,H,D,S,L,hs,h⟩
theorem aU.ret (h:Q .ret env H D):aU P r N .ret Q env H D:=by intro c hc C a w S L b hs;cases hc;exact wpIn_ret ⟨env,H,D,S,L,hs,h⟩
theorem aU.ops (h:aY P r N ls Q env H D):aU P r N (.ops ls) Q env H D:=by
 intro c hc C a w S L b hs;cases hc with
 |ops hm=>exact wpIn_region (h _ _ hm C a w S L b hs)
theorem aU.seq {x y:bZ}(h:aU P r N x (kX (λe h d=>aU P r N y Q e h d) Q) env H D):aU P r N (.seq x y) Q env H D:=by
 intro c hc C a w S L i hs;cases hc with
 |seq ha m=>
  refine wpIn_seq (wpIn_mono (h _ ha C a w S L i hs) ?_);rintro e l w' ⟨env',H',k,g,f,b,j⟩;cases e with
  |normal=>exact j _ m C l w' g f i b
  |_=>exact⟨env',H',k,g,f,b,j⟩
theorem aU.ite {c:Operand}{x y:bZ}{b:Bool}(hc:bG env c= .v (.bool b))(i:b=true->aU P r N x Q env H D)(g:b=false->aU P r N y Q env H D):aU P r N (.ite c x y) Q env H D:=by
 intro j d C a w S L e hs;cases d with
 |ite ha f=>exact wpIn_cond_split (hs.int hc) (λh=>i h _ ha C a w S L e hs) (λh=>g h _ f C a w S L e hs)
theorem aU.block {id:Nat}{x:bZ}(h:aU P r N x (rC id Q) env H D):aU P r N (.block id x) Q env H D:=by
 intro c hc C a w S L j hs;cases hc with
 |block ha=>
  refine wpIn_block (wpIn_mono (h _ ha C a w S L j hs) ?_);rintro e l w' ⟨env',H',f,i,g,b,d⟩;cases e with
  |exit k=>simp only[rC]at d;simp only[Exit.inBlock];split;rename_i h;rw[zy h]at d;exact⟨env',H',f,i,g,b,d⟩;rename_i h;rw[zj h]at d;exact⟨env',H',f,i,g,b,d⟩
  |_=>exact⟨env',H',f,i,g,b,d⟩
theorem lR {b:Frame}{k:List Item}{cs:List Frame}{c:Code}:step P (lone (b.atR a (.code (.scope c)::k)) cs w)= .next (lone (b.atR a (.code c::.inScope c::k)) cs w):=
 step_lone_go (by simp [stepG,hR,hU])
theorem EI {b:Frame}{k:List Item}{cs:List Frame}{c:Code}:step P (lone (b.atR a (.inScope c::k)) cs w)= .next (lone (b.atR a k) cs w):=
 step_lone_go (by simp [stepG,hR,hU])
theorem vV {F:Fence}{r:Exit->Act->World->Prop}{c:Code}(h:c.wpIn F n P (Exit.noGoto r) a w):(Code.scope c).wpIn F n P r a w:=by
 intro b k cs q m o;have f:(lone (b.atR a (.code (.scope c)::k)) cs w).fenced P F:=fenced_calm m o zz;obtain⟨e,i,j,g,d⟩:=h b (.inScope c::k) cs q m o;cases e with
 |normal=>exact⟨.normal,i,j,g,.head f lR (hr d (.one (fenced_calm m o zz) EI))⟩
 |exit id=>
  have hx:exitTo id (.inScope c::k)=exitTo id k:=by simp [exitTo]
  exact⟨.exit id,i,j,g,λu hk=>.head f lR (d.1 u bD),
   λp hk=>let ⟨v,s,t⟩:=d.2 p bD;⟨v,s,.head f lR t⟩⟩
 |goto l=>exact g.elim
 |ret=>exact⟨_,i,j,g,.of_steps (.one f lR) d⟩
 |panic ch=>exact⟨_,i,j,g,.of_steps (.one f lR) d⟩
 |outgrown=>exact⟨_,i,j,g,.of_steps (.one f lR) d⟩
theorem aU.scope {x:bZ}(h:aU P r N x (MV Q) env H D):aU P r N (.scope x) Q env H D:=by
 intro c hc C a w S L j hs;cases hc with
 |scope ha=>
  refine vV (wpIn_mono (h _ ha C a w S L j hs) ?_);rintro e k w' ⟨env',H',f,i,g,b,d⟩;cases e with
  |goto l=>exact d.elim
  |_=>exact⟨env',H',f,i,g,b,d⟩
theorem aU.oj {x:bZ}{d:List Nat}(h:bO env H D env' H' d)(k:aU P r N x Q env' H' d):aU P r N x Q env H D:=
 λc hc C a w S L g hs=>by obtain⟨f,e,_,b⟩:=h C a w S L hs;exact k c hc C a w f e g b
theorem aU.loop (E:X->Env)(z:X->av)(y:X->List Nat)(m:X->Nat){x:bZ}(F:X)(Y:bO env H D (E F) (z F) (y F))
  (hb: ∀i,aU P r N x (kX (λenv' H' h=> ∃q,m q<m i/\bO env' H' h (E q) (z q) (y q)) Q) (E i) (z i) (y i)):aU P r N (.loop x) Q env H D:=by
 intro c hc C a w S L Z hs;cases hc with
 |loop ha=>
  rename_i B;obtain⟨S0,R,_,M⟩:=Y C a w S L hs;intro b k cs K p J;have key: ∀(j:Nat) (i:X) (a:Act) (w:World) (S:aI) (L:Nat->Option Nat),m i=j->Sat C (E i) (z i) (y i) a w S L->
    ∃e A w',CE C Q e A w'/\ArrivesIn (Machine.fenced P (Fw r)) P (lone (b.atR a (.code B::.inLoop B::k)) cs w) b k cs e A w':=by
   intro j
   induction j using Nat.strongRecOn with
   |_ j ih=>
    intro i a w S L hm hs
    obtain⟨e,n,s,⟨env',H',h,u,t,f,g⟩,d⟩:=hb i B ha C a w S L Z hs b (.inLoop B::k) cs K p J
    cases e with
    |normal=>
     obtain⟨q,G,v⟩:=g
     obtain⟨U,T,_,O⟩:=v C n s u t f
     obtain⟨W,V,w₂,I,o⟩:=ih (m q) (hm▸G) q n s U T zz O
     exact⟨W,V,w₂,I,.of_steps (hr d (.one (fenced_calm p J zz) stepR_inLoop)) o⟩
    |exit id=>exact⟨_,n,s,⟨env',H',h,u,t,f,g⟩,.pass zz (λ_ _=>.inl aF) d⟩
    |goto l=>exact⟨_,n,s,⟨env',H',h,u,t,f,g⟩,.pass zz (λ_ _=>.inl aF) d⟩
    |ret=>exact⟨_,n,s,⟨env',H',h,u,t,f,g⟩,.pass zz (λ_ _=>.inl aF) d⟩
    |panic ch=>exact⟨_,n,s,⟨env',H',h,u,t,f,g⟩,.pass zz (λ_ _=>.inl aF) d⟩
    |outgrown=>exact⟨_,n,s,⟨env',H',h,u,t,f,g⟩,.pass zz (λ_ _=>.inl aF) d⟩
  obtain⟨e,A,w',g,d⟩:=key _ F a w S0 R zz M;exact⟨e,A,w',g,.of_steps (.one (fenced_calm p J zz) stepR_loop) d⟩
end
end Go.Px
