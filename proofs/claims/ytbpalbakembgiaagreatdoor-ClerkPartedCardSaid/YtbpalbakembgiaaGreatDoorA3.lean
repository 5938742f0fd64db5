/- Part 3 of the proof of a statement of this seat (a logic of pure contracts; the functions; their contracts). No conditions. -/
import Derived.Test.YtbpalbakembgiaaGreatDoorA2
import Derived.MapFrom
import Derived.Maps.RangeRun
import Derived.Laws.IdiomStrings
import Derived.ProofKit
import Derived.OpenShut
import Derived.Carry
import Derived.Lib.UnsafeStr
import Derived.MapKept
set_option linter.all false
open Array renaming getElem?_modify->dk,getElem?_toList->e3,getElem?_setIfInBounds->fk,getElem?_eq_some_iff->fr,toList_push->fv,toList_inj->h9,ext'->kj
open Bool renaming and_eq_true->bs
open Decidable renaming not_not->hZ
open Go.Addr renaming add_lit->j9,add->kU
open Go.Builtin renaming append_->bk,copy_->cc,zeroCells->ds,firstCells->ew,lenOf->e7,nextslicecap->fb
open Go.ChangeMaps renaming setBlock->ki
open Go.DataW renaming TrodAll->e8,trod->fs
open Go.DataW.TrodAll renaming lt->kx
open Go.Deferred renaming ofValue->kT
open Go.Fence renaming wide->kl
open Go.Instr renaming findAsking->cr,sameBits->eP,getLoop->e9,findKey->ga,mapUpdate->hD,endRound->hI,mapEntry->hJ,keyThatStays->hT,lookup->h5,sliceBound->j0
open Go.IntKind renaming i64->fx
open Go.Lib renaming strCells->cy
open Go.MapKept renaming run_getObj_map->bl,run_setObj_map->bI
open Go.Op renaming equal->hQ,maxDepth->j3,equalIn->kp
open Go.Question renaming forced->j7
open Go.Result renaming andThen_ok->bm
open Go.Sem renaming run_bind->c7,run_pure->c8,run->gX
open Go.Value renaming oneCell'->eT,func->hB,okWide->hC,cells->hR,int->j2
open Go.World renaming freeze->eU
open List renaming replicate->an,getElem?_map->ap,mem_of_getElem?->az,getElem?_eq_some_iff->bn,getElem?_eq_getElem->bt,ext_getElem?->bx,getElem?_set->bA,map_cons->b9,map_toArray->cx,getElem?_take->cA,take_of_length_le->cB,map_append->de,mem_iff_getElem?->dn,mem_of_mem_take->ec,cons_append->ej,length_take->ek,map_nil->en,length_flatten->er,mem_append->et,nil_append->eu,length_append->ey,take_zero->eS,length_replicate->e4,take_append_drop->e5,take_append->e6,mem_cons_of_mem->fe,mem_of_mem_drop->ff,mem_or_eq_of_mem_set->fu,append_assoc->fy,nodup_append->fD,mem_cons->gm,all_eq_true->gx,drop_eq_nil_of_le->gM,mem_map->gQ,length_nil->hE,drop_take->hL,getElem?_of_mem->hM,flatten_append->hS,mem_cons_self->hU,mem_singleton->hV,set_cons_zero->hX,flatten_cons->h7,getElem?_inj->h8,perm_middle->j1,all_append->j4,append_nil->j5,length_set->j6,drop_drop->j8
open Nat renaming mul_le_mul_right->cb,lt_of_lt_of_le->cD,zero_add->cR,le_refl->fj,mul_eq_zero->hF,add_mul->hO,mul_one->hP,add_zero->ka,sub_self->kb
open Option renaming bind_eq_some_iff->eM,map_eq_some_iff->gR,map_some->hG
open Option.some renaming injEq->ea
open Prod.mk renaming injEq->cd
namespace Go.Px
variable {h:List (Value×AV)}{E:Nat}{o:Option (Nat×AV)}{v:Value}{A:TypeId}{e:List Hint}{s:List (aQ×List Nat)}{g:Value->AV->Prop}{l:List Nat}{u:Array MapEntry}{z:Value->Prop}{F:List Value}{G:Operand}{Y:IntKind}{M:List AV}{O:Option Prop}{R:Option (Nat×Nat)}{V:Bool}{Z:Out->av->Prop}
variable {H' H0 H1:av}{C:rX}{a:Act}{S:aI}{L:Nat->Option Nat}{X:Type}{w:World}{args:List AV}{N:Nat}
inductive J where
 |go
 |ret
 |exit (id:Nat)
 deriving DecidableEq
def J.code:J->Option Code
 | .go=>none
 | .ret=>some .ret
 | .exit id=>some (.exit id)
def J.ex:J->Exit
 | .go=>.normal
 | .ret=>.ret
 | .exit id=>.exit id
def J.on:J->Bool
 | .go=>true
 |_=>false
def J.st:J->LoopState
 | .go=>.ready
 |_=>.done
section
variable {P:Program}
theorem Gl.aeL {l:Nat}{fn:FuncId}{env0:Env}{ps:Array Nat}{assign body:Code}{ri:Nat}{RB:J->av->Prop}{la lb:bZ}(ha:Lc P N assign la)(X:Lc P N body lb)(K:args.length=ps.size)
  (a0: ∀t∈ps.toList,t<N)
  (h:aU P (some l) N la (λe r H' D'=>e= .normal/\aU P (some l) N lb (λe R H' a7=> ∃j q,e=J.ex j/\RB j q/\q.Sublist H') r H' D') (wD ps.toList args env0) H1 []):
  Gl P l args ((l,.qh .ready none fn N env0 ps assign body ri)::H1) (λres Ho=> ∃j q,RB j q/\res=B j.on/\Ho=(l,.qh j.st j.code fn N env0 ps assign body ri)::q):=by
 intro S w vs v z i g Z;have k:=g _ (hU ..);obtain⟨o,L,tmps,rfl,hN,M⟩:=k.holds;refine⟨_,L,by simp only;rw[<-K,i.length],?_⟩;rw[Sc];obtain⟨Q,a⟩:=E4 i hN M a0;generalize (ps.toList.zip vs).foldl (λtmps (x:Nat×Value)=>tmps.setIfInBounds x.1 x.2) tmps=E at Q a;simp at Z;let Hin:av:=(l,.qh .ready none fn N env0 ps assign body ri)::H1;let C:rX:={A:=AH w Hin,w0:=w,S0:=S,F:=[(l,.qh .ready none fn N env0 ps assign body ri)],N:=N,hA:=λ_ h=>.inl h,hg:=v,hgA:=v.apart z g,hgI:=λb X=>z.lt (v.1 b X)};have nl: ∀{S:aI} {p:AV} {y:Value},bf S p y->p.bT=false:=λh=>h.sU;have hs:Sat C (wD ps.toList args env0) H1 [] {tmps:=E,defers:=[]} w S (λ_=>none):=by
  refine
   {size:=Q,Fl:=rfl,le:=aI.Le.refl S,sin:=z,ux:=λ_ h=>.inl h,below:=iC.refl _ _,env:=λt=>cH.gW (nl (a t)) (a t),heap:=?_,frame:=?_,nodup:=?_,aT:=aF,lL:=by simp}
  intro e he;exact(g e (fe _ he)).mF (λ_=>.inr (gQ.2 ⟨e,fe _ he,zz⟩));intro e he;simp only[C,hV]at he;subst he;exact k.mF (λ_=>.inr (gQ.2 ⟨_,hU ..,zz⟩));grind
 have f: ∀(H:aI) (w':World) (st:LoopState),Own C.A H w' l (.qh st none fn N env0 ps assign body ri)->
   ∃tmps,w'.heap[l]? =some (.loop {state:=st,pending:=none,fn:=fn,tmps:=tmps,params:=ps,assign:=assign,body:=body,defers:=ri})/\N<=tmps.size/\ ∀t,bf H (env0 t) (tmps.getD t undef):=by
  intro H w' st L
  obtain⟨o,L,tmps,rfl,h1,h2⟩:=L.holds
  exact⟨tmps,L,h1,h2⟩
 refine roundIn_of_wpIn zq<|wpIn_mono (h assign ha C _ w S _ zz hs) ?_
 rintro e a₁ w₁ ⟨r,H',D',H,L',O,rfl,u⟩;obtain⟨G,Y,U,a1⟩:=f H w₁ .ready (O.frame (l,.qh .ready none fn N env0 ps assign body ri) (by simp [C]));have a3:=O.KH zz (y:=.qh .busy none fn N env0 ps assign body ri)
  ⟨G,zz,U,a1⟩
 refine⟨_,?_,wpIn_mono (u body X _ a₁ _ H L' zz a3) ?_⟩;simp [Instr.beginRound,e9,getObj,setObj,gX,Y];rintro e a₂ w₂ ⟨T,a5,a4,I,a6,s,j,q,rfl,W,m⟩;obtain⟨n,D,V,a2⟩:=f I w₂ .busy (s.frame (l,.qh .busy none fn N env0 ps assign body ri) aF);have c:=s.KH zz (y:=.qh j.st j.code fn N env0 ps assign body ri)
  ⟨n,zz,V,a2⟩
 have fin:CB S w Hin (λres Ho=> ∃j q,RB j q/\res=B j.on/\Ho=(l,.qh j.st j.code fn N env0 ps assign body ri)::q) (.returned (.bool j.on))
   {w₂ with heap:=w₂.heap.setIfInBounds l (.loop {state:=j.st,pending:=j.code,fn:=fn,tmps:=n,params:=ps,assign:=assign,body:=body,defers:=ri})}:=by
  refine⟨.bool j.on,I,none,B j.on,_,zz,⟨j,q,W,zz,zz⟩,c.le,c.sin,c.ux,c.below,cH.gW zz (by simp [bf]),?_,?_,λ_ e=>by cases e⟩
  ·intro e he
   rcases gm.1 he with rfl|he
   ·exact c.frame (l,.qh j.st j.code fn N env0 ps assign body ri) aF
   ·exact c.heap e (m.subset he)
  ·have d:=c.nodup
   simp only[de,b9,en]at d
   rw[fD]at d
   simp only[b9,List.nodup_cons]
   refine⟨λhm=>?_,rM m d.1⟩
   exact d.2.2 l ((m.map _).subset hm) l aF zz
 cases j with
 |go=>exact⟨.bool true,_,by simp [hI,e9,getObj,setObj,gX,D,J.st,J.code],fin⟩
 |ret=>exact⟨.bool false,_,by simp [hI,e9,getObj,setObj,gX,D,J.st,J.code],fin⟩
 |exit id=>exact⟨.bool false,_,by simp [hI,e9,getObj,setObj,gX,D,J.st,J.code],fin⟩
variable {env:Env}{H:av}{D:List Nat}{Q:dl}
theorem Sat.Pq (hs:Sat C env H D a w S L)(h:H.Perm H'):Sat C env H' D a w S L:=
 hs.LQ (λ_ he=>h.symm.subset he) (by
  have:=hs.nodup
  rw[de,fD]at this
  exact(h.map _).nodup_iff.1 this.1)
theorem aU.Cu {f:Operand}{ps:List Nat}{la lb:bZ}{g:FuncId}{m:List AV}(HS:X->av)(x0:X)(Fin:J->X->Prop)(Y:X->List AV->Prop)(Z:X->List AV->J->X->Prop)(env0:Env)
  (hx:bG env f= .fn (.func g) M m) (hH:H=HS x0++H0) (h0: ∀t,env0 t= .any\/(env0 t=env t/\(env t).bT=false)) (a7: ∀t∈ps,t<N)
  (z: ∀l x args,Y x args->args.length=ps.length/\
    aU P (some l) N la (λe q H' D'=>e= .normal/\aU P (some l) N lb (λe _ H' _=> ∃j b,e=J.ex j/\Z x args j b/\(HS b).Sublist H') q H' D') (wD ps args env0) (HS x) [])
  (A: ∀(l:Nat) (lo:J->dp),(∀x args,Y x args->Gl P l args ((l,lo .go)::HS x) (λres Ho=> ∃j b,Z x args j b/\res=B j.on/\Ho=(l,lo j)::HS b))->
    iM P g (M++[.fn (.yield l) [] []]++m) ((l,lo .go)::HS x0) (λ_ Ho=> ∃j b,Fin j b/\Ho=(l,lo j)::HS b))
  (k: ∀j b rD,Fin j b->Q j.ex env ((rD,.ri)::(HS b++H0)) (rD::D)):aU P none N (.Az f ps la lb) Q env H D:=by
 subst hH;intro c hc C a w S L hN hs;cases hc with
 |Az ha hb=>
  rename_i i ca s;refine wpIn_rangeFunc (λfn _=>?_);have W:=hs.dM f hx zz;simp only[bf]at W;obtain⟨G,cs,b3,a2,a1⟩:=W;have a8:=hs.alloc (x:=.ri) zz;have E: ∀t,bf S (env0 t) (a.tmps.getD t undef):=by
   intro t;rcases h0 t with e|⟨e,hl⟩
   rw[e];simp [bf];rw[e];exact hs.sA zz hl
  have b1:N<=a.tmps.size:=hN▸hs.size;have n:=a8.alloc (x:=.qh .ready none fn N env0 i ca s w.heap.size)
   ⟨a.tmps,zz,b1,E⟩
  generalize hl:(w.alloc (.deferred (some []))).heap.size=l at n;generalize b2:(w.alloc (.deferred (some []))).alloc (.loop {state:=.ready,pending:=none,fn:=fn,tmps:=a.tmps,params:=i,assign:=ca,body:=s,defers:=w.heap.size})=w2 at n;let lo:J->dp:=λj=>.qh j.st j.code fn N env0 i ca s w.heap.size;have K:({a with defers:=[xC w.heap.size]++a.defers}:Act).defers=(w.heap.size::D).map xC++C.base:=by rw[n.Fl];rfl
  have a9:Sat C env ((l,lo .go)::(w.heap.size,.ri)::(HS x0++H0)) (w.heap.size::D) {a with defers:=[xC w.heap.size]++a.defers} w2 S L:=
   {n with Fl:=K,size:=n.size}
  have p:=a9.Pq (H':=((l,lo .go)::HS x0)++((w.heap.size,.ri)::H0)) (by
   rw[ej]
   exact(j1).symm.cons _)
  have hy: ∀x args,Y x args->Gl P l args ((l,lo .go)::HS x) (λres Ho=> ∃j b,Z x args j b/\res=B j.on/\Ho=(l,lo j)::HS b):=by
   intro x args hY;obtain⟨h1,h2⟩:=z l x args hY;have h3:=Gl.aeL (RB:=λj H2=> ∃b,Z x args j b/\H2=HS b) (fn:=fn) (env0:=env0) (ri:=w.heap.size) ha hb (by rw[h1];simp) a7 (by
    refine aU.mono h2 ?_
    rintro e q H' D' ⟨rfl,h⟩
    refine⟨zz,aU.mono h ?_⟩
    rintro e a0 b6 b5 ⟨j,b,rfl,hz,V⟩
    exact⟨j,HS b,zz,⟨b,hz,zz⟩,V⟩)
   exact h3.mono (by rintro _ _ ⟨j,H2,⟨b,hz,rfl⟩,rfl,rfl⟩;exact⟨j,b,hz,zz,zz⟩)
  have first:=A l lo hy;have u:aS S (M++[.fn (.yield l) [] []]++m) (G++[hB (.yield l) #[] #[]]++cs):=
   (a2.append (by simp only[aS,bf];exact⟨_,[],zz,⟨[],[],zz,zz,zz⟩,zz⟩)).append a1
  refine⟨l,[xC w.heap.size],w2,{target:=.fn (.func g) cs.toArray,args:=(G++[hB (.yield l) #[] #[]]).toArray},w2,g,(G++[hB (.yield l) #[] #[]]++cs).toArray,w2,?_,?_,λ_ _=>trivial,?_,λhd=>by simp [Fw,kl]at hd,?_⟩;rw[<-hl,<-b2];simp [Instr.enterLoop,newObj,gX,Fw,kl,xC];have e1:a.eval (.const (.func (.yield l) #[] #[]))= .func (.yield l) #[] #[]:=rfl;simp [resolve,kT,b3,e1];have e:(G++[hB (.yield l) #[] #[]]).toArray++cs.toArray=(G++[hB (.yield l) #[] #[]]++cs).toArray:=(by apply h9.1;simp);simp only[invoke,e,mm first.1];refine CU ((first.2 S w2 _ p.gl p.sin u p.uA.1 p.uA.2).mono ?_) none;rintro e w' ⟨v,S',gg,res,b4,rfl,⟨j,b,O,rfl⟩,a4,a3,R,I,hr,ho,a6,hg⟩;obtain⟨L',U⟩:=p.ye (dst:=none) (λd e=>by cases e) a4 a3 R I hr ho a6 hg;have hi:((l,lo j)::HS b++((w.heap.size,dp.ri)::H0))[0]? =some (l,lo j):=rfl;have T:=U.at_ hi;obtain⟨o,r,tmps,rfl,b7,b8⟩:=T.holds;have a5:l<w'.heap.size:=(fr.1 r).1;have a':=U.replace hi (y:=.raw (.loop {state:=.exhausted,pending:=j.code,fn:=fn,tmps:=tmps,params:=i,assign:=ca,body:=s,defers:=w.heap.size}))
   (w':={w' with heap:=w'.heap.setIfInBounds l (.loop {state:=.exhausted,pending:=j.code,fn:=fn,tmps:=tmps,params:=i,assign:=ca,body:=s,defers:=w.heap.size})})
   (o:=.loop {state:=.exhausted,pending:=j.code,fn:=fn,tmps:=tmps,params:=i,assign:=ca,body:=s,defers:=w.heap.size})
   (by simp [a5]) zz aF (λg hg=>by
     show (w'.heap.setIfInBounds l _)[g]? =w'.heap[g]?
     rw[fk,zj (λe=>hg e.symm)]) zz zz zz
  have b0:=a'.drop 0;have F:=b0.Pq (H':=(w.heap.size,.ri)::(HS b++H0)) (by
   simp only[ej,hX,List.eraseIdx_cons_zero]
   exact j1)
  have hk:=k j b w.heap.size O;refine⟨j.code,{w' with heap:=w'.heap.setIfInBounds l (.loop {state:=.exhausted,pending:=j.code,fn:=fn,tmps:=tmps,params:=i,assign:=ca,body:=s,defers:=w.heap.size})},?_,?_⟩;cases j<;>simp [Instr.endLoop,e9,getObj,setObj,gX,r,J.st,J.code];cases j with
  |go=>exact⟨env,_,_,S',L',F,hk⟩
  |ret=>exact wpIn_ret ⟨env,_,_,S',L',F,hk⟩
  |exit id=>exact wpIn_exit ⟨env,_,_,S',L',F,hk⟩
theorem aU.Az {f:Operand}{ps:List Nat}{la r:bZ}{g:FuncId}{first b:List AV}(HS:X->av)(n:X)(Fin:X->Prop)(Y:X->List AV->X->Prop)(env0:Env)
  (hx:bG env f= .fn (.func g) first b) (z:H=HS n++H0) (u: ∀t,env0 t= .any\/(env0 t=env t/\(env t).bT=false)) (p: ∀t∈ps,t<N)
  (c: ∀l x args a,Y x args a->args.length=ps.length/\
    aU P (some l) N la (λe i H' s=>e= .normal/\aU P (some l) N r (λe _ H' _=>e= .normal/\(HS a).Sublist H') i H' s) (wD ps args env0) (HS x) [])
  (d: ∀(l:Nat) (lo:dp),(∀x args a,Y x args a->Gl P l args ((l,lo)::HS x) (λres Ho=>res=B true/\Ho=(l,lo)::HS a))->
    iM P g (first++[.fn (.yield l) [] []]++b) ((l,lo)::HS n) (λ_ Ho=> ∃a,Fin a/\Ho=(l,lo)::HS a))
  (k: ∀a m,Fin a->Q .normal env ((m,.ri)::(HS a++H0)) (m::D)):aU P none N (.Az f ps la r) Q env H D:=by
 refine aU.Cu (λx:X×X=>HS x.1) (n,n) (λj x=>j=.go/\Fin x.1) (λx args=>Y x.1 args x.2) (λx _ j y=>j=.go/\y.1=x.2) env0 hx z u p (λl x args o=>?_) (λl lo hy=>?_) ?_
 ·obtain⟨v,w⟩:=c l _ args _ o;exact⟨v,aU.mono w λe _ _ _ q=>⟨q.1,aU.mono q.2 λe _ _ _ q=>⟨.go,(x.2,x.2),q.1,⟨zz,zz⟩,q.2⟩⟩⟩
 ·exact(d l (lo .go) λx args a o=>(hy (x,a) args o).mono (by rintro _ _ ⟨j,y,⟨rfl,rfl⟩,h⟩;exact h)).mono (by rintro _ _ ⟨a,A,h⟩;exact⟨.go,(a,a),⟨zz,A⟩,h⟩)
 rintro _ a m ⟨rfl,h⟩;exact k _ m h
end
variable {b d i j n:Nat}{p q:AV}{T:TypeId}{x y:Operand}
structure iQ (P:Program)(K:TypeId)(ks:Value->Prop):Prop where
 check: ∀k,ks k-> ∀(em:Bool) (w:World),(Instr.checkKey em 10000 K k).run P w= .ok () w
 find: ∀(k:Value) (l:List MapEntry),ks k->(∀x∈l,ks x.key)-> ∀w:World,((ga K k l).run P w= .ok none w/\ ∀x∈l,x.key≠k)\/
  ∃j e,(ga K k l).run P w= .ok (some (j,e.val)) w/\l[j]? =some e/\e.key=k
 same: ∀k,ks k->eP 10000 k k=true
def VE:List AV->Option (List Value)
 |[]=>some []
 | .v x::l=>(VE l).map (x:: ·)
 |_=>none
def valOf:AV->Option Value
 | .v x=>some x
 | .agg l=>(VE l).map λa=>.agg a.toArray
 |_=>none
theorem Oz: ∀{l:List AV} {b:List Value},VE l=some b->l=b.map .v
 |[],b,h=>by simp only[VE,ea]at h;subst h;rfl
 |a::l,b,h=>by cases a<;>simp only[VE,gR,reduceCtorEq]at h;obtain⟨d,c,rfl⟩:=h;rw[Oz c];rfl
theorem nD {u y:Value}(h:valOf p=some u)(r:bf S p y):y=u:=by
 cases p<;>simp only[valOf,gR,ea,reduceCtorEq]at h;case v x=>subst h;exact r
 case agg l=>obtain⟨c,a,rfl⟩:=h;have e:=Oz a;subst e;obtain⟨cs,rfl,b⟩:=r;rw[(Ch S c cs).1 b]
theorem nv {u:Value}(h:valOf p=some u):p.bT=false:=by cases p<;>simp only[valOf,reduceCtorEq]at h<;>rfl
theorem jg.get : ∀{es:List (Value×AV)} {l:List MapEntry},jg S es l->es.length=l.length/\(∀(j:Nat) (k:Value) (p:AV),es[j]? =some (k,p)-> ∃e,l[j]? =some e/\e.key=k/\bf S p e.val)/\
  (∀(j:Nat) (e:MapEntry),l[j]? =some e-> ∃p,es[j]? =some (e.key,p)/\bf S p e.val)
 |[],l,h=>by simp only[jg]at h;subst h;simp
 |(k,a)::es,l,h=>by
  simp only[jg]at h
  obtain⟨e,f,rfl,hk,c,g⟩:=h
  obtain⟨i,m,n⟩:=g.get
  refine⟨by simp [i],?_,?_⟩
  ·intro j o p b
   cases j with
   |zero=>simp at b;obtain⟨rfl,rfl⟩:=b;exact⟨e,zz,hk,c⟩
   |succ j=>simpa using m j o p (by simpa using b)
  ·intro j d b
   cases j with
   |zero=>simp at b;subst b;exact⟨a,by simp [hk],c⟩
   |succ j=>simpa using n j d (by simpa using b)
theorem jg.set : ∀{es:List (Value×AV)} {l:List MapEntry} (j:Nat) {k:Value} {p:AV} {e:MapEntry},jg S es l->e.key=k->bf S p e.val->jg S (es.set j (k,p)) (l.set j e)
 |[],l,j,k,p,e,h,_,_=>by simp only[jg]at h;subst h;simp [jg]
 |(m,a)::es,l,j,k,p,e,h,hk,g=>by
  simp only[jg]at h;obtain⟨i,b,rfl,c,d,f⟩:=h;cases j with
  |zero=>simp;exact⟨e,b,zz,hk,g,f⟩
  |succ j=>simp;exact⟨i,_,zz,c,d,f.set j hk g⟩
theorem jg.append : ∀{es:List (Value×AV)} {l:List MapEntry} {k:Value} {p:AV} {e:MapEntry},jg S es l->e.key=k->bf S p e.val->jg S (es++[(k,p)]) (l++[e])
 |[],l,k,p,e,h,hk,c=>by simp only[jg]at h;subst h;simp;exact⟨e,[],zz,hk,c,zz⟩
 |(j,a)::es,l,k,p,e,h,hk,c=>by simp only[jg]at h;obtain⟨f,g,rfl,b,d,i⟩:=h;simp;exact⟨f,_,zz,b,d,i.append hk c⟩
inductive CC (es:List (Value×AV))(k:Value):Option (Nat×AV)->Prop where
 |none:(∀e∈es,e.1≠k)->CC es k none
 |some {j:_}{p:_}:es[j]? =some (k,p)->CC es k (some (j,p))
section
variable {P:Program}{r:Option Nat}{env:Env}{H:av}{D:List Nat}{dst:Option Nat}{K:Env->av->List Nat->Prop}{Q:dl}
theorem Sq.empty:Sq #[] 0:=⟨zz,aF,aF⟩
theorem aO.vY {T:Nat}(k: ∀b,K (eC env d (.mo b)) ((b,.map [])::H) D):aO P r N (.vY T) (some d) env H D K:=by
 intro o e hd g C a w S L j hs next Q c
 have h:=hs.alloc (x:=.map []) ⟨#[],0,zz,by simp [jg],Sq.empty⟩;have i:=h.put (cD (j▸hd d zz) hs.size) (p:=.mo w.heap.size) (y:=.map (some w.heap.size)) zz (by simp [bf]);cases g with
 |vY f=>refine Oper.ck (.vY f) aF ?_ (by rw[e];exact c _ _ _ _ _ _ _ (k _) i (aI.Le.refl _));simp [execOp,f,Instr.makeMap,newObj,gX]
theorem HH {i:TypeId}(hK:iQ P i z){es:List (Value×AV)}{bV:Array MapEntry}{a:Nat}(hm:jg S es bV.toList)(t:Sq bV a)(q: ∀e∈es,z e.1){k:Value}(hk:z k)
  (y:CC es k o) (w:World):match o with
    |none=>(ga i k bV.toList).run P w= .ok none w
    |some (j,p)=> ∃e,(ga i k bV.toList).run P w= .ok (some (j,e.val)) w/\bV[j]? =some e/\e.key=k/\bf S p e.val:=by
 obtain⟨C,u,v⟩:=hm.get
 have h: ∀x∈bV.toList,z x.key:=by
  intro x hx
  obtain⟨j,f⟩:=dn.1 hx
  obtain⟨p,d,_⟩:=v j x f
  exact q _ (az d)
 rcases hK.find k bV.toList hk h w with⟨m,c⟩|⟨j,e,m,f,he⟩
 ·cases y with
  |none _=>exact m
  |some d=>
   obtain⟨e,he,l,_⟩:=u _ _ _ d
   exact absurd l (c e (az he))
 ·cases y with
  |none c=>
   obtain⟨p,d,_⟩:=v j e f
   exact absurd he (c _ (az d))
  |some d=>
   rename_i ks D
   obtain⟨B,b,g,s⟩:=u _ _ _ d
   have n:j=ks:=by
    have r:=t.2.2
    have a1:(bV.toList.map (·.key))[j]? =some k:=by simp only[ap,f,hG,he]
    have A:(bV.toList.map (·.key))[ks]? =some k:=by simp only[ap,b,hG,g]
    exact(h8 (mz a1) r).1 (a1.trans A.symm)
   subst n
   have:e=B:=by rw[f]at b;cases b;rfl
   subst this
   exact⟨e,m,by simpa using f,he,s⟩
theorem Ez {E:TypeId}{zv:Value}(h:(P.info? E).bind (·.zero)=some zv)(w:World):(zeroValue E).run P w= .ok zv w:=by
 cases hi:P.info? E with
 |none=>grind
 |some i=>rw[hi]at h;have h:i.zero=some zv:=h;simp [zeroValue,typeInfo,hi,h]
def rQ (ok:Bool)(a:AV):Option (Nat×AV)->AV
 |some (_,p)=>match ok with|true=>.cG [p,.v (.bool true)]|false=>p
 |none=>match ok with|true=>.cG [a,.v (.bool false)]|false=>a
def LkV (S:aI)(zv v:Value):Option (Nat×AV)->Prop
 |none=>v=zv
 |some (_,p)=>bf S p v
theorem F6 {ok:Bool}{zv:Value}(h:LkV S zv v o):
  bf S (rQ ok (cv zv) o) (if ok=true then .tuple #[v,.bool o.isSome]else v):=by
 cases o with
 |none=>subst h;cases ok;simpa [rQ]using xa S v;simp;exact⟨[v,.bool false],zz,by simp only[aS];exact⟨_,_,zz,xa S v,_,_,zz,by simp [bf],zz⟩⟩
 |some a=>obtain⟨j,p⟩:=a;simp only[LkV]at h;cases ok;simpa [rQ]using h;simp;exact⟨[v,.bool true],zz,by simp only[aS];exact⟨_,_,zz,h,_,_,zz,by simp [bf],zz⟩⟩
theorem Ee {g E:TypeId}(h:P.underlying T=some (.map g E))(hK:iQ P g z){zv:Value}(n:(P.info? E).bind (·.zero)=some zv){es:List (Value×AV)}{a:Nat}
  (hm:jg S es u.toList) (f:Sq u a) (d: ∀e∈es,z e.1) {k:Value} (hk:z k) (l:CC es k o) (i:w.heap[b]? =some (.map u a)) (ok:Bool):
  ∃v,(h5 T (.map (some b)) k ok).run P w= .ok (if ok=true then .tuple #[v,.bool o.isSome]else v) w/\LkV S zv v o:=by
 have c:=HH hK hm f d hk l w;have hc:=hK.check k hk u.isEmpty w;cases o with
 |none=>simp only at c;refine⟨zv,?_,zz⟩;simp [h5,underlying,h,bl i,hc,c,Ez n]
 |some q=>obtain⟨j,p⟩:=q;obtain⟨e,c,_,_,m⟩:=c;refine⟨e.val,?_,m⟩;simp [h5,underlying,h,bl i,hc,c]
theorem aO.oS {E:TypeId}{i:Operand}{ok:Bool}{ks:List Value}(hK:iQ P A z){zv:Value}(M:(P.info? E).bind (·.zero)=some zv){es:List (Value×AV)}(hx:bG env x= .mo b)
  (F:H[n]? =some (b,.map es)) {kv:Value} (hi:valOf (bG env i)=some kv) (hk:z kv) (q: ∀e∈es,z e.1) (I:CC es kv o) (k:K (cP env dst (rQ ok (cv zv) o)) H D):
  aO P r N (.lookup T x i ok A E ks) dst env H D K:=by
 intro op g hd s C a w S L G hs next Q f
 obtain⟨R,j,bV,m,rfl,hm,u⟩:=(hs.at_ F).holds;have l:=hs.dM x hx zz;simp only[bf]at l;have p:=nD hi (hs.dM i zz (nv hi));cases s with
 |lookup h B y=>obtain⟨v,eD,J⟩:=Ee B hK M hm u q hk I j ok;have c:=F6 (ok:=ok) J;obtain⟨O,t⟩:=hs.mP (λd e=>G▸hd d e) c.sU c;refine Oper.ck (.lookup h B y) aF ?_ (by rw[g];exact f _ _ _ _ _ _ _ k t (aI.Le.refl _));simp only[execOp,h,l,p,eD,c7,c8,bm]
theorem aO.HX {E:TypeId}{i:Operand}{ok:Bool}{ks:List Value}(hK:iQ P A z){zv:Value}(J:(P.info? E).bind (·.zero)=some zv){es:List (Value×AV)}(hx:bG env x= .mi es)
  {kv:Value} (hi:valOf (bG env i)=some kv) (hk:z kv) (q: ∀e∈es,z e.1) (G:CC es kv o) (k:K (cP env dst (rQ ok (cv zv) o)) H D):
  aO P r N (.lookup T x i ok A E ks) dst env H D K:=by
 intro op h hd s C a w S L F hs next Q g
 have c:=hs.dM x hx zz;simp only[bf]at c;obtain⟨b,bV,n,c,j,hm,u⟩:=c;have m:=hs.sin.map _ _ j;have p:=nD hi (hs.dM i zz (nv hi));cases s with
 |lookup l B y=>obtain⟨v,eD,I⟩:=Ee B hK J hm u q hk G m ok;have f:=F6 (ok:=ok) I;obtain⟨M,t⟩:=hs.mP (λd e=>F▸hd d e) f.sU f;refine Oper.ck (.lookup l B y) aF ?_ (by rw[h];exact g _ _ _ _ _ _ _ k t (aI.Le.refl _));simp only[execOp,l,c,p,eD,c7,c8,bm]
def mA (es:List (Value×AV))(k:Value)(v:AV):Option (Nat×AV)->List (Value×AV)
 |some (j,_)=>es.set j (k,v)
 |none=>es++[(k,v)]
def vT (es:List (Value×AV)):Option (Nat×AV)->Nat
 |some (j,_)=>j
 |none=>es.length
theorem Sq.modify {bV:Array MapEntry}{a:Nat}{e:MapEntry}(h:Sq bV a)(g:bV[j]? =some e)(f:MapEntry->MapEntry)(m: ∀x,(f x).born=x.born)(hk:(f e).key=e.key):Sq (bV.modify j f) a:=by
 obtain⟨k,l,d⟩:=h;refine⟨bD,?_,?_⟩;grind;have c:(bV.modify j f).toList.map (·.key)=bV.toList.map (·.key):=by apply bx;intro i;rw[ap,ap,e3,e3,dk];split;rename_i b;subst b;rw[g];simp [hk];rfl
 rw[c];exact d
theorem Sq.push {bV:Array MapEntry}{a:Nat}(h:Sq bV a){k v:Value}(hk: ∀x∈bV.toList,x.key≠k):Sq (bV.push {key:=k,val:=v,born:=a}) (a+1):=by obtain⟨b,c,d⟩:=h;refine⟨by simp [b],?_,?_⟩;grind;grind
theorem tW {e:MapEntry}(a:u[j]? =some e)(f:MapEntry->MapEntry):(u.modify j f).toList=u.toList.set j (f e):=by apply bx;intro i;rw[e3,dk,bA];split;grind;grind
def lA (w:World)(b:Nat)(o:Obj):World:={w with heap:=w.heap.setIfInBounds b o}
theorem Sat.setObj (hs:Sat C env H D a w S L){x y:dp}(h:H[i]? =some (b,x)){o:Obj}(hy:Holds S y o):Sat C env (H.set i (b,y)) D a (lA w b o) S L:=by
 have c:b<w.heap.size:=(hs.at_ h).lt;exact hs.replace h (by simp [lA,c]) hy (by simp [lA]) (λg hg=>by
  show (w.heap.setIfInBounds b o)[g]? =w.heap[g]?
  rw[fk,zj (λe=>hg e.symm)]) zz zz zz
theorem WO {es:List (Value×AV)}{l:List MapEntry}(hm:jg S es l){k:Value}(h: ∀e∈es,e.1≠k): ∀x∈l,x.key≠k:=by intro x hx;obtain⟨j,a⟩:=dn.1 hx;obtain⟨p,b,_⟩:=hm.get.2.2 j x a;exact h _ (az b)
theorem aO.jH {T R E:TypeId}{x i y:Operand}{ks:Value->Prop}(hK:iQ P R ks){b n:Nat}{es:List (Value×AV)}{q:AV}(hx:bG env x= .mo b)(U:H[n]? =some (b,.map es)){kv:Value}
  (hi:valOf (bG env i)=some kv) (hk:ks kv) (I: ∀e∈es,ks e.1) {o:Option (Nat×AV)} (V:CC es kv o) (hy:bG env y=q) (X:q.bT=false)
  (k:K (cP env dst .any) (H.set n (b,.map (mA es kv q o))) D):aO P r N (.jH T x i y R E) dst env H D K:=by
 intro op t hd v C a w S L W hs next Q m
 obtain⟨ob,h,bV,f,rfl,hm,s⟩:=(hs.at_ U).holds;have z:=hs.dM x hx zz;simp only[bf]at z;have F:=nD hi (hs.dM i zz (nv hi));have A:=hs.dM y hy X;have l:=λw=>HH hK hm s I hk V w;have hc:=λw=>hK.check kv hk false w;have fin: ∀g c,(hD T (.map (some b)) kv (a.eval y)).run P w= .ok () (lA w b (.map g c))->Holds S (.map (mA es kv q o)) (.map g c)->op.wpIn (Fw r) 0 P a w next Q:=by
  intro g c eD hh;have O:=hs.setObj U hh;obtain⟨Y,M⟩:=O.mP (λd e=>W▸hd d e) (p:=.any) zz (by simp [bf]);cases v with
  |jH hop B=>refine Oper.wpIn_skip (.jH hop B) aF ?_ (by rw[t];exact m _ _ _ _ _ _ _ k M (aI.Le.refl _));rcases hop with hop|hop<;>simp [execOp,hop,z,F,eD]
 cases v with
 |jH hop B=>
  cases V with
  |none J=>have l:=l w;simp only at l;refine fin (bV.push {key:=kv,val:=a.eval y,born:=f}) (f+1) ?_ ⟨_,_,zz,?_,s.push (WO hm J)⟩;simp [hD,underlying,B,bl h,hc w,l,bI _ h,lA];rw[fv];exact hm.append zz A
  |some Z=>rename_i j p;obtain⟨e,l,G,u,_⟩:=l w;refine fin (bV.modify j λe=>{e with key:=kv,val:=a.eval y}) f ?_ ⟨_,_,zz,?_,s.modify G _ (λ_=>rfl) u.symm⟩;simp [hD,underlying,B,bl h,hc w,l,bI _ h,lA,G,u,hT,hK.same kv hk];rw[tW G];exact hm.set j zz A
theorem aO.qi {T V E:TypeId}{x i:Operand}{z:List Value}{ks:Value->Prop}(hK:iQ P V ks){zv:Value}(hz:(P.info? E).bind (·.zero)=some zv){b n:Nat}{es:List (Value×AV)}(hx:bG env x= .mo b)(W:H[n]? =some (b,.map es)){kv:Value}
  (hi:valOf (bG env i)=some kv) (hk:ks kv) (M: ∀e∈es,ks e.1) {o:Option (Nat×AV)} (X:CC es kv o)
  (k:K (cP env dst (.cG [rQ false (cv zv) o,.v (.int .i64 (vT es o))])) (H.set n (b,.map (mA es kv (rQ false (cv zv) o) o))) D):aO P r N (.qi T x i V E z) dst env H D K:=by
 intro op t hd A C a w S L Z hs next Q q
 obtain⟨ob,h,bV,c,rfl,hm,l⟩:=(hs.at_ W).holds;have B:=hs.dM x hx zz;simp only[bf]at B;have J:=nD hi (hs.dM i zz (nv hi));have m:=λw=>HH hK hm l M hk X w;have hc:=λw=>hK.check kv hk false w;have fin: ∀g f v,(hJ T (.map (some b)) kv).run P w= .ok (.tuple #[v,.int .i64 (vT es o)]) (lA w b (.map g f))->bf S (rQ false (cv zv) o) v->Holds S (.map (mA es kv (rQ false (cv zv) o) o)) (.map g f)->op.wpIn (Fw r) 0 P a w next Q:=by
  intro g f v eD hv hh;have U:=hs.setObj W hh;obtain⟨L',R⟩:=U.mP (λd e=>Z▸hd d e) (p:=.cG [rQ false (cv zv) o,.v (.int .i64 (vT es o))]) zz
   (by simp only[bf];exact⟨[v,.int .i64 (vT es o)],zz,by simp only[aS];exact⟨_,_,zz,hv,_,_,zz,by simp [bf],zz⟩⟩)
  cases A with
  |qi s G F=>refine Oper.ck (.qi s G F) aF ?_ (by rw[t];exact q _ _ _ _ _ _ _ k R (aI.Le.refl _));simp [execOp,s,B,J,eD]
 cases A with
 |qi s G F=>
  cases X with
  |none O=>have m:=m w;simp only at m;have y:(es.length:Int)=(c:Int):=(by rw[l.1,hm.get.1];simp);refine fin (bV.push {key:=kv,val:=zv,born:=c}) (c+1) zv ?_ (xa S zv) ⟨_,_,zz,?_,l.push (WO hm O)⟩;simp [hJ,underlying,G,bl h,hc w,m,Ez hz,bI _ h,lA,vT,goInt,y];rw[fv];exact hm.append zz (xa S zv)
  |some hp=>rename_i j p;obtain⟨e,m,I,u,Y⟩:=m w;have hb:=l.2.1 j e I;refine fin (bV.modify j λe=>{e with key:=kv}) c e.val ?_ Y ⟨_,_,zz,?_,l.modify I _ (λ_=>rfl) u.symm⟩;simp [hJ,underlying,G,bl h,hc w,m,bI _ h,lA,I,u,hT,hK.same kv hk,vT,goInt,hb];rw[tW I];exact hm.set j zz Y
theorem aO.xT {s:Operand}{es:List (Value×AV)}{kv:Value}(hx:bG env x= .mo b)(O:H[n]? =some (b,.map es))(G:bG env s= .v (.int .i64 j))(U:es[j]? =some (kv,p))
  (hy:bG env y=q) (V:q.bT=false) (k:K (cP env dst .any) (H.set n (b,.map (es.set j (kv,q)))) D):aO P r N (.xT T x s y) dst env H D K:=by
 intro op m hd E C a w S L R hs next Q h
 obtain⟨X,c,bV,f,rfl,hm,l⟩:=(hs.at_ O).holds;have z:=hs.dM x hx zz;simp only[bf]at z;have J:=hs.int G;have M:=hs.dM y hy V;obtain⟨e,he,A,_⟩:=hm.get.2.1 _ _ _ U;have g:bV[j]? =some e:=bD;have t:=(fr.1 g).1;have B:bV.findIdx? (λe=>(e.born:Int)==(j:Int))=some j:=by rw[Array.findIdx?_eq_some_iff_getElem];refine⟨t,?_,?_⟩;have:=l.2.1 j bV[j] (by simp [t]);simp [this];intro i hi;have:=l.2.1 i bV[i] (by simp [show i<bV.size from af]);simp [this];omega
 have I:=hs.setObj O (y:=.map (es.set j (kv,q))) (o:=.map (bV.modify j λe=>{e with val:=a.eval y}) f)
  ⟨_,_,zz,by rw[tW g];exact hm.set j A M,l.modify g _ (λ_=>rfl) zz⟩
 obtain⟨W,F⟩:=I.mP (λd e=>R▸hd d e) (p:=.any) zz (by simp [bf]);cases E with
 |xT u=>refine Oper.wpIn_skip (.xT u) aF ?_ (by rw[m];exact h _ _ _ _ _ _ _ k F (aI.Le.refl _));simp [execOp,u,Instr.entryStore,z,J,asInt,asIntOf,bl c,B,bI _ c,lA]
end
variable {ty:TypeId}{m t:Nat}{cs:List AV}
section
variable {P:Program}{r:Option Nat}{env:Env}{H:av}{D:List Nat}{dst:Option Nat}{K:Env->av->List Nat->Prop}{Q:dl}
theorem Sq.Nc {a:Nat}(h:Sq u a):(u.toList.map (·.born)).Nodup:=by
 have e:u.toList.map (·.born)=List.range u.size:=by apply bx;intro i;rw[ap];by_cases hi:i<u.size;have b:=h.2.1 i u[i] (by simp [hi]);simp [hi,b];simp [hi]
 rw[e];exact List.nodup_range
theorem aO.zV {T:Nat}{es:List (Value×AV)}(hx:bG env x= .mi es)(k: ∀b m,K (eC env d (.po b 0)) ((b,.tl m es [])::H) D):aO P r N (.range T x false) (some d) env H D K:=by
 intro o i hd j C a w S L v hs next Q g
 have c:=hs.dM x hx zz;simp only[bf]at c;obtain⟨m,bV,f,c,e,hm,t⟩:=c;have l:=hs.sin.map _ _ e;have q:=hs.alloc (x:=.tl m es []) ⟨bV,f,#[],zz,e,hm,t,zz⟩;have s:=q.put (cD (v▸hd d zz) hs.size) (p:=.po w.heap.size 0) (y:=.pointer (some ⟨w.heap.size,0,none⟩)) zz (by simp [bf]);generalize u:false=st at j;cases j with
 |xD h n=>cases u
 |zV h n=>refine Oper.ck (.zV h n) aF ?_ (by rw[i];exact g _ _ _ _ _ _ _ (k _ _) s (aI.Le.refl _));simp [execOp,h,Instr.range,underlying,n,c,getObj,l,newObj,gX]
theorem aO.aae {es:List (Value×AV)}{seen:List Nat}(hx:bG env x= .po b 0)(X:H[i]? =some (b,.tl m es seen))
  (h1: ∀(j:Nat) (kv:Value) (p:AV),j ∉ seen->es[j]? =some (kv,p)->K (cP env dst (.cG [B true,cv kv,p])) (H.set i (b,.tl m es (seen++[j]))) D)
  (h2:(∀j,j<es.length->j∈seen)->K (cP env dst (.cG [B false])) H D):aO P r N (.next x false ty) dst env H D K:=by
 intro o k hd E C a w S L Y hs next Q f
 obtain⟨ob,G,bV,c,sn,rfl,l,hm,g,u⟩:=(hs.at_ X).holds;have V:=hs.dM x hx zz;simp only[bf]at V;have s:=hs.sin.map _ _ l;have n: ∀y∈bV.toList,y.born<c:=by intro y hy;obtain⟨j,q⟩:=dn.1 hy;have:=g.2.1 j y bD;have O:=mz q;rw[this,g.1];simpa using O
 generalize T:false=st at E;cases E with
 |next h=>
  subst T;rcases run_next_at (P:=P) w o.type b m c c sn bV c G s n (fj _)with⟨h0,eD⟩|⟨e,he,w1,W,eD⟩
  obtain⟨Z,t⟩:=hs.mP (λd e=>Y▸hd d e) (p:=.cG [B false]) zz (by simp only[bf];exact⟨[.bool false],zz,by simp [aS,bf]⟩);have v: ∀j,j<es.length->j∈seen:=(by intro j q;have M:j<bV.size:=(by rw[hm.get.1]at q;simpa using q);have J:leftOf bV sn= #[]:=Array.eq_empty_of_size_eq_zero h0;unfold leftOf at J;rw[Array.filter_eq_empty_iff]at J;have I:=J bV[j] aF;have hb:=g.2.1 j bV[j] (by simp [M]);rw[hb]at I;simp at I;have:j∈sn:=(by simpa using I);rw[<-u];simpa using this);exact Oper.ck (.next h) aF (y:=.tuple #[.bool false]) (w':=w) (by simp [execOp,h,V,eD]) (by rw[k];exact f _ _ _ _ _ _ _ (h2 v) t (aI.Le.refl _));have A:e∈bV.toList/\e.born ∉ sn:=(by unfold leftOf at he;simp at he;exact⟨by simpa using he.1,he.2⟩);obtain⟨j,q⟩:=dn.1 A.1;have z:=g.2.1 j e (by simpa using q);obtain⟨p,hp,hr⟩:=hm.get.2.2 j e q;have F:j ∉ seen:=(by rw[<-u];intro hh;exact A.2 (by rw[z];simpa using hh));have U:Sat C env H D a w1 S L:=by rcases W with rfl|rfl;exact hs;exact hs.grow ⟨zz,zz,zz,fj _,λ_ _=>rfl⟩
  have R:=U.setObj X (y:=.tl m es (seen++[j])) (o:=.mapIter (some m) c (sn.push e.born) c) ⟨bV,c,sn.push e.born,zz,l,hm,g,by rw[fv,u,z]⟩;obtain⟨Z,t⟩:=R.mP (dst:=dst) (λd e=>Y▸hd d e) (p:=.cG [B true,cv e.key,p]) (y:=.tuple #[.bool true,e.key,e.val]) zz
   (by simp only[bf];exact⟨[.bool true,e.key,e.val],zz,by simp only[aS];exact⟨_,_,zz,by simp [bf],_,_,zz,xa S _,_,_,zz,hr,zz⟩⟩)
  exact Oper.ck (.next h) aF (y:=.tuple #[.bool true,e.key,e.val]) (w':=lA w1 b (.mapIter (some m) c (sn.push e.born) c)) (by simp [execOp,h,V,eD,lA,ki])
   (by rw[k];exact f _ _ _ _ _ _ _ (h1 j e.key p F hp) t (aI.Le.refl _))
theorem aO.entry {es:List (Value×AV)}{seen:List Nat}{kv:Value}(hx:bG env x= .po b 0)(B:H[i]? =some (b,.tl m es (seen++[j])))(G:es[j]? =some (kv,p))
  (k:K (cP env dst (.cG [cv kv,p])) H D):aO P r N (.entry x) dst env H D K:=by
 intro o l hd v C a w S L E hs next Q h
 obtain⟨O,f,bV,c,sn,rfl,n,hm,t,J⟩:=(hs.at_ B).holds;have A:=hs.dM x hx zz;simp only[bf]at A;have g:=hs.sin.map _ _ n;obtain⟨e,he,u,I⟩:=hm.get.2.1 _ _ _ G;have F:=t.2.1 j e bD;have s:sn=(seen.toArray).push e.born:=bD;rw[s]at f;have eD:=run_entry_at (P:=P) w b m c seen.toArray bV c e f g (az he) t.Nc;obtain⟨M,z⟩:=hs.mP (λd e=>E▸hd d e) (p:=.cG [cv kv,p]) zz
  (by simp only[bf];exact⟨[e.key,e.val],zz,by simp only[aS];exact⟨_,_,zz,by rw[<-u];exact xa S _,_,_,zz,I,zz⟩⟩)
 cases v with
 |entry q=>exact Oper.ck (.entry q) aF (y:=.tuple #[e.key,e.val]) (w':=w) (by simp [execOp,q,A,eD]) (by rw[l];exact h _ _ _ _ _ _ _ k z (aI.Le.refl _))
def aI.Np (S:aI)(b:Nat)(m:Array MapEntry×Nat):aI:=⟨S.cell,λa=>if a=b then some m else S.map a⟩
def EP (b:Nat)(es:List (Value×AV)):AV->AV
 | .mo a=>if a=b then .mi es else .mo a
 |p=>p
theorem Sat.nh (hs:Sat C env H D a w S L){es:List (Value×AV)}(k:H[i]? =some (b,.map es)):
  ∃j bV c,S.Le j/\j.map b=some (bV,c)/\jg j es bV.toList/\Sq bV c/\Sat C env (H.eraseIdx i) D a w j L:=by
 obtain⟨r,p,bV,c,rfl,hm,n⟩:=(hs.at_ k).holds;have g:S.Le (S.Np b (bV,c)):=⟨λ_ _ _ h=>h,λd m h=>by
  show (if d=b then some (bV,c)else S.map d)=some m
  split
  ·rename_i e
   subst e
   exact absurd (.inr ⟨m,h⟩) (hs.at_ k).apart
  ·exact h⟩
 have f: ∀d,(S.Np b (bV,c)).has d->S.has d\/d=b:=by rintro d (⟨o,v,h⟩|⟨m,h⟩);exact .inl (.inl ⟨o,v,h⟩);have h:(if d=b then some (bV,c)else S.map d)=some m:=h;split at h;rename_i e;exact .inr e;exact .inl (.inr ⟨m,h⟩)
 refine⟨_,bV,c,g,by simp [aI.Np],jg.mono g _ _ hm,n,?_⟩;have q:=hs.qo k;have l:b∈(H++C.F).map (·.1):=bD;refine(hs.drop i).Zc g ⟨λd o v h=>hs.sin.cell d o v h,λd m h=>?_⟩ (λd h=>(f d h).imp id (λe=>by rw[e];exact(hs.at_ k).base)) ?_ ?_;have h:(if d=b then some (bV,c)else S.map d)=some m:=h;split at h;grind;exact hs.sin.map d m h;intro e he hh;rcases f _ hh with h|h
 rcases et.1 he with he'|he';exact(hs.heap e (List.mem_of_mem_eraseIdx he')).apart h;exact(hs.frame e he').apart h;grind
 intro t d e hh;rcases f _ hh with h|h
 exact hs.B2 e h;exact hs.aT t d e (h▸l)
theorem fY.EP {es:List (Value×AV)}{bV:Array MapEntry}{d:Nat}(hm:S.map b=some (bV,d))(j:jg S es bV.toList)(f:Sq bV d): ∀{cs:List AV} {g o:Nat},fY S cs g o->fY S (cs.map (EP b es)) g o
 |[],g,o,h=>by simp [fY]
 |a::cs,g,o,h=>by
  simp only[fY]at h;simp;refine⟨?_,fY.EP hm j f h.2⟩;obtain⟨c,k,l,i⟩:=h.1;refine⟨c,k,l,?_⟩;cases a<;>simp only[Px.EP]<;>try exact i
  rename_i m;split;rename_i e;subst e;simp only[bf]at i ⊢;exact⟨_,bV,d,i,hm,j,f⟩;exact i
theorem bO.nh {es:List (Value×AV)}(n:env t= .pi cs)(l:H[i]? =some (b,.map es)):bO env H D (eC env t (.pi (cs.map (EP b es)))) (H.eraseIdx i) D:=by intro C a w S L hs;obtain⟨k,bV,f,h,c,m,j,d⟩:=hs.nh l;have e:=d.sA n zz;simp at e;obtain⟨g,o,e,hc⟩:=e;exact⟨k,_,h,d.rW zz (by simp;exact⟨g,o,e,fY.EP c m j hc⟩)⟩
end
def bS (P:Program)(D:Nat)(K:TypeId)(k:Value):Prop:=k.formed P K=true/\ ∃L,P.keyLits D K k.cells.toList=some L
def zS (P:Program)(K:TypeId):Bool:=match P.underlying K with|some (.array _ _)|some (.struct _)=>true|_=>false
theorem EQ (n:Nat)(l:Lit):eP n l.toCell l.toCell=true:=by cases l<;>simp [Lit.toCell,eP];exact(MapKept.bytes_beq _ _).2 zz
section
variable {P:Program}{K:TypeId}
theorem ui (a:zS P K=true){k:Value}(h:k.formed P K=true): ∃xs,k= .agg xs:=by
 unfold zS at a;cases b:P.underlying K with
 |none=>grind
 |some d=>
  rw[b]at a;cases k<;>simp only[Value.formed,b]at h;case agg xs=>exact⟨xs,zz⟩
  all_goals (exfalso;cases d<;>simp at a h)
theorem Ki (c:zS P K=true)(b:P.tiled m K=true){x y:Value}{D:Nat}{d f:List Lit}(g:x.formed P K=true)(h:y.formed P K=true)(hx:P.keyLits D K x.cells.toList=some d)(hy:P.keyLits D K y.cells.toList=some f):
  d=f↔x=y:=by obtain⟨xs,rfl⟩:=ui c g;obtain⟨ys,rfl⟩:=ui c h;have ex:=cells_of_lits m K b D _ _ hx;have a:=cells_of_lits m K b D _ _ hy;constructor;intro e;rw[<-e,<-ex]at a;simp only[hR]at a;rw[h9.1 a];grind
theorem iQ.wide {D:Nat}(hm:m<=10000)(z:zS P K=true)(hk:P.keyTypeAt m K=true)(E:P.tiled m K=true):iQ P K (bS P D K) where
 check:=by
  rintro k ⟨n,L,o⟩ em w
  have:=run_checkKey_deep em (10000-m) m K hk w D k L n o
  rwa [show 10000-m+m=10000 from af]at this
 same:=by
  rintro k ⟨n,L,o⟩
  obtain⟨xs,rfl⟩:=ui z n
  have ex:=cells_of_lits m K E D _ _ o
  simp only[hR]at ex
  simp only[eP,beq_self_eq_true,Bool.true_and,gx]
  rintro⟨a,b⟩ s
  rw[ex]at s
  have H: ∀(l:List Value) (p:Value×Value),p∈l.zip l->p.1=p.2/\p.1∈l:=by
   intro l
   induction l with
   |nil=>intro p hp;simp at hp
   |cons c l u=>
    intro p hp
    simp at hp
    rcases hp with rfl|hp
    ·exact⟨zz,aF⟩
    ·exact⟨(u p hp).1,fe _ (u p hp).2⟩
  obtain⟨f,g⟩:=H _ _ s
  simp only at f g
  subst f
  obtain⟨A,_,rfl⟩:=gQ.1 g
  exact EQ _ A
 find:=by
  intro k l v hl w
  rw[run_findKey_eq w z]
  have go: ∀(l:List MapEntry) (i:Nat),(∀x∈l,bS P D K x.key)->((cr K k l i).run P w= .ok none w/\ ∀x∈l,x.key≠k)\/
    ∃j e,(cr K k l i).run P w= .ok (some (i+j,e.val)) w/\l[j]? =some e/\e.key=k:=by
   intro l
   induction l with
   |nil=>exact λi _=>.inl ⟨by simp [cr],aF⟩
   |cons e l u=>
    intro i hl
    obtain⟨n,L,o⟩:=v
    obtain⟨B,F,q⟩:=hl e aF
    obtain⟨r,t,d⟩:=run_equalIn_deep (10000-m) m K hk w D D k e.key L F n B o q
    rw[show 10000-m+m=10000 from af]at t
    rw[Ki z E n B o q]at d
    cases r with
    |true=>
     refine .inr ⟨0,e,?_,zz,(d.1 zz).symm⟩
     simp [cr,hQ,j3,t]
    |false=>
     have y:e.key≠k:=λe=>by have:=d.2 e.symm;cases this
     rcases u (i+1) (λx hx=>hl x (by simp [hx]))with⟨f,g⟩|⟨j,G,f,g,C⟩
     ·refine .inl ⟨by simp [cr,hQ,j3,t,f],?_⟩
      intro x hx
      rcases gm.1 hx with rfl|hx
      ·exact y
      ·exact g x hx
     ·exact .inr ⟨j+1,G,by simp [cr,hQ,j3,t,f];omega,by simpa using g,C⟩
  rcases go l 0 hl with h|⟨j,e,f,g,C⟩
  ·exact .inl h
  ·grind
end
variable {off:Nat}{ys:List (List AV)}{kd:IntKind}
section
variable {P:Program}{r:Option Nat}{env:Env}{H:av}{D:List Nat}{dst:Option Nat}{K:Env->av->List Nat->Prop}{Q:dl}
theorem aO.pK {neg:Bool}{DD:Nat}(hm:m<=10000)(l:zS P T=true)(hk:P.keyTypeAt m T=true)(z:P.tiled m T=true)(hg:P.eqGuardType P.depth T=false){u v:Value}
  (hx:valOf (bG env x)=some u) (hy:valOf (bG env y)=some v) (A:bS P DD T u) (B:bS P DD T v) (b:Bool) (t:b=true↔u=v) (k:K (cP env dst (.v (.bool (if neg=true then !b else b)))) H D):
  aO P r N (.pK neg T x y) dst env H D K:=
 aO.pure zz aF (λo h C a w S L hs=>⟨.bool (if neg=true then !b else b),by
  have n:=nD hx (hs.dM x zz (nv hx))
  have p:=nD hy (hs.dM y zz (nv hy))
  obtain⟨f,E,d⟩:=A
  obtain⟨g,F,e⟩:=B
  obtain⟨s,q,c⟩:=run_equalIn_deep (10000-m) m T hk w DD DD u v E F f g d e
  rw[show 10000-m+m=10000 from af]at q
  rw[Ki l z f g d e]at c
  have j:s=b:=by rw[Bool.eq_iff_iff,c,t]
  subst j
  obtain⟨xs,rfl⟩:=ui l f
  obtain⟨ys,rfl⟩:=ui l g
  have he:(hQ T (.agg xs) (.agg ys)).run P w= .ok s w:=q
  cases h with
  |pK i G=>
   cases neg<;>simp [execOp,i,n,p,eqGuard,hg,binOp,he],by simp [bf]⟩) k
end
variable {ob:Prop}{hs':List Hint}{env':Env}{gs:List (Nat×Bool)}{ls:List aQ}{W:List (Nat×AV)}{Hin:av}{f:FuncId}
section
variable {P:Program}{r:Option Nat}{env:Env}{H:av}{D:List Nat}{Q:dl}
theorem aY.yR : ∀{l1 l2:List aQ} {hs:List Hint} {env env':Env} {hs':List Hint} {ob:Prop},mD P gs H l1 hs env=(env',[],hs',ob)->ob->aY P r N l2 Q env' H D->aY P r N (l1++l2) Q env H D
 |[],l2,hs,env,env',hs',ob,h,o,k=>by simp only[mD,cd]at h;obtain⟨rfl,_,rfl,rfl⟩:=h;exact k
 |l::ls,l2,hs,env,env',hs',ob,h,o,k=>by simp only[mD]at h;split at h;rename_i W c a hx;obtain⟨⟨e,b,g,i⟩,f⟩: ∃q,mD P gs H ls c (fV env W)=q:=⟨_,zz⟩;rw[f]at h;have h:(e,b,g,Xh a i)=(env',[],hs',ob):=(by cases a<;>exact h);simp only[cd]at h;obtain⟨rfl,rfl,rfl,rfl⟩:=h;obtain⟨j,d⟩:=BY o;exact aY.aar (pO hx j).1 (aY.yR f d k);simp only[cd]at h;obtain⟨_,h,_⟩:=h;cases h
theorem bO.ofH (h:H=H'):bO env H D env H' D:=h▸bO.refl env H D
theorem aY.xn (n:Nat){a:List aQ}{hs:List Hint}(h:mD P gs H (ls.take n) hs env=(env',[],hs',ob))(b:ls.drop n=a)(o:ob)(k:aY P r N a Q env' H D):aY P r N ls Q env H D:=by subst b;have:=aY.yR h o k;rwa [e5]at this
theorem BM.xq {Hs:Bool->av}{q:Nat}{l:aQ}{g:List Nat}{b:List (aQ×List Nat)}{a:List AT}(hs:List Hint){c:List Hint}{d:Option Prop}(hi:i≠q)
  (h:CL P [] (Hs false) hs l (only (pY l) env)=some (W,hs',O)) (e:CL P [] (Hs true) hs l (only (pY l) env)=some (W,c,d)) (hk:BR (bX W) (pY l)=true) (o:Lg O) (f:Lg d)
  (k:BM P r N Hs q D (i+1) (fV env W) b a ls env'):BM P r N Hs q D i env ((l,g)::b) ((pY l,bX W,true,true)::a) ls env':=
 .cons (pY l) true true hi (λ_=>(pO h o).1) (λ_=>(pO e f).1) hk (pO (r:=r) (N:=N) (D:=D) h o).2 k
end
variable {cap:Nat}{es:List (List AV)}
section
variable {P:Program}{r:Option Nat}{env:Env}{H:av}{D:List Nat}{dst:Option Nat}{K:Env->av->List Nat->Prop}{Q:dl}
theorem aO.Ot {U E:TypeId}(hx:bG env x= .so b es.length cap)(V:H[i]? =some (b,.arr t 1 cap es))(hy:bG env y= .sl 1 ys)
  (k:K (cP env dst (.v (.int .i64 (min ys.length es.length:Nat)))) (H.set i (b,.arr t 1 cap (ys.take (min ys.length es.length)++es.drop (min ys.length es.length)))) D):aO P r N (.copy T U ty x y E 1) dst env H D K:=by
 intro o A hd B C a w S L hN hs next Q q
 obtain⟨cur,p,c1,c2,c3,c4,c5,c6⟩:=(hs.at_ V).PN;rw[hP]at c1 c5 c6;have hv:=hs.dM x hx zz;simp only[bf]at hv;have a3:=hs.dM y hy zz;generalize a5:(1:Nat)=one at B;cases B with
 |copy I X hj=>
  rename_i j;have O:(P.info? E).map (·.size)=some 1:=bD;have fin: ∀(w':World),(cc #[T,U] o.type #[a.eval x,a.eval y]).run P w= .ok (goInt (min ys.length es.length:Nat)) w'->
    (∃L',Sat C (cP env dst (.v (.int .i64 (min ys.length es.length:Nat)))) (H.set i (b,.arr t 1 cap (ys.take (min ys.length es.length)++es.drop (min ys.length es.length)))) D (a.put dst (goInt (min ys.length es.length:Nat))) w' S L')->o.wpIn (Fw r) 0 P a w next Q:=by
   rintro w' eD ⟨L',a1⟩
   refine Oper.ck (.copy I X hj) aF ?_ (by rw[A];exact q _ _ _ _ _ _ _ k a1 (aI.Le.refl _))
   simp [execOp,I,resolve,invoke,builtin,eD]
  have f: ∀zs:List (List AV),(∀e∈zs,e.length=1)-> ∀n,(zs.take n).flatten=zs.flatten.take n/\(zs.drop n).flatten=zs.flatten.drop n:=by
   intro zs;induction zs with
   |nil=>intro _ n;simp
   |cons z zs ih=>
    intro hz n;have h1:=hz z aF;match z,h1 with
    |[c],_=>
     cases n with
     |zero=>simp
     |succ n=>obtain⟨i1,i2⟩:=ih (λe he=>hz e (by simp [he])) n;simp [i1,i2]
  rcases CA hs.sin a3 with⟨⟨a6,s⟩,rfl⟩|⟨ad,cp,news,s,G,a0,Z,F,R⟩;simp only[hE,Nat.zero_min,List.take_nil,List.drop_zero,eu]at fin;have J:H.set i (b,.arr t 1 cap es)=H:=(by apply bx;intro n;rw[bA];split;rename_i e;subst e;rw[V,zy (mz V)];rfl);rw[J]at fin;apply fin w;rw[hv,s];exact run_copy_none w T U o.type E _ _ es.length cap 0 0 X O aF;exact hs.mP (λd e=>hN▸hd d e) zz (by simp [bf,goInt]);rw[hP]at G;generalize Y:min ys.length es.length=m at fin;have a7:m<=ys.length:=af;have a8:m<=es.length:=af;have hm:(news.take m).length=m:=(by rw[ek,G];omega);have M:=run_copy_row (P:=P) w T U o.type E b 0 es.length cap ad ys.length cp cur.toArray t (news.take m) X O p (by rw[hm,<-Y]) (λj u l=>by
   rw[cA]at l
   split at l
   ·exact Z j u l
   ·cases l) (by rw[hm,List.size_toArray];omega) (λu hu=>F u (ec hu))
  rw[hm]at M;have a4:(cur.take es.length).length=es.length:=(by rw[ek];omega);have h:(ys.take m++es.drop m).length=es.length:=(by simp;omega);have a2:=hs.replace V (y:=.arr t 1 cap (ys.take m++es.drop m)) (w':=w.setRow b (cur.toArray.toList.take 0++news.take m++cur.toArray.toList.drop (0+m)).toArray)
   (setRow_heap w b _ _ _ _ p)
   (by
     refine⟨_,zz,?_,by rw[h];exact c2,c3,?_,?_,?_⟩
     ·simp;omega
     ·intro e he
      rcases et.1 he with he|he
      ·exact R e (ec he)
      ·exact c4 e (ff he)
     ·rw[h,hP]
      have W:(([]:List Value)++news.take m++cur.drop m).take es.length=news.take m++(cur.take es.length).drop m:=by
       rw[eu,e6,hm,cB af,hL]
      simp only[eS,cR]
      rw[W,hS,(f ys R m).1,(f es c4 m).2]
      exact(a0.take m).append (c5.drop m)
     ·rw[h,hP]
      have W:(([]:List Value)++news.take m++cur.drop m).take es.length=news.take m++(cur.take es.length).drop m:=by
       rw[eu,e6,hm,cB af,hL]
      simp only[eS,cR]
      rw[W]
      intro c hc
      rcases et.1 hc with hc|hc
      ·exact F c (ec hc)
      ·exact c6 c (ff hc))
   (setRow_size _ _ _) (λg hg=>setRow_other w b g _ hg) zz zz zz
  refine fin _ (by rw[hv,s];exact M) ?_;exact a2.mP (dst:=dst) (λd e=>hN▸hd d e) zz (by simp [bf,goInt])
end
variable {k kk:Nat}{P:Program}
theorem Be : ∀{es:List (List AV)} {m f:Nat} {e q:List AV},(∀e∈es,e.length=kk)->es[m]? =some e->f+q.length<=kk->(es.set m (bU e f q)).flatten=bU es.flatten (m*kk+f) q
 |[],m,f,e,q,_,h,_=>by simp at h
 |e0::es,0,f,e,q,hk,h,b=>by simp only[List.getElem?_cons_zero,ea]at h;subst h;have a:=hk e0 aF;simp only[hX,h7,Nat.zero_mul,cR,bU];rw[List.take_append_of_le_length af,List.drop_append_of_le_length af];simp [fy]
 |e0::es,m+1,f,e,q,hk,h,b=>by
  simp only[List.getElem?_cons_succ]at h;have a:=hk e0 aF;have d:=Be (es:=es) (m:=m) (f:=f) (e:=e) (q:=q) (λe he=>hk e (by simp [he])) h b;simp only[List.set_cons_succ,h7];rw[d];simp only[bU];have c:(m+1)*kk+f=e0.length+(m*kk+f):=by rw[hO,a];omega
  rw[c,List.take_length_add_append,Nat.add_assoc e0.length,List.drop_length_add_append];simp [fy]
theorem ET {e q:List AV}{f:Nat}(h:f+q.length<=e.length):(bU e f q).length=e.length:=by simp only[bU,ey,ek,List.length_drop];omega
section
variable {r:Option Nat}{env:Env}{H:av}{D:List Nat}{dst:Option Nat}{K:Env->av->List Nat->Prop}{Q:dl}
theorem aO.acI {f:Nat}{e:List AV}(hx:bG env x= .po b off)(hH:H[i]? =some (b,.arr ty kk cap es))(E:off=m*kk+f)(he:es[m]? =some e)
  (hy:bG env y=q) (hq:q.cS=true) (G:(ct q).length=n) (V:(ct q).all AV.dG=true) (a0:f+n<=kk)
  (k:K (cP env dst .any) (H.set i (b,.arr ty kk cap (es.set m (bU e f (ct q))))) D):aO P r N (.store T x y n) dst env H D K:=by
 intro o B hd R C a w S L hN hs next Q v
 obtain⟨cur,u,a2,A,M,hk,hr,Z⟩:=(hs.at_ hH).PN;have hv:=hs.dM x hx zz;simp only[bf]at hv;have X:bf S q (a.eval y):=hs.dM y hy (by cases q<;>simp_all [AV.cS,AV.dG,AV.bT]);have h:=X.cells hq;have t:=h.va V;have s:(a.eval y).cells.toList.length=n:=by rw[h.length,G]
 have U:=mz he;have a1:m*kk+kk<=es.length*kk:=by rw[<-Nat.succ_mul];exact cb kk U
 have a3:es.length*kk<=cap*kk:=cb kk A;have z:=run_storeCells_at P b off ty (a.eval y).cells.toList 0 cur.toArray w u bD t;simp only[ka]at z;have O:e.length=kk:=hk e (az he);have I:=hs.replace hH (y:=.arr ty kk cap (es.set m (bU e f (ct q)))) (w':=w.setRow b (cur.take off++(a.eval y).cells.toList++cur.drop (off+(a.eval y).cells.toList.length)).toArray)
  (setRow_heap w b _ _ _ _ u)
  (by
    have l:(cur.take off++(a.eval y).cells.toList++cur.drop (off+(a.eval y).cells.toList.length)).take (es.length*kk)=(cur.take (es.length*kk)).take off++(a.eval y).cells.toList++(cur.take (es.length*kk)).drop (off+n):=by
     rw[s,e6,cB (by simp only[ey,ek];omega),List.take_take,Nat.min_eq_left af]
     congr 1
     simp only[ey,ek]
     rw[hL]
     congr 1
     omega
    refine⟨_,zz,?_,?_,M,?_,?_,?_⟩
    ·simp;omega
    ·simpa using A
    ·intro x hx
     rcases fu hx with hx|rfl
     ·exact hk x hx
     ·rw[ET af,O]
    ·rw[j6,l,Be hk he af,<-E]
     unfold bU
     rw[G]
     exact((hr.take off).append h).append (hr.drop (off+n))
    ·rw[j6,l]
     intro c hc
     simp only[et]at hc
     rcases hc with (hc|hc)|hc
     ·exact Z c (ec hc)
     ·exact t c hc
     ·exact Z c (ff hc))
  (setRow_size _ _ _) (λg hg=>setRow_other w b g _ hg) zz zz zz
 obtain⟨L',hs'⟩:=I.mP (λd e=>hN▸hd d e) (p:=.any) (y:=undef) zz (by simp [bf]);generalize hW:w.setRow b (cur.take off++(a.eval y).cells.toList++cur.drop (off+(a.eval y).cells.toList.length)).toArray=W at z I hs';cases R with
 |store F hj=>
  rename_i j;refine Oper.wpIn_skip (.store F hj) aF (w':=W) ?_ (by rw[B];exact v _ _ _ _ _ _ _ k hs' (aI.Le.refl _));have Y:(a.eval y).cells.size=j.size:=by simpa using s
  simp [execOp,F,Instr.storeAt,Instr.sureAddr,hv,storeVar,sizeOf,typeInfo,hj,Y,z]
abbrev HR:=Option (List (Nat×AV)×av×List Hint×Option Prop)
def O3 (H:av)(hs:List Hint)(dst:Option Nat)(x y:Operand)(n:Nat)(env:Env):HR:=match hs,dst with
 | .iL i::hs',none=>match bG env x,H[i]? with
  | .po b off,some (a,.cells T cs)=>some ([],H.set i (a,.cells T (bU cs off (ct (bG env y)))),hs',some (a=b/\(bG env y).cS=true/\(ct (bG env y)).length=n/\(ct (bG env y)).all AV.dG=true/\off+n<=cs.length))
  |_,_=>none
 | .Xo i m f e::hs',none=>match bG env x,H[i]? with
  | .po b off,some (a,.arr T kk cap es)=>some ([],H.set i (a,.arr T kk cap (es.set m (bU e f (ct (bG env y))))),hs',
   some (a=b/\off=m*kk+f/\es[m]? =some e/\(bG env y).cS=true/\(ct (bG env y)).length=n/\(ct (bG env y)).all AV.dG=true/\f+n<=kk))
  |_,_=>none
 |_,_=>none
def Tb (P:Program)(gs:Nat->Option Bool)(H:av)(hs:List Hint)(dst:Option Nat)(op:kK)(env:Env):HR:=match QM P gs H hs dst op env with
 |some (W,hs',ob)=>some (W,H,hs',ob)
 |none=>match op with
  | .store _ x y n=>O3 H hs dst x y n env
  |_=>none
theorem Ic {gs:Nat->Option Bool}{hs:List Hint}{op:kK}(h:Tb P gs H hs dst op env=some (W,H1,hs',O))(o:Lg O):R1 P r N op dst env H H1 D W:=by unfold Tb at h;split at h;rename_i u a t hx;simp at h;obtain⟨rfl,rfl,rfl,rfl⟩:=h;exact(B9 hx o).1;split at h;rename_i T x y n;unfold O3 at h;split at h;rename_i i a;split at h;rename_i b off p l cs hx c;simp only[ea,cd]at h;obtain⟨rfl,rfl,rfl,rfl⟩:=h;obtain⟨rfl,d,g,j,k⟩:=o;exact aO.G6 hx c zz d g j k dO;cases h;rename_i i m f e a;split at h;rename_i b off p l kk cap es hx c;simp only[ea,cd]at h;obtain⟨rfl,rfl,rfl,rfl⟩:=h;obtain⟨rfl,q,d,g,j,k,s⟩:=o;exact aO.acI hx c q d zz g j k s dO;cases h;cases h;cases h
def Fu (P:Program)(gs:List (Nat×Bool))(H:av)(hs:List Hint)(l:aQ)(env:Env):HR:=match l.guard with
 |none=>Tb P (tO gs) H hs l.dst l.op env
 |some (t,b)=>match tO gs t,env t with
  |some c,.v (.bool e)=>match c,b with
   |true,true|false,false=>(match Tb P (tO gs) H hs l.dst l.op env with
    |some (W,H1,hs',none)=>some (W,H1,hs',some (e=c))
    |some (W,H1,hs',some q)=>some (W,H1,hs',some (e=c/\q))
    |none=>none)
   |_,_=>match l.dst with
    |some d=>some ([(d,.v undef)],H,hs,some (e=c))
    |none=>none
  |_,.v (.tuple _)=>match l.dst with
   |some d=>some ([(d,.v undef)],H,hs,none)
   |none=>none
  |_,_=>none
def Ow (P:Program)(r:Option Nat)(N:Nat)(l:aQ)(env:Env)(H H1:av)(D:List Nat)(W:List (Nat×AV)):Prop:=match l.guard with
 |none=>R1 P r N l.op l.dst env H H1 D W
 |some (t,b)=>(∃c:Bool,env t= .v (.bool c)/\((c=b/\R1 P r N l.op l.dst env H H1 D W)\/(c≠b/\H1=H/\ ∃d,l.dst=some d/\W=[(d,.v undef)])))\/
  ((∃cs,env t= .v (.tuple cs))/\H1=H/\ ∃d,l.dst=some d/\W=[(d,.v undef)])
theorem yj {hs:List Hint}{l:aQ}(h:Fu P gs H hs l env=some (W,H1,hs',O))(o:Lg O):Ow P r N l env H H1 D W:=by
 unfold Fu at h;unfold Ow;split at h;rename_i hg;first|rw[hg]|skip
 exact Ic h o
 rename_i t b hg;first|rw[hg]|skip
 split at h;rename_i c e hc he;have f:c=b->(match Tb P (tO gs) H hs l.dst l.op env with
   |some (W,H1,hs',none)=>some (W,H1,hs',some (e=c))
   |some (W,H1,hs',some q)=>some (W,H1,hs',some (e=c/\q))
   |none=>none)=some (W,H1,hs',O)-> ∃c:Bool,env t= .v (.bool c)/\((c=b/\R1 P r N l.op l.dst env H H1 D W)\/(c≠b/\H1=H/\ ∃d,l.dst=some d/\W=[(d,.v undef)])):=by
  intro a h
  split at h
  ·rename_i i H0 g hx
   simp at h
   obtain⟨rfl,rfl,rfl,rfl⟩:=h
   exact⟨e,he,.inl ⟨by rw[o,a],Ic hx zq⟩⟩
  ·rename_i i H0 g m hx
   simp at h
   obtain⟨rfl,rfl,rfl,rfl⟩:=h
   obtain⟨j,k⟩:=o
   exact⟨e,he,.inl ⟨by rw[j,a],Ic hx k⟩⟩
  ·cases h
 have neg:c≠b->(match l.dst with
   |some d=>some ([(d,AV.v undef)],H,hs,some (e=c))
   |none=>none)=some (W,H1,hs',O)-> ∃c:Bool,env t= .v (.bool c)/\((c=b/\R1 P r N l.op l.dst env H H1 D W)\/(c≠b/\H1=H/\ ∃d,l.dst=some d/\W=[(d,.v undef)])):=by
  intro a h
  split at h
  ·rename_i d hd
   simp at h
   obtain⟨rfl,rfl,rfl,rfl⟩:=h
   exact⟨e,he,.inr ⟨by rw[o];exact a,zz,d,hd,zz⟩⟩
  ·cases h
 cases c<;>cases b;exact .inl (f zz h);exact .inl (neg aF h);exact .inl (neg aF h);exact .inl (f zz h)
 grind;cases h
def eD (P:Program)(gs:List (Nat×Bool)):List aQ->List Hint->Env->av->Env×av×List aQ×List Hint×Prop
 |[],hs,env,H=>(env,H,[],hs,True)
 |l::ls,hs,env,H=>match Fu P gs H hs l env with
  |some (W,H1,hs',ob)=>match eD P gs ls hs' (fV env W) H1,ob with
   |(e,b,a,h,o),none=>(e,b,a,h,o)
   |(e,b,a,h,o),some p=>(e,b,a,h,p/\o)
  |none=>(env,H,l::ls,hs,True)
theorem aY.uR {l:aQ}(h:Ow P r N l env H H1 D W)(k:aY P r N ls Q (fV env W) H1 D):aY P r N (l::ls) Q env H D:=by
 obtain⟨dst,g,op⟩:=l;unfold Ow at h;cases g with
 |none=>exact aY.cons (aO.mono h bD)
 |some f=>obtain⟨t,b⟩:=f;rcases h with⟨c,hc,h⟩|⟨⟨cs,hc⟩,rfl,d,hd,rfl⟩;rcases h with⟨a,h⟩|⟨a,rfl,d,hd,rfl⟩;subst a;exact aY.Vg hc (aO.mono h (by rintro e h d ⟨rfl,rfl,rfl⟩;exact k));simp only at hd;subst hd;exact aY.no hc a k;simp only at hd;subst hd;exact aY.nop hc k
theorem aY.hAppend : ∀{l1 l2:List aQ} {hs:List Hint} {env env':Env} {H H':av} {hs':List Hint} {ob:Prop},eD P gs l1 hs env H=(env',H',[],hs',ob)->ob->aY P r N l2 Q env' H' D->aY P r N (l1++l2) Q env H D
 |[],l2,hs,env,env',H,H',hs',ob,h,o,k=>by simp only[eD,cd]at h;obtain⟨rfl,rfl,_,rfl,rfl⟩:=h;exact k
 |l::ls,l2,hs,env,env',H,H',hs',ob,h,o,k=>by simp only[eD]at h;split at h;rename_i W H1 c a hx;obtain⟨⟨e,g,b,i,j⟩,f⟩: ∃q,eD P gs ls c (fV env W) H1=q:=⟨_,zz⟩;rw[f]at h;have h:(e,g,b,i,Xh a j)=(env',H',[],hs',ob):=(by cases a<;>exact h);simp only[cd]at h;obtain⟨rfl,rfl,rfl,rfl,rfl⟩:=h;obtain⟨m,d⟩:=BY o;exact aY.uR (yj hx m) (aY.hAppend f d k);simp only[cd]at h;obtain⟨_,_,h,_⟩:=h;cases h
theorem aY.hd {hs:List Hint}(h:eD P gs ls hs env H=(env',H',[],hs',ob))(o:ob)(k:Q .normal env' H' D):aY P r N ls Q env H D:=by have:=aY.hAppend (r:=r) (N:=N) h o (aY.nil k);rwa [j5]at this
theorem aU.hx {hs:List Hint}(h:eD P gs ls hs env H=(env',H',[],hs',ob))(o:ob)(k:Q .normal env' H' D):aU P r N (.ops ls) Q env H D:=aU.ops (aY.hd h o k)
theorem aU.shx {y:bZ}{hs:List Hint}(h:eD P gs ls hs env H=(env',H',[],hs',ob))(o:ob)(k:aU P r N y Q env' H' D):aU P r N (.seq (.ops ls) y) Q env H D:=aU.seq (aU.hx h o k)
end
theorem Own.frozen {A:Nat->Prop}(l:S.In w){T:Nat}(h:Own A S w b (.arr T k cap es)):
  ∃d:aI,S.Le d/\d.In w/\(∀g,d.has g->S.has g\/g=b)/\es.length<=cap/\cap<=maxLen/\gZ d k es b 0:=by obtain⟨cur,a,n,f,i,hk,o,m⟩:=h.PN;refine⟨S.ot b cur,aI.iO h.apart,aI.FI l a,λg hg=>aI.sX hg,f,i,?_⟩;refine lT (aS.mono (aI.iO h.apart) _ _ o) hk m ?_;intro j c e;show (if b=b then cur[0+j]? else S.cell b (0+j))=some c;rw[zy zz,cR];rw[cA]at e;split at e;exact e;cases e
theorem Ev.freeze {T:Nat}(h:Ev P f args (.aT T k es)):Ev P f args (.sl k es):=by
 refine⟨h.1,λS w y l m d=>(h.2 S w y l m d).mono ?_⟩;rintro e w' ⟨v,p,g,rfl,i,c,j,a,o⟩;simp only[cH]at o;rcases o with⟨hy,he,_⟩|⟨b,cap,z,hy,n⟩
 exact⟨v,p,none,zz,i,c,j,a,cH.gW zz (by simp only[bf];exact .inl ⟨⟨_,hy⟩,he⟩)⟩;obtain⟨q,r,s,t,h4,u,x⟩:=n.frozen c;refine⟨v,q,none,zz,i.trans r,s,λg hg=>?_,a,cH.gW zz (by simp only[bf];exact .inr ⟨b,0,cap,hy,h4,u,x⟩)⟩;rcases t g hg with h|rfl;grind;exact .inr n.base
def fK (p q:AV):Prop:= ∀S v,bf S p v->bf S q v
theorem fK.refl (p:AV):fK p p:=λ_ _ h=>h
theorem fK.nil (k:Nat):fK .nil (.sl k []):=λS v h=>by simp only[bf]at h ⊢;exact .inl ⟨⟨_,h⟩,zq⟩
theorem nJ : ∀{l m:List AV} {cs:List Value},fp fK l m->aS S l cs->aS S m cs
 |[],[],cs,_,h=>by simp only[aS]at h ⊢;exact h
 |a::l,b::m,cs,hs,h=>by simp only[aS]at h ⊢;obtain⟨c,d,e,f,g⟩:=h;exact⟨c,d,e,hs.1 S c f,nJ hs.2 g⟩
 |[],_::_,_,h,_=>h.elim
 |_::_,[],_,h,_=>h.elim
theorem Bc {α β:Type}{R:α->β->Prop}: ∀{l:List α} {m:List β} {a:List α} {b:List β},fp R l m->fp R a b->fp R (l++a) (m++b)
 |[],[],_,_,_,k=>k
 |_::_,_::_,_,_,h,k=>⟨h.1,Bc h.2 k⟩
 |[],_::_,_,_,h,_=>h.elim
 |_::_,[],_,_,h,_=>h.elim
theorem yB {R:AV->AV->Prop}: ∀{es a:List (List AV)},fp (fp R) es a->fp R es.flatten a.flatten
 |[],[],_=>trivial
 |_::_,_::_,h=>by simp;exact Bc h.1 (yB h.2)
 |[],_::_,h=>h.elim
 |_::_,[],h=>h.elim
theorem Gm {R:AV->AV->Prop} : ∀{es c:List (List AV)},fp (fp R) es c->(∀e∈es,e.length=k)-> ∀e∈c,e.length=k
 |[],[],_,_,e,he=>by cases he
 |a::es,b::c,h,hk,e,he=>by rcases gm.1 he with rfl|he;rw[<-qO h.1];exact hk a aF;exact Gm h.2 (λe he=>hk e (by simp [he])) e he
 |[],_::_,h,_,_,_=>h.elim
 |_::_,[],h,_,_,_=>h.elim
section
variable {env:Env}{H:av}{D:List Nat}
theorem bO.Va {T:Nat}(c:List (List AV))(q:env t= .aT T k es)(h:fp (fp fK) es c):bO env H D (eC env t (.aT T k c)) H D:=by
 intro C a w S L hs;have f:=hs.env t;rw[q]at f;simp only[cH]at f;have hl:=qO h;refine⟨S,_,aI.Le.refl S,hs.oA ?_ (λb e=>⟨hs.aT t b e,λu r j=>r (hs.lL u t b j e)⟩)⟩;simp only[cH];rcases f with⟨hy,he,i⟩|⟨g,cap,i,hy,d⟩
 grind;right;obtain⟨o,e,cur,l,m,s,h4,n,p,v⟩:=d.holds;refine⟨g,cap,i,bD,d.base,d.apart,o,e,cur,l,m,bD,h4,Gm h n,?_,?_⟩;rw[<-hl];exact nJ (yB h) p;grind
end
theorem isB {a b:Bool}(h:a=b):a=b:=h
open Go.ChangeShapes Go.WideShapes Go.ChangeAt Go.RowKit
inductive Sh where
 |int (k:IntKind)
 |bool
 |str
 |sl (s:Sh)
 |arr (n:Nat) (s:Sh)
 |st (l:List Sh)
mutual
def Sh.sz:Sh->Nat
 | .int _=>1
 | .bool=>1
 | .str=>1
 | .sl _=>1
 | .arr n s=>n*s.sz
 | .st l=>Sh.Ld l
def Sh.Ld:List Sh->Nat
 |[]=>0
 |s::l=>s.sz+Sh.Ld l
end
mutual
def Sh.ok (P:Program):Sh->TypeId->Bool
 | .int k,t=>match P.underlying t with|some (.int b)=>decide (k=b)|_=>false
 | .bool,t=>match P.underlying t with|some .bool=>true|_=>false
 | .str,t=>match P.underlying t with|some .string=>true|_=>false
 | .sl s,t=>match P.underlying t with|some (.slice e)=>P.cellsOf e==s.sz&&decide (0<s.sz)&&s.ok P e|_=>false
 | .arr n s,t=>match P.underlying t with|some (.array c e)=>c==n&&P.cellsOf t==n*s.sz&&P.cellsOf e==s.sz&&s.ok P e|_=>false
 | .st l,t=>match P.underlying t with|some (.struct a)=>P.cellsOf t==Sh.Ld l&&Sh.okL P l a.toList 0|_=>false
def Sh.okL (P:Program):List Sh->List Field->Nat->Bool
 |[],[],_=>true
 |s::l,f::a,o=>f.offset==o&&P.cellsOf f.type==s.sz&&s.ok P f.type&&Sh.okL P l a (o+s.sz)
 |_,_,_=>false
end
def BA (p:List AV->Prop):Nat->List AV->Prop
 |0,l=>l=[]
 |n+1,l=> ∃l1 l2,l=l1++l2/\p l1/\BA p n l2
theorem BA.len {p:List AV->Prop}(h: ∀l,p l->l.length=k/\l.all AV.dG=true): ∀(n:Nat) (l:List AV),BA p n l->l.length=n*k/\l.all AV.dG=true
 |0,l,hl=>by simp only[BA]at hl;subst hl;simp
 |n+1,l,hl=>by simp only[BA]at hl;obtain⟨l1,l2,rfl,c,d⟩:=hl;have a:=h l1 c;have b:=BA.len h n l2 d;exact⟨by rw[ey,a.1,b.1,hO];omega,by rw[j4,a.2,b.2];rfl⟩
mutual
def Fits:Sh->List AV->Prop
 | .int k,l=> ∃n,l=[.v (.int k n)]/\(Lit.int k n).wf=true
 | .bool,l=> ∃b,l=[.v (.bool b)]
 | .str,l=> ∃s:ByteArray,l=[.v (.string s)]/\s.size<=maxLen
 | .sl s,l=> ∃es,l=[.sl s.sz es]/\es.length<=maxLen/\ ∀e∈es,Fits s e
 | .arr n s,l=>BA (Fits s) n l
 | .st ss,l=>pF ss l
def pF:List Sh->List AV->Prop
 |[],l=>l=[]
 |s::ss,l=> ∃l1 l2,l=l1++l2/\Fits s l1/\pF ss l2
end
mutual
theorem Fits.len: ∀(s:Sh) (l:List AV),Fits s l->l.length=s.sz/\l.all AV.dG=true
 | .int k,l,h=>by simp only[Fits]at h;obtain⟨n,rfl,_⟩:=h;simp [Sh.sz,AV.dG,eT]
 | .bool,l,h=>by simp only[Fits]at h;obtain⟨n,rfl⟩:=h;simp [Sh.sz,AV.dG,eT]
 | .str,l,h=>by simp only[Fits]at h;obtain⟨n,rfl,_⟩:=h;simp [Sh.sz,AV.dG,eT]
 | .sl s,l,h=>by simp only[Fits]at h;obtain⟨n,rfl,_⟩:=h;simp [Sh.sz,AV.dG]
 | .arr n s,l,h=>by simp only[Fits]at h;simpa only[Sh.sz]using BA.len (λl hl=>Fits.len s l hl) n l h
 | .st ss,l,h=>by simp only[Fits]at h;simpa only[Sh.sz]using pF.len ss l h
theorem pF.len: ∀(ss:List Sh) (l:List AV),pF ss l->l.length=Sh.Ld ss/\l.all AV.dG=true
 |[],l,h=>by simp only[pF]at h;subst h;simp [Sh.Ld]
 |s::ss,l,h=>by simp only[pF]at h;obtain⟨l1,l2,rfl,c,d⟩:=h;have a:=Fits.len s l1 c;have b:=pF.len ss l2 d;exact⟨by simp [Sh.Ld,a.1,b.1],by rw[j4,a.2,b.2];rfl⟩
end
section
variable {H:Type}{ao:TypeId×Value->H}{W:World}{base:Nat}{held:Bool}
theorem Cy: ∀{l:List AV} {cs:List Value} {b o:Nat},aS (aI.eo W) l cs->l.all AV.dG=true->(∀i,i<cs.length->W.cell? ⟨b,o+i,none⟩=cs[i]?)->fY (aI.eo W) l b o
 |[],_,_,_,_,_,_=>by simp only[fY]
 |a::l,cs,b,o,h,hc,e=>by simp only[aS]at h;obtain⟨c,f,rfl,d,j⟩:=h;simp only[List.all_cons,bs]at hc;simp only[fY];have g:=e 0 aF;refine⟨⟨c,by show W.cell? ⟨b,o,none⟩=some c;simpa using g,bf.GW d hc.1,d⟩,Cy j hc.2 (λi hi=>?_)⟩;have:=e (i+1) (by simpa using hi);rw[show o+1+i=o+(i+1)from af];simpa using this
theorem C9 {a:Addr}{cs:List Value}(h:W.cells? b a n=some cs):cs.length=n/\ ∀i,i<n->W.cell? (a.add i)=cs[i]? :=by unfold World.cells? at h;split at h;refine⟨by simpa using mapM_some_length h,λi hi=>?_⟩;exact mapM_some_get h i i (by simp [hi]);cases h
theorem cell?_spot {a:Addr}(h:W.cell? a=some v):a.spot=none:=by
 unfold World.cell? at h;cases hs:a.spot with
 |none=>rfl
 |some x=>grind
theorem KI {e:TypeId}{s:Sh}{a:Addr}{len:Nat}{b:List (DataW H×List MemPlace)}(hk:P.cellsOf e=s.sz)
  (j: ∀(cs:List Value) (x:DataW H×List MemPlace),fs ao P W base (λ_=>true) held n e cs=some x-> ∃l,aS (aI.eo W) l cs/\Fits s l)
  (ha:a.spot=none) (hl:b.length=len)
  (h: ∀i,i<len->(W.cells? base (a.add (i*P.cellsOf e)) (P.cellsOf e)).bind (fs ao P W base (λ_=>true) held n e)=b[i]?):
  ∀m,m<=len-> ∃es:List (List AV),es.length=m/\(∀l∈es,Fits s l)/\gZ (aI.eo W) s.sz es a.block (a.off+(len-m)*s.sz)
 |0,_=>⟨[],zz,aF,by simp only[gZ]⟩
 |m+1,hm=>by
  obtain⟨es,k,o,p⟩:=KI hk j ha hl h m af
  have hi:=h (len-(m+1)) af
  have f:len-(m+1)<b.length:=af
  rw[bt f,eM]at hi
  obtain⟨cs,hc,t⟩:=hi
  obtain⟨l,r,g⟩:=j _ _ t
  obtain⟨q,d⟩:=C9 hc
  have c:=Fits.len s l g
  refine⟨l::es,by simp [k],?_,?_⟩
  ·intro x hx
   rcases gm.1 hx with rfl|hx
   ·exact g
   ·exact o x hx
  ·simp only[gZ]
   refine⟨c.1,Cy r c.2 (λi hi=>?_),?_⟩
   ·have:=d i af
    rw[hk]at this
    rw[<-this]
    cases a
    simp only at ha
    subst ha
    simp only[addr_add]
   ·rw[show a.off+(len-(m+1))*s.sz+s.sz=a.off+(len-m)*s.sz by
     rw[show len-m=len-(m+1)+1 from af,hO];omega]
    exact p
theorem T4 {e:TypeId}{s:Sh}{cs:List Value}{xs:List (DataW H×List MemPlace)}(hk:P.cellsOf e=s.sz)
  (a: ∀(cs:List Value) (x:DataW H×List MemPlace),fs ao P W base (λ_=>true) held n e cs=some x-> ∃l,aS (aI.eo W) l cs/\Fits s l)
  (hl:xs.length=N) (hc:cs.length=N*s.sz)
  (h: ∀i,i<N->fs ao P W base (λ_=>true) held n e ((cs.drop (i*P.cellsOf e)).take (P.cellsOf e))=xs[i]?):
  ∀m,m<=N-> ∃l:List AV,aS (aI.eo W) l (cs.drop ((N-m)*s.sz))/\BA (Fits s) m l
 |0,_=>⟨[],by simp;exact gM (by rw[hc];exact fj _),by simp only[BA]⟩
 |m+1,hm=>by
  obtain⟨l2,c,f2⟩:=T4 hk a hl hc h m af
  have hi:=h (N-(m+1)) af
  rw[bt af]at hi
  obtain⟨l1,b,f1⟩:=a _ _ hi
  refine⟨l1++l2,?_,by simp only[BA];exact⟨l1,l2,zz,f1,f2⟩⟩
  have:=b.append c
  rw[hk]at this
  rw[show N-m=N-(m+1)+1 from af,hO,Nat.one_mul]at this
  generalize (N-(m+1))*s.sz=o at this
  rw[show cs.drop o=(cs.drop o).take s.sz++cs.drop (o+s.sz)by rw[<-j8,e5]]
  exact this
mutual
theorem reads: ∀(s:Sh) (t:TypeId) (n:Nat) (cs:List Value) (x:DataW H×List MemPlace),s.ok P t=true->fs ao P W base (λ_=>true) held n t cs=some x-> ∃l,aS (aI.eo W) l cs/\Fits s l
 | .int k,t,n,cs,x,hs,h=>by simp only[Sh.ok]at hs;split at hs;rename_i S d;have hk:=of_decide_eq_true hs;subst hk;obtain⟨n,rfl,_,J⟩:=DataW.trod_int d h;exact⟨[.v (.int k n)],by simp [aS,bf],by simp only[Fits];exact⟨n,zz,J⟩⟩;cases hs
 | .bool,t,n,cs,x,hs,h=>by simp only[Sh.ok]at hs;split at hs;rename_i d;obtain⟨b,rfl,_⟩:=DataW.trod_bool d h;exact⟨[.v (.bool b)],by simp [aS,bf],by simp only[Fits];exact⟨b,zz⟩⟩;cases hs
 | .str,t,n,cs,x,hs,h=>by simp only[Sh.ok]at hs;split at hs;rename_i d;obtain⟨b,rfl,_,J⟩:=DataW.trod_string d h;exact⟨[.v (.string b)],by simp [aS,bf],by simp only[Fits];exact⟨b,zz,J⟩⟩;cases hs
 | .sl s,t,n,cs,x,hs,h=>by
  simp only[Sh.ok]at hs;split at hs;rename_i r d;simp only[bs,beq_iff_eq,decide_eq_true_eq]at hs;obtain⟨⟨hk,Q⟩,hs⟩:=hs;rcases DataW.trod_slice d h with⟨rfl,_⟩|⟨a,len,cap,u,K,q,rfl,rfl,_,R,M,p,C,c,g,_⟩
  exact⟨[.sl s.sz []],by simp only[aS,bf];exact⟨_,_,zz,.inl ⟨⟨_,zz⟩,zq⟩,zz⟩,by simp only[Fits];exact⟨[],zz,aF,aF⟩⟩;by_cases hc:cap=0;have e:len=0:=af;subst hc e;exact⟨[.sl s.sz []],by simp only[aS,bf];exact⟨_,_,zz,.inl ⟨⟨_,zz⟩,zq⟩,zz⟩,by simp only[Fits];exact⟨[],zz,aF,aF⟩⟩;have j:a.spot=none:=(by obtain⟨O,I⟩:=g zz;have D: ∃cs,W.cells? base (a.add 0) (P.cellsOf r)=some cs:=(by by_cases e:len=0;have:=I 0 af;subst e;rw[bt af,eM]at this;obtain⟨cs,St,_⟩:=this;exact⟨cs,by simpa using St⟩;have:=c 0 af;rw[bt af,eM]at this;obtain⟨cs,St,_⟩:=this;exact⟨cs,by simpa using St⟩);obtain⟨cs,St⟩:=D;obtain⟨hl,hg⟩:=C9 St;have:=hg 0 af;rw[bt af]at this;have:=cell?_spot this;cases a;simpa [kU]using this);obtain⟨es,z,A,B⟩:=KI (P:=P) (s:=s) hk (λcs x hx=>reads s r q cs x hs hx) j C c len (fj _);refine⟨[.sl s.sz es],?_,by simp only[Fits];exact⟨es,zz,af,A⟩⟩;simp only[aS,bf];refine⟨_,_,zz,.inr ⟨a.block,a.off,cap,?_,af,p,by simpa using B⟩,zz⟩;rw[z];cases a;simp only at j;subst j;rfl
  cases hs
 | .arr N s,t,n,cs,x,hs,h=>by simp only[Sh.ok]at hs;split at hs;rename_i q r d;simp only[bs,beq_iff_eq]at hs;obtain⟨⟨⟨rfl,hk⟩,G⟩,hs⟩:=hs;obtain⟨xs,m,rfl,_,hl,o,E⟩:=DataW.trod_array d h;obtain⟨l,w,y⟩:=T4 (P:=P) (s:=s) G (λcs x hx=>reads s r m cs x hs hx) o af E q (fj _);exact⟨l,by simpa using w,by simp only[Fits];exact y⟩;cases hs
 | .st ss,t,n,cs,x,hs,h=>by simp only[Sh.ok]at hs;split at hs;rename_i L d;simp only[bs,beq_iff_eq]at hs;obtain⟨hk,hs⟩:=hs;obtain⟨xs,q,rfl,_,hl,o,E⟩:=DataW.trod_struct d h;obtain⟨l,w,y⟩:=WT ss L.toList 0 q cs xs hs af (by simpa using o) (λi f F=>E i f (by simpa using F));exact⟨l,by simpa using w,by simp only[Fits];exact y⟩;cases hs
theorem WT: ∀(ss:List Sh) (a:List Field) (o n:Nat) (cs:List Value) (xs:List (DataW H×List MemPlace)),Sh.okL P ss a o=true->cs.length=o+Sh.Ld ss->xs.length=a.length->
  (∀(i:Nat) (f:Field),a[i]? =some f->fs ao P W base (λ_=>true) held n f.type ((cs.drop f.offset).take (P.cellsOf f.type))=xs[i]?)-> ∃l,aS (aI.eo W) l (cs.drop o)/\pF ss l
 |[],[],o,n,cs,xs,_,hl,_,_=>⟨[],by simp only[aS];simp only[Sh.Ld]at hl;exact gM af,by simp only[pF]⟩
 |[],f::a,o,n,cs,xs,hs,_,_,_=>by simp [Sh.okL]at hs
 |s::ss,[],o,n,cs,xs,hs,_,_,_=>by simp [Sh.okL]at hs
 |s::ss,f::a,o,n,cs,xs,hs,hl,hx,h=>by
  simp only[Sh.okL,bs,beq_iff_eq]at hs
  obtain⟨⟨⟨e,hk⟩,c⟩,d⟩:=hs
  simp only[Sh.Ld]at hl
  match xs,hx with
  |x::xs,hx=>
   have b:=h 0 f aF
   obtain⟨l1,j,f1⟩:=reads s f.type n _ x c (by simpa using b)
   obtain⟨l2,k,f2⟩:=WT ss a (o+s.sz) n cs xs d af (by simpa using hx) (λi g hg=>by simpa using h (i+1) g (by simpa using hg))
   refine⟨l1++l2,?_,by simp only[pF];exact⟨l1,l2,zz,f1,f2⟩⟩
   have:=j.append k
   rw[e,hk]at this
   rw[show cs.drop o=(cs.drop o).take s.sz++cs.drop (o+s.sz)by rw[<-j8,e5]]
   exact this
end
end
variable {fn:Func}
def BE:Sh->AV->Prop
 | .st ss,a=> ∃l,a= .agg l/\pF ss l
 | .arr n s,a=> ∃l,a= .agg l/\BA (Fits s) n l
 |s,a=>Fits s [a]
def Fe:List Sh->List AV->Prop
 |[],zs=>zs=[]
 |s::ss,zs=> ∃a b,zs=a::b/\BE s a/\Fe ss b
def kO (P:Program):List Sh->List TypeId->Bool
 |[],[]=>true
 |s::ss,t::a=>s.ok P t&&P.readableRec t&&decide (t<P.types.size)&&kO P ss a
 |_,_=>false
section
variable {H:Type}{ao:TypeId×Value->H}{W:World}
theorem acr {s:Sh}{t:TypeId}{d:DataW H}{p:List MemPlace}(hs:s.ok P t=true)(mC:hC P W .any b t v)(h:DataW.Trod ao P W 0 (λ_=>true) true t v d p):
  ∃a,bf (aI.eo W) a v/\BE s a:=by
 obtain⟨i,h⟩:=h;obtain⟨l,g,e⟩:=reads s t i _ _ hs h;have one: ∀{a:AV},aS (aI.eo W) [a] v.cells.toList->(∀cs,v≠.agg cs)->v.cells= #[v]->bf (aI.eo W) a v:=by intro a g _ hc;rw[hc]at g;simp at g;obtain⟨c,q,⟨rfl,_⟩,u,_⟩:=g;exact u
 cases s with
 |int k=>simp only[Sh.ok]at hs;split at hs;rename_i y f;obtain⟨n,rfl⟩:=okWide_int f mC;simp only[Fits]at e;obtain⟨m,rfl,j⟩:=e;exact⟨_,one g (by intro cs h;cases h) zz,by simp only[BE,Fits];exact⟨m,zz,j⟩⟩;cases hs
 |bool=>simp only[Sh.ok]at hs;split at hs;rename_i f;obtain⟨n,rfl⟩:=okWide_bool f mC;simp only[Fits]at e;obtain⟨m,rfl⟩:=e;exact⟨_,one g (by intro cs h;cases h) zz,by simp only[BE,Fits];exact⟨m,zz⟩⟩;cases hs
 |str=>simp only[Sh.ok]at hs;split at hs;rename_i f;obtain⟨n,rfl⟩:=okWide_string f mC;simp only[Fits]at e;obtain⟨m,rfl,j⟩:=e;exact⟨_,one g (by intro cs h;cases h) zz,by simp only[BE,Fits];exact⟨m,zz,j⟩⟩;cases hs
 |sl s=>simp only[Sh.ok]at hs;split at hs;rename_i r f;have o: ∃a n c,v= .slice a n c:=(by simp only[hC,f,Cell.okWide]at mC;cases v<;>simp_all [Cell.ok]);obtain⟨w,n,c,rfl⟩:=o;simp only[Fits]at e;obtain⟨m,rfl,j⟩:=e;exact⟨_,one g (by intro cs h;cases h) zz,by simp only[BE,Fits];exact⟨m,zz,j⟩⟩;cases hs
 |arr N s=>simp only[Sh.ok]at hs;split at hs;rename_i z r f;have o: ∃cs,v= .agg cs:=(by simp only[hC,f]at mC;obtain⟨cs,h,_⟩:=mC;exact⟨cs,h⟩);obtain⟨cs,rfl⟩:=o;simp only[Fits]at e;exact⟨.agg l,by simp only[bf];exact⟨cs.toList,aF,by simpa [hR]using g⟩,by simp only[BE];exact⟨l,zz,e⟩⟩;cases hs
 |st ss=>simp only[Sh.ok]at hs;split at hs;rename_i x f;obtain⟨cs,rfl,_⟩:=okWide_struct f mC;simp only[Fits]at e;exact⟨.agg l,by simp only[bf];exact⟨cs.toList,aF,by simpa [hR]using g⟩,by simp only[BE];exact⟨l,zz,e⟩⟩;cases hs
theorem NY : ∀{ss:List Sh} {f:List TypeId} {c:List Value} {e:List (DataW H)} {p:List MemPlace},kO P ss f=true->
  (∀(j:Nat) t v,f[j]? =some t->c[j]? =some v->hC P W .any b t v)->e8 ao P W 0 (λ_=>true) true f c e p->
  ∃zs,aS (aI.eo W) zs c/\Fe ss zs/\e.length=f.length
 |[],[],c,e,p,_,_,h=>by
  cases c<;>cases e<;>simp [e8]at h
  exact⟨[],by simp only[aS],by simp only[Fe],zz⟩
 |[],_::_,_,_,_,h,_,_=>by simp [kO]at h
 |_::_,[],_,_,_,h,_,_=>by simp [kO]at h
 |s::ss,t::f,c,e,p,hs,mC,h=>by
  simp only[kO,bs,decide_eq_true_eq]at hs
  obtain⟨⟨⟨n,_⟩,_⟩,o⟩:=hs
  obtain⟨v,i,d,k,p,q,rfl,rfl,_,r,g⟩:=trodAll_cons h
  obtain⟨a,u,f1⟩:=acr n (mC 0 t v aF aF) r
  obtain⟨zs,w,f2,hl⟩:=NY o (λj t v l m=>mC (j+1) t v (by simpa using l) (by simpa using m)) g
  exact⟨a::zs,by simp only[aS];exact⟨v,i,zz,u,w⟩,by simp only[Fe];exact⟨a,zs,zz,f1,f2⟩,by simp [hl]⟩
theorem Fi {j:World}(hl:laidOutB P=true)(k:Below W.heap.size W j): ∀{ss:List Sh} {f:List TypeId} {e:List Value} {a:List (DataW H)} {p:List MemPlace},kO P ss f=true->
  e8 ao P W 0 (λ_=>true) true f e a p->e8 ao P j 0 (λb=>decide (b<W.heap.size)) true f e a p
 |[],[],e,a,p,_,h=>by
  cases e<;>cases a<;>simp [e8]at h ⊢
  exact h
 |[],_::_,_,_,_,h,_=>by simp [kO]at h
 |_::_,[],_,_,_,h,_=>by simp [kO]at h
 |s::ss,t::f,e,a,p,hs,h=>by
  simp only[kO,bs,decide_eq_true_eq]at hs
  obtain⟨⟨⟨_,n⟩,c⟩,m⟩:=hs
  have g:=kx h
  obtain⟨v,r,d,l,p,q,rfl,rfl,rfl,o,i⟩:=trodAll_cons h
  exact trodAll_cons_mk (Below.trod hl n c o k (λx hx=>g x (List.mem_append_left _ hx))) (Fi hl k m i)
end
section
variable {env:Env}{H:av}{D:List Nat}
theorem Sat.Um (hs:Sat C env H D a w S L){x y:dp}(i:H[j]? =some (b,x))(h: ∀o,Holds S x o->Holds S y o):Sat C env (H.set j (b,y)) D a w S L:=by
 have hk:(H.set j (b,y)).map (·.1)=H.map (·.1):=by apply bx;intro k;rw[ap,ap,bA];by_cases e:j=k;grind;rw[zj e]
 refine {hs with heap:=?_,nodup:=?_,aT:=?_};intro e he;rcases fu he with he|rfl
 exact hs.heap e he;have c:=hs.at_ i;obtain⟨o,d,f⟩:=c.holds;exact⟨c.base,c.apart,o,d,h o f⟩
 rw[de,hk,<-de];exact hs.nodup;intro t g e;rw[de,hk,<-de];exact hs.aT t g e
end
def RW (b n cap kk:Nat)(es:List (List AV))(p q:AV):Prop:=p=q\/(p= .so b n cap/\q= .sl kk es)
theorem Jn (h: ∀y,bf S (.so b n cap) y->bf S (.sl kk es) y): ∀{cs a:List AV} {l:List Value},fp (RW b n cap kk es) cs a->aS S cs l->aS S a l
 |[],[],l,_,f=>by simp only[aS]at f ⊢;exact f
 |p::cs,q::a,l,d,f=>by
  simp only[aS]at f ⊢;obtain⟨c,i,e,g,h4⟩:=f;refine⟨c,i,e,?_,Jn h d.2 h4⟩;rcases d.1 with rfl|⟨rfl,rfl⟩
  exact g;exact h c g
 |[],_::_,_,d,_=>d.elim
 |_::_,[],_,d,_=>d.elim
section
variable {env:Env}{H:av}{D:List Nat}
theorem bO.nU {T bo To:Nat}(e:List AV)(g:H[i]? =some (b,.arr T kk cap es))(d:(H.eraseIdx i)[j]? =some (bo,.cells To cs))(h:fp (RW b es.length cap kk es) cs e):
  bO env H D env ((H.eraseIdx i).set j (bo,.cells To e)) D:=by intro C a w S L hs;obtain⟨cur,f,s,k,m,hk,t,p⟩:=(hs.at_ g).PN;have n:=hs.freeze g f;refine⟨_,L,aI.iO (hs.at_ g).apart,n.Um d ?_⟩;rintro o ⟨l,rfl,q,r⟩;refine⟨l,zz,Jn ?_ h q,r⟩;intro y hy;simp only[bf]at hy ⊢;refine .inr ⟨b,0,cap,hy,k,m,lT (aS.mono (aI.iO (hs.at_ g).apart) _ _ t) hk p (λj c d=>?_)⟩;rw[cA]at d;split at d;simp [aI.ot,d];cases d
theorem bO.xI {bo To:Nat}(b:List AV)(e:H[j]? =some (bo,.cells To cs))(h:fp fK cs b):bO env H D env (H.set j (bo,.cells To b)) D:=by intro C a w S L hs;refine⟨S,L,aI.Le.refl S,hs.Um e ?_⟩;rintro o ⟨l,rfl,c,d⟩;exact⟨l,zz,nJ h c,d⟩
end
section
variable {r:Option Nat}{env:Env}{H:av}{D:List Nat}{dst:Option Nat}{K:Env->av->List Nat->Prop}
theorem aO.Zf {T:Nat}{l c:Operand}{z:List Value}(n cp:Nat){nl Z:Int}(hl:bG env l= .v (.int Y nl))(hc:bG env c= .v (.int kd Z))(I:nl=n)(G:Z=cp)(a1:n<=cp)
  (hb:off*cp<=281474976710656) (a0:cp<=9223372036854775807) (R:z.all eT=true)
  (k: ∀b,K (eC env d (.so b (an n (z.map AV.v)).length cp)) ((b,.arr E kk cp (an n (z.map AV.v)))::H) D):aO P r N (.ji T l c E kk off z) (some d) env H D K:=by
 intro o s hd F C a w S L hN hs next Q q
 cases F with
 |ji u V W X f=>
  rename_i j;simp only[not_or]at f;obtain⟨h0,U⟩:=f;have m:z.length=j.size:=hZ.1 U;obtain⟨i,v,hi,B,hv⟩:=kL X;have A:i=j:=bD;subst A;have O:v.cells.size=i.size:=bD;have eD:=run_make w T E i v V W B Y kd (n:Int) (cp:Int) af af bD af;simp at eD;have g:(madeCells v.cells (cp*i.size)).toList=(an cp z).flatten:=by rw[<-O,qb v.cells af,hv]
  have t:(madeCells v.cells (cp*i.size)).toList.length=cp*i.size:=by rw[g];simp [er,m]
  have h:(madeCells v.cells (cp*i.size)).toList.take (n*i.size)=(an n z).flatten:=by rw[g];have e:an cp z=an n z++an (cp-n) z:=(by rw[List.replicate_append_replicate];congr 1;omega);rw[e,hS];have e2:(an n z).flatten.length=n*i.size:=(by simp [er,m]);rw[<-e2,List.take_left'];rfl
  have J:=hs.alloc (x:=.arr E i.size cp (an n (z.map AV.v))) (o:=.cells (madeCells v.cells (cp*i.size)) E (0,0))
   ⟨(madeCells v.cells (cp*i.size)).toList,bD,Nat.le_of_eq t.symm,bD,by unfold maxLen;omega,bD,by
     rw[e4,h]
     exact jQ S z n,by
     intro x hx
     rw[e4,h]at hx
     simp at hx
     obtain⟨l,⟨_,rfl⟩,hx⟩:=hx
     exact gx.1 R x hx⟩
  have M:=J.put (cD (hN▸hd d zz) hs.size) (p:=.so w.heap.size (an n (z.map AV.v)).length cp) (y:=.slice (some ⟨w.heap.size,0,none⟩) n cp) zz (by simp [bf]);subst I G;refine Oper.ck (.ji u V W X bD) aF (y:=.slice (some ⟨w.heap.size,0,none⟩) n cp) (w':=w.alloc (.cells (madeCells v.cells (cp*i.size)) E (0,0))) ?_
   (by rw[s];exact q _ _ _ _ _ _ _ (k _) M (aI.Le.refl _))
  simp [execOp,u,hs.int hl,hs.int hc,eD]
end
section
variable {r:Option Nat}{env:Env}{H:av}{D:List Nat}{dst:Option Nat}{K:Env->av->List Nat->Prop}
abbrev xk (s:ByteArray):List (List AV):=s.data.toList.map λc=>[U c.toNat]
theorem wE (s:ByteArray):(xk s).length=s.size:=by simp_all
theorem L6 (S:aI)(s:ByteArray):aS S (xk s).flatten (cy s):=by
 unfold xk cy;induction s.data.toList with
 |nil=>simp [aS]
 |cons c l a=>show aS S (U c.toNat::(l.map λc=>[U c.toNat]).flatten) (j2 .u8 c.toNat::l.map λc=>j2 .u8 c.toNat);exact⟨_,_,zz,by rw[bf],a⟩
theorem aO.nF {T q ty E bytes:Nat}{z:List Value}{s:ByteArray}(ht:env t= .aT E 1 es)(hy:bG env y= .v (.string s))
  (hb:(es.length+s.size)*bytes<=140737488355328) (hn:es.length+s.size<=9223372036854775807)
  (k:K (eC (eC env t .any) d (.aT E 1 (es++xk s))) H D):aO P r N (.nF T q ty (.tmp t) y E 1 bytes z) (some d) env H D K:=by
 intro o A hd G C a w S L hN hs next Q n
 have X:d<a.tmps.size:=cD (hN▸hd d zz) hs.size;have h:a.eval y= .string s:=hs.int hy;generalize W:1=kk at G;cases G with
 |nF I u x hj hz e=>
  rename_i j;simp at e;obtain⟨a0,a3⟩:=e;obtain⟨i,v,hi,B,a2⟩:=kL hz;have V:i=j:=bD;subst V;have Z:v.cells.size=i.size:=bD;have p:i.size=1:=W.symm;have f:=wE s;have F:=Lib.strCells_length s;have U:(es.length+s.size)*i.bytes<=140737488355328:=hb;obtain⟨v',w',L',eD,M⟩:=Sat.appendCore (P:=P) (t:=t) (E:=E) (es:=es) (i:=i) hs bD X (by rw[Z,p]) (news:=cy s) bD (L6 S s) (Lib.strCells_oneCell s)
   bD bD (run:=bk #[T,q] o.type #[a.tmps.getD t undef,a.eval y])
   (by
     intro m hm
     rw[f]at hm
     have hf:=Lib.run_firstCells_string (P:=P) w 1 s
     rw[hm]at hf
     rw[m,h]
     simp [bk,run_underlying u,run_underlying x,sizeOf,typeInfo,hi,p,e7,hm,hf])
   (by
     intro m _ hm
     rw[f]at hm ⊢
     rw[m,h]
     have O:=run_append_nil_string (P:=P) w T q o.type E i v u x hi B s hm af (by
      have:s.size*i.bytes<=(es.length+s.size)*i.bytes:=cb _ af
      omega)
     have R:(s.data.map λb=>j2 .u8 b.toNat)=(cy s).toArray:=by
      apply kj
      simp [cy]
     rw[R]at O
     exact O)
   (by
     intro g cap cur m J hc c l
     rw[f]at c ⊢
     rw[m,h]
     have O:=Lib.run_append_room_string (P:=P) w T q o.type E i u x hi p g es.length cap cur.toArray J s c (by rw[F,p]at l;simpa using l)
     rw[O,p,F];simp)
   (by
     intro g cap cur m a1 c Y holds
     rw[f]at c ⊢
     rw[m,h]
     exact Lib.run_append_grow_string (P:=P) w T q o.type E i v u x hi B ⟨g,0,none⟩ es.length cap _ Y holds s af af (growslice_fits af U))
  rw[p]at M;refine Oper.ck (.nF I u x hj hz bD) aF (y:=v') (w':=w') ?_ (by rw[A];exact n _ _ _ _ _ _ _ k M (aI.Le.refl _));have R:a.eval (.tmp t)=a.tmps.getD t undef:=rfl;simp only[execOp,I,resolve,invoke,builtin,c7,c8,bm,cx,b9,en,R,eD]
theorem xc (z:Value){i:TypeInfo}(a:z.cells.size=i.size)(b:i.size≠0)(n:Nat):(ds z.cells n).toList=(an n z.cells.toList).flatten:=qb z.cells af n
theorem tZ (w:World)(t u E e:TypeId)(i:TypeInfo)(z:Value){D:IntKind}(v:P.underlying t=some (.slice e))(x:P.underlying u=some (.int D))(hi:P.info? e=some i)(y:i.zero=some z)(m:z.cells.size=i.size)(r:i.size≠0)
  (g a d n:Nat) (cur:Array Value) (hg:w.heap[g]? =some (.cells cur e (0,0))) (A: ∀c∈(an n z.cells.toList).flatten,c.oneCell'=true) (C:n<=9223372036854775807) (B:n*i.bytes<=281474976710656)
  (b:a+n<=d) (s:a*i.size+n*i.size<=cur.size):
  (bk #[t,u] E #[.slice (some ⟨g,0,none⟩) a d,.int kd n]).run P w=
    .ok (.slice (some ⟨g,0,none⟩) (a+n) d) (w.setRow g (cur.toList.take (a*i.size)++(an n z.cells.toList).flatten++cur.toList.drop (a*i.size+n*i.size)).toArray):=by
 have q:((an n z.cells.toList).flatten).length=n*i.size:=by simp [er,m]
 have f:=run_storeCells_at P g (a*i.size) e (an n z.cells.toList).flatten 0 cur w hg bD A;simp only[ka,q]at f;have p:=xc z m r n;have o:fx.wrap (n:Int)=n:=fh af af;have l: ¬((n:Int)<0):=af;have j: ¬(281474976710656<(n:Int)*i.bytes):=bD;by_cases k:n=0;subst k;have o:fx.wrap 0=0:=fh af af;simp [bk,run_underlying v,run_underlying x,sizeOf,typeInfo,zeroValue,hi,y,asInt,asIntOf,o,j9]at f b ⊢;simp [b,f];have hm: ¬(n*i.size=0):=by
  intro h;rcases hF.1 h with h|h
  exact k h;exact r h
 simp [bk,run_underlying v,run_underlying x,sizeOf,typeInfo,zeroValue,hi,y,asInt,asIntOf,o,l,j,b,hm,p,j9,f]
theorem vU (w:World)(t u y e:TypeId)(i:TypeInfo)(z:Value){x:IntKind}(q:P.underlying t=some (.slice e))(r:P.underlying u=some (.int x))(hi:P.info? e=some i)(v:i.zero=some z)(k:z.cells.size=i.size)(l:i.size≠0)
  (n:Nat) (p:0<n) (o:n<=9223372036854775807) (m:n*i.bytes<=281474976710656):
  (bk #[t,u] y #[.slice none 0 0,.int kd n]).run P w=
    .ok (.slice (some ⟨w.heap.size,0,none⟩) n (grownCap w n 0 e)) (w.drew.alloc (.cells ((an n z.cells.toList).flatten.toArray++ds z.cells (grownCap w n 0 e-n)) e)):=by
 have j:=xc z k l n;have s:fx.wrap (n:Int)=n:=fh af af;have f: ¬((n:Int)<0):=af;have b: ¬(281474976710656<(n:Int)*i.bytes):=bD;have d:n≠0:=af;have c: ¬(9223372036854775807<(n:Int)):=af;have a: ¬(281474976710656<fb n 0*i.bytes):=by rw[nextslicecap_zero p];omega
 have hm: ¬(n*i.size=0):=by
  intro h;rcases hF.1 h with h|h
  exact d h;exact l h
 have g:ds z.cells n=(an n z.cells.toList).flatten.toArray:=by rw[<-j]
 simp [bk,run_underlying q,run_underlying r,sizeOf,typeInfo,zeroValue,hi,v,asInt,asIntOf,s,f,b,hm,d,c,a,j7,run_firstCells_none,newRow,grownCap];rw[g]
theorem ua (w:World)(t u I e:TypeId)(i:TypeInfo)(z:Value){H:IntKind}(D:P.underlying t=some (.slice e))(E:P.underlying u=some (.int H))(hi:P.info? e=some i)(G:i.zero=some z)(s:z.cells.size=i.size)(x:i.size≠0)
  (b:Addr) (a c n:Nat) (d:List Value) (p:d.length=a*i.size) (holds: ∀j v,d[j]? =some v->w.cell? (b.add j)=some v) (hg:c<a+n) (q:n≠0) (B:a+n<=9223372036854775807) (A:n*i.bytes<=281474976710656)
  (y:fb (a+n) c*i.bytes<=281474976710656):
  (bk #[t,u] I #[.slice (some b) a c,.int kd n]).run P w=
    .ok (.slice (some ⟨w.heap.size,0,none⟩) (a+n) (grownCap w (a+n) c e))
     (w.drew.alloc (.cells (d.toArray++(an n z.cells.toList).flatten.toArray++ds z.cells (grownCap w (a+n) c e-(a+n))) e)):=by
 have r:=xc z s x n;have F:fx.wrap (n:Int)=n:=fh af af;have l: ¬((n:Int)<0):=af;have g: ¬(281474976710656<(n:Int)*i.bytes):=bD;have C: ¬(a+n<=c):=af;have k: ¬(9223372036854775807<((a:Int)+(n:Int))):=af;have f: ¬(281474976710656<fb (a+n) c*i.bytes):=af;have hm: ¬(n*i.size=0):=by
  intro h;rcases hF.1 h with h|h
  exact q h;exact x h
 have m:ds z.cells n=(an n z.cells.toList).flatten.toArray:=by rw[<-r]
 have o:=run_firstCells_some (P:=P) w.drew i.size a b a c d p (by simpa using holds);simp [bk,run_underlying D,run_underlying E,sizeOf,typeInfo,zeroValue,hi,G,asInt,asIntOf,F,l,g,hm,C,k,f,j7,o,newRow,grownCap];rw[m];congr 2;apply kj;simp [fy]
theorem M7 (S:aI)(z:List Value)(n:Nat):aS S (an n (z.map AV.v)).flatten (an n z).flatten:=jQ S z n
theorem aO.oL {T G ty E bytes:Nat}{z:List Value}{nn:Int}(n:Nat)(ht:env t= .aT E kk es)(hy:bG env y= .v (.int kd nn))(Z:nn=n)
  (hb:(es.length+n)*bytes<=140737488355328) (hn:es.length+n<=9223372036854775807) (a4:z.all eT=true)
  (k:K (eC (eC env t .any) d (.aT E kk (es++an n (z.map AV.v)))) H D):aO P r N (.oL T G ty (.tmp t) y E kk bytes z) (some d) env H D K:=by
 subst Z;intro o M hd X C a w S L hN hs next Q F
 have a1:d<a.tmps.size:=cD (hN▸hd d zz) hs.size;have m:a.eval y= .int kd n:=hs.int hy;cases X with
 |oL O I J hj hz e=>
  rename_i j ku;simp only[not_or]at e;obtain⟨A,a5⟩:=e;obtain⟨i,v,hi,u,a2⟩:=kL hz;have W:i=j:=bD;subst W;have p:v.cells.size=i.size:=bD;have h:v.cells.toList=z:=by rw[a2]
  have U:z.length=i.size:=hZ.1 a5;have B:(an n z).flatten.length=n*i.size:=by simp [er,U]
  have f:(an n (z.map AV.v)).length=n:=e4;have h1: ∀c∈(an n z).flatten,c.oneCell'=true:=by intro x hx;simp at hx;obtain⟨l,⟨_,rfl⟩,hx⟩:=hx;exact gx.1 a4 x hx
  have V:(es.length+n)*i.bytes<=140737488355328:=hb;have a6:n*i.bytes<=(es.length+n)*i.bytes:=cb _ af;obtain⟨v',w',L',eD,a0⟩:=Sat.appendCore (P:=P) hs ht a1 p (by rw[B,f]) (M7 S z n) h1
   bD bD (run:=bk #[T,G] o.type #[a.tmps.getD t undef,a.eval y])
   (by
     intro s hm
     rw[f]at hm
     subst hm
     have hw:fx.wrap 0=0:=fh af af
     rw[s,m]
     simp [bk,run_underlying I,run_underlying J,sizeOf,typeInfo,hi,asInt,asIntOf,hw])
   (by
     intro s _ hm
     rw[f]at hm ⊢
     rw[s,m]
     have:=vU w T G o.type E i v (kd:=kd) I J hi u p A n hm af af
     rw[h]at this
     exact this)
   (by
     intro g cap cur s R hc b q
     rw[f]at b ⊢
     rw[s,m]
     have:=tZ (P:=P) w T G o.type E i v (kd:=kd) I J hi u p A g es.length cap n cur.toArray R (by rw[h];exact h1) af af b (by rw[B]at q;simpa using q)
     rw[h]at this
     rw[this,B])
   (by
     intro g cap cur s a7 b a3 holds
     rw[f]at b ⊢
     rw[s,m]
     have Y:n≠0:=af
     have:=ua (P:=P) w T G o.type E i v (kd:=kd) I J hi u p A ⟨g,0,none⟩ es.length cap n _ a3 holds af Y af af (growslice_fits af V)
     rw[h]at this
     exact this)
  refine Oper.ck (.oL O I J hj hz bD) aF (y:=v') (w':=w') ?_ (by rw[M];exact F _ _ _ _ _ _ _ k a0 (aI.Le.refl _));have e1:a.eval (.tmp t)=a.tmps.getD t undef:=rfl;simp only[execOp,O,resolve,invoke,builtin,c7,c8,bm,cx,b9,en,e1,eD]
end
variable {Q:dl}
section
variable {r:Option Nat}{env:Env}{H:av}{D:List Nat}{dst:Option Nat}{K:Env->av->List Nat->Prop}
theorem aO.ac6 (hx:bG env x= .so b n cap)(hc:cap≠0)(k:K (cP env dst (.po b 0)) H D):aO P r N (.Bh T ty x) dst env H D K:=
 aO.pure zz aF (by
  intro o c C a w S L hs
  have e:=hs.dM x hx zz
  simp only[bf]at e
  cases c with
  |Bh d=>
   refine⟨.pointer (some ⟨b,0,none⟩),?_,by simp [bf]⟩
   have f:=Lib.run_unsafeSliceData_row (P:=P) w #[T] o.type ⟨b,0,none⟩ n cap hc
   simp only[execOp,d,resolve,invoke,builtin,c7,c8,bm,cx,b9,en,e,f]) k
theorem aO.acf (hx:bG env x= .nil)(k:K (cP env dst (.v (.pointer none))) H D):aO P r N (.Bh T ty x) dst env H D K:=
 aO.pure zz aF (by
  intro o b C a w S L hs
  have d:=hs.dM x hx zz
  simp only[bf]at d
  cases b with
  |Bh c=>
   refine⟨.pointer none,?_,by simp [bf]⟩
   have e:=Lib.run_unsafeSliceData_nil (P:=P) w #[T] o.type 0 0
   simp only[execOp,c,resolve,invoke,builtin,c7,c8,bm,cx,b9,en,d,e]) k
theorem aO.ae4 {d:TypeId}(hx:bG env x= .v (.pointer none))(hy:bG env y= .v (.int .i64 0))(k:K (cP env dst (.v (.string ⟨#[]⟩))) H D):aO P r N (.G9 T d ty x y) dst env H D K:=
 aO.pure zz aF (by
  intro o b C a w S L hs
  have g:=hs.int hx
  have f:=hs.int hy
  cases b with
  |G9 c=>
   refine⟨.string .empty,?_,by simp only[bf];rfl⟩
   have e:=Lib.run_unsafeString_none (P:=P) w T d o.type none
   simp only[execOp,c,resolve,invoke,builtin,c7,c8,bm,cx,b9,en,g,f,e]) k
theorem EX : ∀{l cs:List Value},aS S (l.map AV.v) cs->cs=l
 |[],_,h=>h
 |x::l,cs,h=>by rw[b9,aS]at h;obtain⟨c,b,rfl,a,d⟩:=h;rw[bf]at a;rw[a,EX d]
theorem Im (s:ByteArray):(xk s).flatten=(cy s).map AV.v:=by
 unfold xk cy;induction s.data.toList with
 |nil=>rfl
 |cons c l a=>grind
theorem aO.ad5 {J E:TypeId}{s:ByteArray}(hx:bG env x= .po b 0)(hy:bG env y= .v (.int .i64 s.size))(M:H[i]? =some (b,.arr E 1 cap (xk s)))(Z:P.underlying T=some (.pointer E))
  (X:P.cellsOf E=1) (z:s.size≠0) (W:s.size<=9223372036854775807) (k:K (cP env dst (.v (.string s))) (H.eraseIdx i) D):aO P r N (.G9 T J ty x y) dst env H D K:=by
 intro o m hd F C a w S L Y hs next Q h
 have U:=hs.dM x hx zz;simp only[bf]at U;have hu:=hs.int hy;have q:=hs.at_ M;obtain⟨cur,f,h1,V,h3,h4,A,h6⟩:=q.PN;rw[wE]at V A;rw[Im]at A;have l:=EX A;have B:s.data.toList.length=s.size:=by rw[Array.length_toList];rfl
 cases F with
 |G9 n=>
  have R:=Lib.run_unsafeString_row w T J o.type E Z X b cur.toArray.size (by simp [World.shape?,f]) s.data.toList bD bD bD (by
   intro j c O
   rw[addr_add,cR,cell_of_row w b j _ _ _ f]
   have a0:=(bn.1 O).1
   have u:(cur.take (s.size*1))[j]? =some (j2 .u8 c.toNat):=by
    rw[l]
    unfold cy
    rw[ap,O];rfl
   rw[cA]at u
   split at u
   ·simpa using u
   ·cases u)
  rw[B]at R;have G:=hs.replace M (y:=.raw (.cells cur.toArray E (0,s.size))) (w':=w.freeze ⟨b,0,none⟩ s.size) (by
   unfold eU
   rw[zj z]
   simp only[dk,f,if_true,hG]
   simp) zz (by unfold eU;rw[zj z];simp) (λg hg=>by
   unfold eU
   rw[zj z]
   simp only[dk]
   rw[zj (λe=>hg e.symm)]) (by unfold eU;split<;>rfl) (by unfold eU;split<;>rfl) (by unfold eU;split<;>rfl)
  have t:=G.drop i;rw[List.eraseIdx_set_eq]at t;obtain⟨L',I⟩:=t.mP (p:=.v (.string s)) (y:=.string ⟨s.data.toList.toArray⟩) (λd e=>Y▸hd d e) zz (by simp [bf]);refine Oper.ck (.G9 n) aF (y:=.string ⟨s.data.toList.toArray⟩) (w':=w.freeze ⟨b,0,none⟩ s.size) ?_ (by rw[m];exact h _ _ _ _ _ _ _ k I (aI.Le.refl _));simp only[execOp,n,resolve,invoke,builtin,c7,c8,bm,cx,b9,en,U,hu,R]
theorem aU.ada {x:bZ}(i:Nat){T:Nat}(e:H[i]? =some (b,.arr T kk cap es))(h:es.length<=cap->aU P r N x Q env H D):aU P r N x Q env H D:=by intro c hc C a w S L f hs;obtain⟨_,_,_,d,_⟩:=(hs.at_ e).PN;exact h d c hc C a w S L f hs
theorem aU.SN {x:bZ}(t:Nat){T:Nat}{g:Option Addr}(m:env t= .gT T kk es g cap)
  (n:es=[]->g=none->cap=0->aU P r N x Q (eC env t .nil) H D) (o: ∀b,g=some ⟨b,0,none⟩->aU P r N x Q (eC env t (.so b es.length cap)) ((b,.arr T kk cap es)::H) D):aU P r N x Q env H D:=by
 intro c hc C a w S L l hs;have f:=hs.env t;rw[m]at f;simp only[cH]at f;obtain⟨f,_⟩:=f;obtain⟨j,p,_,i⟩:=bO.Ms m C a w S L hs;rcases i.mJ (bN _ _ _)with⟨he,h⟩|⟨b,k,h⟩
 have d:=h.env t;rw[bN]at d;simp only[cH,bf]at d;rw[f]at d;have e:=d.2;simp at e;rw[eX]at h;exact n he e.1 e.2.2 c hc C a w j _ l h;have d:=h.env t;rw[bN]at d;simp only[cH,bf]at d;rw[f]at d;have e:=d.2;simp at e;rw[eX]at h;obtain⟨rfl,_,rfl⟩:=e;exact o b zz c hc C a w j _ l h
theorem bO.soV {T:Nat}(j:env t= .so b n cap)(p:n=es.length)(o:H[i]? =some (b,.arr T kk cap es)):bO env H D (eC env t (.gT T kk es (some ⟨b,0,none⟩) cap)) (H.eraseIdx i) D:=by subst p;intro C a w S L hs;have g:=hs.env t;rw[j]at g;simp at g;obtain⟨l,q,m,f⟩:=bO.lC j o C a w S L hs;obtain⟨r,h,k,c⟩:=f.Ei (bN _ _ _);have d:=c.env t;rw[bN]at d;simp at d;have e:=d.1;rw[g.2]at e;simp at e;obtain⟨rfl,_,rfl⟩:=e;rw[eX]at c;exact⟨l,k,m,c⟩
end
open Go.MapKept
theorem iQ.plain {K:TypeId}{d:TypeDesc}(hd:P.underlying K=some d):iQ P K (IsKey d) where
 check:=λk hk em w=>run_checkKey hd hk em 9999
 find:=by
  intro k l hk hl w
  rcases findNow_spec hk l 0 hl with⟨a,b⟩|⟨j,e,a,b,c⟩
  ·exact .inl ⟨run_findKey hd a,b⟩
  ·exact .inr ⟨j,e,by have:=run_findKey (w:=w) hd a;rwa [cR]at this,b,c⟩
 same:=by
  intro k hk
  cases d<;>cases k<;>simp_all [IsKey,eP,(bytes_beq _ _).2]
structure zY (G:Value->AV->Prop)(es:List (Value×AV)):Prop where
 nd:(es.map (·.1)).Nodup
 ok: ∀e∈es,G e.1 e.2
theorem zY.nil (G:Value->AV->Prop):zY G []:=⟨List.nodup_nil,λ_ h=>by cases h⟩
theorem GU (es:List (Value×AV))(k:Value): ∃o,CC es k o:=by by_cases h: ∃e∈es,e.1=k;obtain⟨⟨b,p⟩,he,rfl⟩:=h;obtain⟨j,a⟩:=hM he;exact⟨some (j,p),.some a⟩;exact⟨none,.none λe he hk=>h ⟨e,he,hk⟩⟩
theorem zY.mono {c:Value->AV->Prop}{es:List (Value×AV)}(h:zY g es)(k: ∀a b,g a b->c a b):zY c es:=⟨h.nd,λe he=>k _ _ (h.ok e he)⟩
theorem EY {es:List (Value×AV)}{k:Value}{v:AV}(a:CC es k o):(mA es k v o).map (·.1)=match o with|none=>es.map (·.1)++[k]|some _=>es.map (·.1):=by
 cases a with
 |none h=>simp [mA]
 | @some j p h=>simp only[mA];apply bx;intro i;rw[ap,ap,bA];by_cases e:j=i;grind;rw[zj e]
theorem zY.put {G:Value->AV->Prop}{es:List (Value×AV)}{k:Value}{v:AV}(n:CC es k o)(h:zY (λa b=>a=k\/G a b) es)(r:G k v):zY G (mA es k v o):=by
 have hk:=EY (v:=v) n;cases n with
 |none m=>
  simp only at hk;refine⟨?_,λe he=>?_⟩;rw[hk,fD];refine⟨h.nd,aF,λa ha b l e=>?_⟩;simp at l;subst l e;obtain⟨x,hx,d⟩:=gQ.1 ha;exact m x hx d;simp only[mA,et,hV]at he;rcases he with he|rfl
  rcases h.ok e he with h1|h1;exact absurd h1 (m e he);exact h1;exact r
 | @some j p q=>
  simp only at hk;refine⟨by rw[hk];exact h.nd,λe he=>?_⟩;simp only[mA]at he;obtain⟨i,hi⟩:=hM he;rw[bA]at hi;by_cases g:j=i;grind;rw[zj g]at hi;rcases h.ok e (az hi)with h1|h1
  exfalso;have a1:(es.map (·.1))[i]? =some k:=(by rw[ap,hi,<-h1];rfl);have f:(es.map (·.1))[j]? =some k:=(by rw[ap,q];rfl);have c:=(bn.1 f).1;have:=(h8 c h.nd).1 (f.trans a1.symm);exact g this;exact h1
theorem zY.M8 {es:List (Value×AV)}(k:Value)(h:zY g es):zY (λa b=>a=k\/g a b) es:=h.mono λ_ _=>.inr
theorem N3 {es:List (Value×AV)}{k:Value}{v:AV}(b:CC es k o):CC (mA es k v o) k (some (vT es o,v)):=by
 cases b with
 |none c=>exact .some (by simp [mA,vT])
 | @some j p a=>exact .some (by simp only[mA,vT];rw[bA,zy zz,zy (bn.1 a).1])
theorem Db {es:List (Value×AV)}{k:Value}(b:CC es k o)(h:zY g es):o=none\/ ∃j p,o=some (j,p)/\g k p:=by
 cases b with
 |none c=>grind
 | @some j p a=>exact .inr ⟨j,p,zz,h.ok _ (az a)⟩
variable {H:av}
def aZ {α X:Type}(f:X->α->J×X):List α->X->J×X
 |[],x=>(.go,x)
 |p::L,x=>match f x p with
  |(.go,a)=>aZ f L a
  |r=>r
section
variable {α:Type}{f:X->α->J×X}
theorem uB: ∀{a b:List α} {x:X},(aZ f a x).1= .go->aZ f (a++b) x=aZ f b (aZ f a x).2
 |[],_,_,_=>rfl
 |p::a,b,x,h=>by
  simp only[ej,aZ]at h ⊢;rcases c:f x p with⟨j,d⟩;rw[c]at h;cases j with
  |go=>exact uB h
  |ret=>cases h
  |exit id=>cases h
theorem pg: ∀{a b:List α} {x:X},(aZ f a x).1≠.go->aZ f (a++b) x=aZ f a x
 |[],_,_,h=>absurd zz h
 |p::a,b,x,h=>by
  simp only[ej,aZ]at h ⊢;rcases c:f x p with⟨j,d⟩;rw[c]at h;cases j with
  |go=>exact pg h
  |ret=>rfl
  |exit id=>rfl
theorem C7 {x:X}{p:α}:aZ f [p] x=f x p:=by simp only[aZ];rcases f x p with⟨j,a⟩;cases j<;>rfl
end
theorem QB {j:J}:j.on=true↔j= .go:=by cases j<;>simp [J.on]
section
theorem iM.perm {R q:AV->av->Prop}(h:iM P f args H R)(o:H.Perm H')(k: ∀r Ho,R r Ho-> ∃a,Ho.Perm a/\q r a):iM P f args H' q:=by
 obtain⟨C,D⟩:=h;refine⟨C,λS w I l m c E n=>?_⟩;have i:AH w H=AH w H':=by funext b;unfold AH;exact propext (or_congr_right ((o.map _).mem_iff))
 refine(D S w I l m c (λe he=>E e (o.subset he)) ((o.map (·.1)).symm.nodup n)).mono ?_;rintro e w' ⟨v,y,g,res,p,he,F,a1,z,s,t,u,x,A,B⟩;obtain⟨a,d,j⟩:=k _ _ F;rw[i]at s t u x;exact⟨v,y,g,res,a,he,j,a1,z,s,t,u,λe he=>x e (d.symm.subset he),(d.map (·.1)).nodup A,λb G hm=>B b G ((d.map (·.1)).symm.subset hm)⟩
theorem Gl.perm {l:Nat}{R q:AV->av->Prop}(h:Gl P l args H R)(o:H.Perm H')(k: ∀r Ho,R r Ho-> ∃a,Ho.Perm a/\q r a):Gl P l args H' q:=by
 intro S w J j m c F n;have f:AH w H=AH w H':=by funext b;unfold AH;exact propext (or_congr_right ((o.map _).mem_iff))
 obtain⟨lp,C,D,E⟩:=h S w J j m c (λe he=>F e (o.subset he)) ((o.map (·.1)).symm.nodup n);refine⟨lp,C,D,E.mono ?_⟩;rintro e w' ⟨v,y,g,res,p,he,G,a1,z,s,t,u,x,A,B⟩;obtain⟨a,d,i⟩:=k _ _ G;rw[f]at s t u x;exact⟨v,y,g,res,a,he,i,a1,z,s,t,u,λe he=>x e (d.symm.subset he),(d.map (·.1)).nodup A,λb I hm=>B b I ((d.map (·.1)).symm.subset hm)⟩
end
section
variable {r:Option Nat}{env:Env}{D:List Nat}
theorem aU.WG {ops:List (aQ×List Nat)}{hs:List Hint}{a:List (List Nat×List Nat)}{c:List (aQ×List Nat)}{m:TypeId}{t:List Nat} 
  (f:List Nat) (i:Nat) (hm:P.follows .mixedOrders=true) (h:BK P gs H ops hs env=(env',a,(⟨none,none,.store T x y n⟩,t)::c,hs',ob)) (g:rk (ops.map (·.2)) (a++[(f,[])])=true) (o:ob)
  (hx:bG (only f env') x= .po b off) (p:H[i]? =some (b,.cells m cs)) (hy:bG (only f env') y=q) (s:q.cS=true) (l:(ct q).length=n) (j:(ct q).all AV.dG=true) (d:off+n<=cs.length)
  (e:H.set i (b,.cells m (bU cs off (ct q)))=H) (k:aY P r N (c.map (·.1)) Q env' H D):aU P r N (.nj ops) Q env H D:=by refine aU.nj hm (wg.run h o (wg.cons (W:=[]) f ?_ zz zz wg.nil)) g k;exact aO.G6 hx p hy s l j d ⟨zz,e,zz⟩
end
section
variable {r:Option Nat}{env:Env}{D:List Nat}{ops:List (aQ×List Nat)}
theorem gy.opX {dst:Option Nat}{l:kK}{I:List Nat}(A:ops.drop j=(⟨dst,none,l⟩,I)::s)(M:jS 0 (ops.map (·.2))=true)(m:IX (qZ [] (ops.map (·.2))) j ops.length=true)
  (h:ni P r N l dst env H D (λb H' i=>gy P r N ops (j+1) Q b H' i) (λch b H' i=>Q (.panic ch) b H' i)):gy P r N ops j Q env H D:=by
 intro arr ls d p C a w S L F hs c t q hl R;obtain⟨J,K,h4⟩:=vp d p;have e:ops[j]? =some (⟨dst,none,l⟩,I):=by have:=congrArg (λx=>x[0]?) A;simpa using this
 have G:j<arr.size:=h4▸(bn.1 e).1;obtain⟨c,rfl⟩: ∃f,c=f+1:=⟨c-1,af⟩;obtain⟨o,O,n,z,E,hg⟩:=(It d K G e).at_;have B:o.guard=none:=by rcases hg with⟨_,hg⟩|⟨_,_,_,hg,_⟩;exact hg;cases hg
 refine Kh J M (h4▸m) q G hl ?_;simp only[wpOpIn,O,gG B,if_true];exact h o n z E C a w S L F hs _ _ (λb H' i y w' v u hk g _=>hk arr ls d p C _ w' v u F g c _ (by simpa using q) (Bu hl) af) (λch b H' i w' v u k g=>⟨b,H',i,v,u,g,k⟩)
theorem gy.op {dst:Option Nat}{l:kK}{g:List Nat}{c:List (aQ×List Nat)}(d:ops.drop j=(⟨dst,none,l⟩,g)::c)(f:jS 0 (ops.map (·.2))=true)(b:IX (qZ [] (ops.map (·.2))) j ops.length=true)
 (h:aO P r N l dst env H D (λa H' e=>gy P r N ops (j+1) Q a H' e)):gy P r N ops j Q env H D:=gy.opX d f b h.toX
theorem gy.end (a:(jS 0 (ops.map (·.2))&&Nat.ble ops.length j)=true)(k:Q .normal env H D):gy P r N ops j Q env H D:=by simp only[bs]at a;exact gy.nil (Nat.le_of_ble_eq_true a.2) k
end
section
variable {r:Option Nat}{env:Env}{D:List Nat}{dst:Option Nat}{K:Env->av->List Nat->Prop}
theorem Fc {T:Nat}(b:P.underlying T=some (.slice E))(d:Nat)(a:Option Addr)(n c:Nat)(w:World):(kp (d+1) T (.slice a n c) (.slice none 0 0)).run P w= .ok a.isNone w:=by cases a<;>simp [kp,underlying,b,Result.andThen]
theorem aO.aaW {T:Nat}(s:P.underlying T=some (.slice E))(t:P.eqGuardType P.depth T=false)(hx:bG env x= .sl kk es)(hy:bG env y= .nil)
  (k: ∀b:Bool,(b=true->es=[])->K (cP env dst (.v (.bool b))) H D):aO P r N (.pK false T x y) dst env H D K:=by
 intro o g hd i C a w S L u hs next Q c
 have f:=hs.dM y hy zz;simp only[bf]at f;have l:=hs.dM x hx zz;simp only[bf]at l;have key: ∃b:Bool,(b=true->es=[])/\(execOp a.eval o).run P w= .ok (.value (.bool b)) w:=by
  cases i with
  |pK j z=>rcases l with⟨⟨m,q⟩,he⟩|⟨bb,off,cap,q,_⟩;refine⟨m.isNone,λ_=>he,?_⟩;have he:(hQ T (.slice m 0 0) (.slice none 0 0)).run P w= .ok m.isNone w:=Fc s 9999 m 0 0 w;simp [execOp,j,q,f,eqGuard,binOp,he];refine⟨false,(λh=>by cases h),?_⟩;have he:(hQ T (.slice (some ⟨bb,off,none⟩) es.length cap) (.slice none 0 0)).run P w= .ok false w:=Fc s 9999 (some ⟨bb,off,none⟩) es.length cap w;simp [execOp,j,q,f,eqGuard,binOp,he]
 obtain⟨b,A,eD⟩:=key;obtain⟨B,n⟩:=hs.mP (λd e=>u▸hd d e) (p:=.v (.bool b)) (y:=.bool b) zz (by simp [bf]);exact Oper.ck i aF eD (by rw[g];exact c _ _ _ _ _ _ _ (k b A) n (aI.Le.refl _))
end
variable {w':World}{rs:List ResultVar}{dst:Option Nat}{ps qs:List AV}{lc:bZ}{K:Env->av->List Nat->Prop}
section
variable {r:Option Nat}{env:Env}{D:List Nat}
theorem aY.aad {l:kK}(h:ni P r N l dst env H D (λb H' d=>aY P r N ls Q b H' d) (λch b H' d=>Q (.panic ch) b H' d)):aY P r N (⟨dst,none,l⟩::ls) Q env H D:=by
 intro arr is hm C a w S L q hs;cases is with
 |nil=>cases hm
 |cons i is=>obtain⟨u,ls',e,s,p⟩:=hm;cases e;obtain⟨o,t,f,hd,n,hg⟩:=s.at_;have m:o.guard=none:=bD;simp only[wpOpsIn,t,gG m,if_true];exact h o f hd n C a w S L q hs _ _ (λb H' d y w' j g k c _=>k arr is p C _ w' j g q c) (λch b H' d w' j g k c=>⟨b,H',d,j,g,c,k⟩)
theorem Sat.PK (hs:Sat C env (Hin++H0) D a w S L)(hd: ∀d,dst=some d->d<C.N){R:Out->av->Prop}{e:Ending}(h:MZ S w Hin R e w'):
  (∃v res c k j,e= .returned v/\R (.ret res) c/\Sat C (cP env dst res) (c++H0) D (a.put dst v) w' k j/\S.Le k)\/(∃ch c k j,e= .panicked ch/\R (.pan ch) c/\Sat C env (c++H0) D a w' k j):=by obtain⟨k,c,l,n,i,f,r,o,s⟩:=h;rcases s with⟨v,g,res,rfl,q,t,hg⟩|⟨ch,rfl,q⟩;obtain⟨j,m⟩:=hs.ye hd l n i f t r o hg;exact .inl ⟨v,res,c,k,j,zz,q,m,l⟩;obtain⟨j,m⟩:=hs.ye (dst:=none) (p:=.any) (v:=undef) (λd e=>by cases e) l n i f (cH.gW zz (by simp [bf])) r o (λb e=>by cases e);exact .inr ⟨ch,c,k,j,zz,q,m⟩
theorem EvX.ym {R:Out->av->Prop}{m:List PanicEntry->Env->av->List Nat->Prop}(d:EvX P f qs Hin R)(g:mg ps qs)(k: ∀res b,R (.ret res) b->K (cP env dst res) (b++H0) D)(o: ∀ch b,R (.pan ch) b->m ch env (b++H0) D):qu P f dst env (Hin++H0) D K m ps:=λC a w S L hs hd p n=>⟨d.1,(d.2 S w _ hs.gl hs.sin (g S _ n) hs.uA.1 hs.uA.2).mono (by
 intro e w' he;rcases hs.PK hd he with⟨v,res,b,i,h,rfl,j,c,l⟩|⟨ch,b,i,h,rfl,j,c⟩;exact .inl ⟨v,_,_,_,i,h,zz,k res b j,c,l⟩;exact .inr ⟨ch,_,_,_,i,h,zz,o ch b j,c⟩)⟩
theorem ni.panic {y:Value}{g:List PanicEntry->Env->av->List Nat->Prop}(hx:bG env x= .v (.iface T y))(i:g [{v:=.iface T y,recovered:=false}] env H D):ni P r N (.panic x) dst env H D K g:=by
 intro o h hd e C a w S L j hs next Q f c
 have d:=hs.dM x hx zz;simp only[bf]at d;cases e with
 |panic b=>
  refine⟨λ_ _=>trivial,?_⟩;show o.uponIn (Fw r) 0 P a next Q ((o.semAt r a.eval).run P w)
  have eD:(execOp a.eval o).run P w= .halt (.panic (.iface T y)) w:=by simp [execOp,b,d,Instr.panic]
  rw[Lo.semAt (Lo.panic (P:=P) b) aF,eD,Oper.uponIn_panic];exact c _ _ _ _ _ _ _ i hs
end
section
variable {r:Option Nat}{env:Env}{D:List Nat}
theorem aO.aaC {U E:TypeId}{p:Nat}(hx:bG env x= .so b es.length cap)(B:H[i]? =some (b,.arr p kk cap es))(hy:bG env y= .sl kk ys)(c:ys.length=es.length)
  (k:K (cP env dst (.v (.int .i64 es.length))) (H.set i (b,.arr p kk cap ys)) D):aO P r N (.copy T U ty x y E kk) dst env H D K:=by
 intro o q hd s C a w S L hN hs next Q h
 obtain⟨cur,f,c1,c2,c3,c4,c5,c6⟩:=(hs.at_ B).PN;have Y:=hs.dM x hx zz;simp only[bf]at Y;have a0:=hs.dM y hy zz;generalize u:kk=one at s;cases s with
 |copy z G J=>
  rename_i j;have X:j.size=kk:=u.symm;have fin: ∀(w':World),(cc #[T,U] o.type #[a.eval x,a.eval y]).run P w= .ok (goInt es.length) w'->
    (∃L',Sat C (cP env dst (.v (.int .i64 es.length))) (H.set i (b,.arr p kk cap ys)) D (a.put dst (goInt es.length)) w' S L')->o.wpIn (Fw r) 0 P a w next Q:=by
   rintro w' eD ⟨L',R⟩
   refine Oper.ck (.copy z G J) aF ?_ (by rw[q];exact h _ _ _ _ _ _ _ k R (aI.Le.refl _))
   simp [execOp,z,resolve,invoke,builtin,eD]
  rcases CA hs.sin a0 with⟨⟨F,m⟩,rfl⟩|⟨ad,cp,news,m,l,O,M,t,Z⟩;have I:es=[]:=(by rw[hE]at c;exact List.length_eq_zero_iff.1 c.symm);subst I;have A:H.set i (b,.arr p kk cap [])=H:=(by apply bx;intro n;rw[bA];split;rename_i e;subst e;rw[B,zy (mz B)];rfl);rw[A]at fin;apply fin w;rw[Y,m];have hl: ∀(x:Addr),(loadCells x 0).run P w= .ok #[] w:=λx=>(by simpa using run_loadCells_list w x [] aF);cases F<;>simp [cc,run_underlying G,e7,ew,sizeOf,typeInfo,J,storeCells,hl];exact hs.mP (λd e=>hN▸hd d e) zz (by simp [bf,goInt]);have St:cur.length=news.length+(cur.length-news.length):=(by have:=cb kk c2;rw[l,c];omega);have hl:=run_loadCells_list (P:=P) w ad news M;have W:=run_storeCells_at P b 0 p news 0 cur.toArray w f (by simp;omega) t;have eD:(cc #[T,U] o.type #[a.eval x,a.eval y]).run P w= .ok (goInt es.length) (w.setRow b (cur.toArray.toList.take 0++news++cur.toArray.toList.drop (0+news.length)).toArray):=(by rw[Y,m];rw[l,c]at hl;simp [cc,run_underlying G,e7,ew,sizeOf,typeInfo,J,X,c,hl];simpa using congrArg (λx=>x.andThen λ_ w'=>Result.ok (goInt es.length) w') W);have V:=hs.replace B (y:=.arr p kk cap ys) (w':=w.setRow b (cur.toArray.toList.take 0++news++cur.toArray.toList.drop (0+news.length)).toArray)
   (setRow_heap w b _ _ _ _ f)
   (by
     have e1:(([]:List Value)++news++cur.drop news.length).take (ys.length*kk)=news:=by
      rw[eu,e6,cB af,l,kb,eS,j5]
     refine⟨_,zz,?_,by rw[c];exact c2,c3,Z,?_,?_⟩
     ·simp;omega
     ·simp only[eS,cR]
      rw[e1];exact O
     ·simp only[eS,cR]
      rw[e1];exact t)
   (setRow_size _ _ _) (λg hg=>setRow_other w b g _ hg) zz zz zz
  apply fin _ eD;exact V.mP (λd e=>hN▸hd d e) zz (by simp [bf,goInt])
theorem aO.aea {U E:TypeId}(hx:bG env x= .nil)(hy:bG env y= .sl kk [])
  (k:K (cP env dst (.v (.int .i64 0))) H D):aO P r N (.copy T U ty x y E kk) dst env H D K:=by
 intro o g hd h C a w S L z hs next Q c
 have t:=hs.dM x hx zz;simp only[bf]at t;have l:=hs.dM y hy zz;generalize u:kk=one at h;cases h with
 |copy i n q=>
  rename_i j;have eD:(cc #[T,U] o.type #[a.eval x,a.eval y]).run P w= .ok (goInt 0) w:=by
   have hl: ∀(x:Addr),(loadCells x 0).run P w= .ok #[] w:=λx=>(by simpa using run_loadCells_list w x [] aF);simp only[bf,gZ,hE]at l;rcases l with⟨⟨m,f⟩,_⟩|⟨b,off,cap,f,_⟩
   rw[t,f];cases m<;>simp [cc,run_underlying n,e7,ew,sizeOf,typeInfo,q,hl];rw[t,f];simp [cc,run_underlying n,e7,ew,sizeOf,typeInfo,q,hl]
  obtain⟨A,s⟩:=hs.mP (p:=.v (.int .i64 0)) (y:=goInt 0) (λd e=>z▸hd d e) zz (by simp [bf,goInt]);refine Oper.ck (.copy i n q) aF ?_ (by rw[g];exact c _ _ _ _ _ _ _ k s (aI.Le.refl _));simp [execOp,i,resolve,invoke,builtin,eD]
end
section
variable {r:Option Nat}{env:Env}{D:List Nat}
theorem aO.nk {h m:Operand}{b:Option Addr}(hx:bG env x= .v (.slice b n cap))(hh:bG env h= .v (.int .i64 n))(hm:bG env m= .v (.int .i64 n))(g:n<=cap)
  (k:K (cP env dst (.v (.slice b n n))) H D):aO P r N (.oB T x none (some h) (some m) kk) dst env H D K:=
 aO.pure zz aF (λo hl C a w S L hs=>by
  have l:=hs.dM x hx zz
  have d:=hs.dM h hh zz
  have f:=hs.dM m hm zz
  simp only[bf]at l d f
  cases hl with
  |oB i s u=>
   rename_i E j
   refine⟨.slice b n n,?_,by simp only[bf]⟩
   have t: ∀(c:Nat) (e:_),n<=c->(j0 (.int .i64 n) c e).run P w= .ok n w:=by
    intro c e hc
    simp [j0,asIntOf,hc]
   have p:(if n=0 then b else b.map λx=>x.add 0)=b:=by
    cases b with
    |none=>simp
    |some q=>
     have:q.add 0=q:=by cases q;simp [kU]
     simp [this]
   simp [execOp,i,Instr.sliceAt,Instr.slice,Instr.sliceBounds,underlying,s,l,d,f,t,g,sizeOf,typeInfo,u,p]) k
end
def adC:Option (Nat×Nat)->Option Addr|none=>none|some g=>some ⟨g.1,0,none⟩
def IB:Option (Nat×Nat)->Nat|none=>0|some g=>g.2
abbrev Bw (y:Option (Nat×Nat))(n:Nat):AV:=.v (.slice (adC y) n (IB y))
def ze (y:Option (Nat×Nat))(T k:Nat)(es:List (List AV)):av:=match y with|none=>[]|some g=>[(g.1,.arr T k g.2 es)]
section
variable {r:Option Nat}{env:Env}{D:List Nat}
theorem Gq (l:List X)(x:X):(l++[x]).eraseIdx l.length=l:=by rw[List.eraseIdx_append_of_length_le (fj _),kb];simp
theorem bO.Pg {T:Nat}{y:Option (Nat×Nat)}(j:env t=Bw y n)(o:n=es.length)(hy:y=none->es=[]):bO env (H++ze y T k es) D (eC env t (.aT T k es)) H D:=by
 subst o;cases y with
 |none=>
  rw[hy zz]at j ⊢;intro C a w S L hs;have hs:Sat C env H D a w S L:=by simpa [ze]using hs
  have c:=hs.sA j zz;simp only[bf]at c;exact⟨_,_,aI.Le.refl _,hs.oA (g:=none) (by simp only[cH];exact .inl ⟨c,zq,zq⟩) (λ_ e=>by cases e)⟩
 |some g=>obtain⟨b,cap⟩:=g;intro C a w S L hs;have c:=hs.sA j zz;simp only[bf,adC,IB]at c;have h:Sat C (eC env t (.so b es.length cap)) (H++ze (some (b,cap)) T k es) D a w S (pX L t none):=hs.oA (by simp only[cH,bf];exact⟨zq,c⟩) (λ_ e=>by cases e);obtain⟨m,l,f,d⟩:=bO.lC (i:=H.length) (t:=t) (b:=b) (T:=T) (kk:=k) (cap:=cap) (es:=es) (bN _ _ _) (by simp [ze]) C a w S _ h;rw[eX]at d;have e:(H++ze (some (b,cap)) T k es).eraseIdx H.length=H:=Gq _ _;rw[e]at d;exact⟨m,l,f,d⟩
theorem aY.TV {T:Nat}(i:env t= .aT T k es)
  (h: ∀y,(y=none->es=[])->aY P r N ls Q (eC env t (Bw y es.length)) (H++ze y T k es) D):aY P r N ls Q env H D:=by
 refine aY.mJ i (λe=>?_) (λb cap=>?_);have d:=h none (λ_=>e);rw[e]at d;have f:H++ze none T k []=H:=by simp [ze]
 rw[f]at d;refine aY.oj ?_ d;intro C a w S L hs;have c:=hs.sA (bN _ _ _) zz;simp only[bf]at c;have:=hs.oA (p:=Bw none (([]:List (List AV)).length)) (g:=none) (by simp only[cH,bf,adC,IB];exact⟨zq,c⟩) (λ_ e=>by cases e);rw[eX]at this;exact⟨S,_,aI.Le.refl _,this⟩
 refine aY.oj ?_ (h (some (b,cap)) (λe=>by cases e));intro C a w S L hs;have c:=hs.sA (bN _ _ _) zz;simp only[bf]at c;have:=hs.oA (p:=Bw (some (b,cap)) es.length) (g:=none) (by simp only[cH,bf,adC,IB];exact⟨zq,c⟩) (λ_ e=>by cases e);rw[eX]at this;exact⟨S,_,aI.Le.refl _,this.Pq (List.perm_append_comm (l₁:=[_]))⟩
theorem JX: ∀(l:List AV),fp fK l l
 |[]=>trivial
 |p::l=>⟨fK.refl p,JX l⟩
theorem yq (b:List AV)(a:fK p q): ∀(l:List AV),fp fK (l++p::b) (l++q::b)
 |[]=>⟨a,JX _⟩
 |x::l=>⟨fK.refl x,yq b a l⟩
theorem bO.oM {bo To:Nat}(c1 a:List AV)(q:AV)(b:H[j]? =some (bo,.cells To (c1++p::a)))(h:fK p q):bO env H D env (H.set j (bo,.cells To (c1++q::a))) D:=
 bO.xI _ b (yq a h c1)
theorem bO.OS {bo To T:Nat}{y:Option (Nat×Nat)}(c1 a:List AV)(m:H[j]? =some (bo,.cells To cs))(hc:cs=c1++Bw y n::a)(u:n=es.length)(hy:y=none->es=[]):
  bO env (H++ze y T k es) D env (H.set j (bo,.cells To (c1++.sl k es::a))) D:=by
 subst u hc;have f:j<H.length:=(bn.1 m).1;cases y with
 |none=>
  rw[hy zz]at m ⊢;have e:H++ze none T k ([]:List (List AV))=H:=by simp [ze]
  rw[e];refine bO.xI _ m (yq a ?_ c1);intro S v h;simp only[bf,adC,IB]at h ⊢;exact .inl ⟨⟨none,h⟩,zq⟩
 |some g=>
  obtain⟨b,cap⟩:=g;have c: ∀(l:List AV),fp (RW b es.length cap k es) l l:=by
   intro l;induction l with
   |nil=>trivial
   |cons p l o=>exact⟨.inl zz,o⟩
  have d: ∀(l:List AV),fp (RW b es.length cap k es) (l++.so b es.length cap::a) (l++.sl k es::a):=by
   intro l;induction l with
   |nil=>exact⟨.inr gJ,c _⟩
   |cons x l o=>exact⟨.inl zz,o⟩
  have w:(H++ze (some (b,cap)) T k es).eraseIdx H.length=H:=Gq _ _;have q:bO env (H++ze (some (b,cap)) T k es) D env ((H++ze (some (b,cap)) T k es).set j (bo,.cells To (c1++.so b es.length cap::a))) D:=by refine bO.xI _ (by rw[List.getElem?_append_left f];exact m) (yq a ?_ c1);intro S v h;simpa only[bf,adC,IB]using h
  have s:(H++ze (some (b,cap)) T k es).set j (bo,.cells To (c1++.so b es.length cap::a))=H.set j (bo,.cells To (c1++.so b es.length cap::a))++ze (some (b,cap)) T k es:=List.set_append_left _ _ f;rw[s]at q;have t:(H.set j (bo,.cells To (c1++.so b es.length cap::a))++ze (some (b,cap)) T k es).eraseIdx H.length=H.set j (bo,.cells To (c1++.so b es.length cap::a)):=bD;have r:=bO.nU (env:=env) (D:=D) (H:=H.set j (bo,.cells To (c1++.so b es.length cap::a))++ze (some (b,cap)) T k es) (i:=H.length) (j:=j) (T:=T) (cap:=cap) (es:=es) (bo:=bo) (To:=To) (c1++.sl k es::a)
   (by rw[List.getElem?_append_right aF];simp [ze]) bD (d c1)
  rw[t,List.set_set]at r;exact q.trans r
theorem jC.fnq {fn:Fn}{c b:List AV}(h:fp (jC env H) c b):jC env H (.fn fn M c) (.fn fn M b):=by intro C D a w S L hs v d;simp only[bf]at d ⊢;obtain⟨e,cs,i,f,g⟩:=d;exact⟨e,cs,i,aS.mono hs.sin.lK _ _ f,abm hs h g⟩
end
section
variable {r:Option Nat}{env:Env}{D:List Nat}{c:Operand}{x y:bZ}
theorem aU.itt {b:Bool}(hc:bG env c= .v (.bool b))(a:b=true)(h:aU P r N x Q env H D):aU P r N (.ite c x y) Q env H D:=
 aU.ite hc (λ_=>h) (λe=>bD)
theorem aU.itf {b:Bool}(hc:bG env c= .v (.bool b))(a:b=false)(h:aU P r N y Q env H D):aU P r N (.ite c x y) Q env H D:=
 aU.ite hc (λe=>bD) (λ_=>h)
theorem aU.its {b:Bool}(hc:bG env c= .v (.bool b))(a:b=false)(h:Q .normal env H D):aU P r N (.ite c x .skip) Q env H D:=aU.itf hc a (aU.skip h)
end
section
variable {r:Option Nat}{env:Env}{D:List Nat}
theorem Ky {key:Value}{g:List (Value×AV)}(h: ∀v,bf S p v->bf S q v): ∀{c1:List (Value×AV)} {l:List MapEntry},jg S (c1++(key,p)::g) l->jg S (c1++(key,q)::g) l
 |[],l,b=>by simp only[eu,jg]at b ⊢;obtain⟨e,a,c,d,f,h4⟩:=b;exact⟨e,a,c,d,h _ f,h4⟩
 |(k,x)::c1,l,b=>by simp only[ej,jg]at b ⊢;obtain⟨e,a,c,d,f,h4⟩:=b;exact⟨e,a,c,d,f,Ky h h4⟩
theorem bO.LD {T g:Nat}{key:Value}(c1 p:List (Value×AV))(k:H[i]? =some (b,.arr T kk cap es))(e:(H.eraseIdx i)[j]? =some (g,.map h))(hc:h=c1++(key,.so b es.length cap)::p):
  bO env H D env ((H.eraseIdx i).set j (g,.map (c1++(key,.sl kk es)::p))) D:=by subst hc;intro C a w S L hs;obtain⟨cur,f,s,l,m,hk,t,r⟩:=(hs.at_ k).PN;refine⟨_,L,aI.iO (hs.at_ k).apart,(hs.freeze k f).Um e ?_⟩;rintro o ⟨bV,d,rfl,hm,n⟩;refine⟨bV,d,zz,Ky ?_ hm,n⟩;intro v q;simp only[bf]at q ⊢;refine .inr ⟨b,0,cap,q,l,m,lT (aS.mono (aI.iO (hs.at_ k).apart) _ _ t) hk r (λj c e=>?_)⟩;rw[cA]at e;split at e;simp [aI.ot,e];cases e
theorem bO.Mw {es:List (Value×AV)}(m:env t= .mo b)(k:H[i]? =some (b,.map es)):bO env H D (eC env t (.mi es)) (H.eraseIdx i) D:=by intro C a w S L hs;obtain⟨j,bV,c,f,d,l,g,e⟩:=hs.nh k;have h:=e.sA m zz;simp at h;exact⟨j,_,f,e.rW zz (by simp;exact⟨b,bV,c,h,d,l,g⟩)⟩
end
end Go.Px
