/- Part 2 of the proof of a statement of this seat (a logic of pure contracts; the functions; their contracts). No conditions. -/
import Derived.Test.YtbpalbakembgiaaGreatDoorA1
import Derived.OrdersIn
import Derived.DeepKeys3
set_option linter.all false
open Array renaming getD_eq_getD_getElem?->cd,getElem?_setIfInBounds->cA,getElem?_eq_some_iff->et,replicate->eT,toList_inj->fv
open BitVec renaming ofNat->gR
open Bool renaming and_eq_true->cr,or_eq_true->cy,not_eq_true'->ey,or_false->e0,false_eq_true->e4,or_true->gX
open Decidable renaming byContradiction->gQ
open Function renaming comp_def->hM
open Go renaming wpOpIn->hP
open Go.Deferred renaming ofValue->fx
open Go.Fence renaming wide->eu
open Go.Instr renaming sliceAt->cB,sureAddr->ew,slice->eU,sliceBounds->e5,index->hC,yield->hD,next->hG
open Go.IntKind renaming i64->hE
open Go.Op renaming equalIn->hL
open Go.Region renaming wanted->dn,ready->fe
open Go.Result renaming andThen_ok->eM
open Go.Sem renaming run_bind->ff,run_pure->fr,run->hB
open Go.Utf8 renaming decode->c8
open Go.Value renaming oneCell'->de
open Go.Value.slice renaming injEq->fu
open Int renaming le_of_lt->hj
open List renaming mem_append->ap,map_append->bl,all_eq_true->bn,mem_map->bs,nodup_append->bt,append_assoc->bx,mem_range->bA,range->bI,getD_eq_getElem?_getD->cx,mem_cons->cD,flatten_cons->c7,getElem?_eq_some_iff->dk,length_map->ds,getElem?_cons_zero->ea,map_cons->ec,eq_nil_of_length_eq_zero->ej,append_nil->en,take_succ_cons->er,getElem?_eq_getElem->eP,eraseIdx_cons_zero->eS,getElem?_map->e6,cons_append->fy,countP_cons->fD,length_drop->ga,nodup_cons->gm,foldl_nil->gx,replicate->gM
open Nat renaming eq_of_beq_eq_true->bk,beq->bm,lt_of_lt_of_le->cb,zero_add->cc,le_of_ble_eq_true->cR,le_refl->ek,add_assoc->e3,add_comm->e7,beq_refl->e8,lt_or_ge->e9,lt_trichotomy->fb,add_zero->ht,le_trans->hv,add_mul->hF,beq_eq->hI,not_le->hJ,blt->hO
open Ne renaming symm->hz
open Option.some renaming injEq->an
open Prod.mk renaming injEq->az
open Pure renaming pure->hQ
namespace Go.Px
variable {E:Nat}{A:List (aQ×List Nat)}{e:List (List Nat×List Nat)}{o:Option Prop}{g:List Value}{m:Option Nat}{l:List Nat}{h:List PanicEntry->Env->av->List Nat->Prop}{s:List aQ}{u:Nat->Prop}{v:Option Addr}{z:kK}{G:Value}{M:Nat->Bool}{O:Nat->Option Bool}{R:av}{V:bZ}{Y:Option Operand}{Z:List AV}
variable {fn:Func}{a:Act}{S:aI}{L:Nat->Option Nat}{N:Nat}{lc:bZ}{args:List AV}{w:World}{rs:List ResultVar}{f:FuncId}{H:av}{C:rX}{p res:AV}{env:Env}{D:List Nat}
def jN (args:List AV):Env:=λi=>(args[i]?).getD .any
def wM:av->List Nat->av->Prop
 |H,[],H'=>H=H'
 |H,r::D,H'=> ∃i:Nat,H[i]? =some (r,.ri)/\wM (H.eraseIdx i) D H'
inductive jU (P:Program)(env:Env)(H:av):ResultVar->AV->Prop where
 |tmp {t p:_}:env t=p->p.bT=false->jU P env H (.tmp t) p
 |nP {t T:Nat} {n:Option Nat} {cs:List AV} {p:AV}:env t= .pi cs->Ao P T=some n->gw n cs=some p->jU P env H (.cell t T) p
 |dY {t T:Nat} {n:Option Nat} {b off i T':Nat} {cs:List AV} {p:AV}:env t= .po b off->H[i]? =some (b,dp.cells T' cs)->Ao P T=some n->gw n (cs.drop off)=some p->jU P env H (.cell t T) p
def uF (tmps:Array Value):ResultVar->Sem Value
 | .tmp t=>hQ (tmps.getD t undef)
 | .cell a t=>do loadVar t (<-asAddr (tmps.getD a undef))
section
variable {P:Program}
theorem jU.run {s:ResultVar}(h:jU P env H s p)(hs:Sat C env H D a w S L):
  ∃v,(uF a.tmps s).run P w= .ok v w/\bf S p v:=by
 cases h with
 |tmp g e=>exact⟨_,zz,hs.sA g e⟩
 |nP g q e=>
  have m:=hs.sA g zz;simp at m;obtain⟨b,off,o,hc⟩:=m;obtain⟨l,r,_,hi⟩:=hc.cells _ (ek _);rw[List.take_length]at r;obtain⟨y,hy,d⟩:=sK q e r (λj c k=>by
   have:=hi j (by rw[<-r.length];exact mz k)
   rw[k]at this
   exact hs.sin.cell _ _ _ this)
  exact⟨y,by simp [uF,o,asAddr,hy],d⟩
 |dY g u q e=>
  have o:=hs.sA g zz;simp only[bf]at o;obtain⟨l,f,m,z⟩:=(hs.at_ u).row;rename_i t T n b off i x cs;obtain⟨y,hy,d⟩:=sK q e (m.drop off) (λj c k=>by
   rw[cell_of_row w b _ _ _ _ f]
   simpa using k)
  exact⟨y,by simp [uF,o,asAddr,hy],d⟩
theorem Bb (hs:Sat C env H D a w S L): ∀{rs:List ResultVar} {ps:List AV},fp (jU P env H) rs ps->
  ∃b:List Value,(rs.mapM (uF a.tmps)).run P w= .ok b w/\aS S ps b
 |[],[],_=>⟨[],aF,by simp [aS]⟩
 |rv::rs,p::ps,h=>by
  obtain⟨v,f,e⟩:=h.1.run hs
  obtain⟨b,d,c⟩:=Bb hs h.2
  exact⟨v::b,by rw[List.mapM_cons];simp [f,d],by simp only[aS];exact⟨v,b,zz,e,c⟩⟩
 |[],_::_,h=>h.elim
 |_::_,[],h=>h.elim
theorem NG (fn:Func)(tmps:Array Value)(w:World):(results fn tmps).run P w=((fn.results.toList.mapM (uF tmps)).run P w).andThen λvs w'=>.ok (match vs with|[v]=>v|vs=>.tuple vs.toArray) w':=by
 have e:results fn tmps=(do
   let vs <-fn.results.mapM (uF tmps)
   hQ (if h:vs.size=1 then vs[0]else .tuple vs)):=by
  unfold results
  congr 1
 rw[e,Array.mapM_eq_mapM_toList];simp;cases (fn.results.toList.mapM (uF tmps)).run P w with
 |ok vs w'=>
  simp;congr 1;match vs with
  |[]=>rfl
  |[v]=>rfl
  |v::u::vs=>simp
 |halt h w'=>rfl
inductive my (P:Program)(env:Env)(H:av):List ResultVar->AV->Prop where
 |one {rv p:_}:jU P env H rv p->my P env H [rv] p
 |aT {t p:_}:env t=p->p.bT=true->my P env H [.tmp t] p
 |many {rs ps:_}:rs.length≠1->fp (jU P env H) rs ps->my P env H rs (.cG ps)
def qn (P:Program)(rs:List ResultVar)(res:AV):dl:=λe env H D=>(e= .normal\/e= .ret)/\ ∃H',wM H D H'/\my P env H' rs res
theorem qO {α β:Type}{R:α->β->Prop}: ∀{l:List α} {m:List β},fp R l m->l.length=m.length
 |[],[],_=>rfl
 |_::l,_::m,h=>by simp [qO h.2]
 |[],_::_,h=>h.elim
 |_::_,[],h=>h.elim
theorem my.run (h:my P env H fn.results.toList res)(hs:Sat C env H D a w S L):
  ∃v g,(results fn a.tmps).run P w= .ok v w/\cH C.A S w g res v/\ ∀b,g=some b-> ∃t,L t=some b:=by
 rw[NG];generalize fn.results.toList=rs at h;cases h with
 |one k=>obtain⟨v,m,d⟩:=k.run hs;exact⟨v,none,by simp [m],cH.gW d.sU d,λ_ e=>by cases e⟩
 |aT l n=>rename_i t;have:=hs.env t;rw[l]at this;exact⟨_,_,by simp [uF],this,λb e=>⟨t,e⟩⟩
 |many hl j=>
  rename_i ps;obtain⟨f,i,d⟩:=Bb hs j;have c:f.length≠1:=by rw[d.length,<-qO j];exact hl
  refine⟨.tuple f.toArray,none,?_,cH.gW zz (by simp only[bf];exact⟨f,zz,d⟩),λ_ e=>by cases e⟩;rw[i];simp;match f,c with
  |[],_=>rfl
  |_::_::_,_=>rfl
theorem F4 {R:Ending->World->Prop}(j:C.base=[]): ∀(D:List Nat) {H H':av} {a:Act} {w:World},wM H D H'->my P env H' fn.results.toList res->
  Sat C env H D a w S L->(∀v g u w',Sat C env H' [] u w' S L->cH C.A S w' g res v->(∀b,g=some b-> ∃t,L t=some b)->R (.returned v) w')->LeavesInM eu 0 P fn a.tmps R a.defers .returning w
 |[],H,H',a,w,l,n,hs,k=>by
  cases l
  rw[hs.Fl,j]
  obtain⟨v,g,x,f,hg⟩:=n.run hs
  exact⟨v,x,k v g _ w hs f hg⟩
 |r::D,H,H',a,w,l,n,hs,k=>by
  obtain⟨i,hi,m⟩:=l
  rw[hs.Fl,j,en]
  have d:=hs.at_ hi
  obtain⟨o,s,hx⟩:=d.holds
  simp only[Holds]at hx
  subst hx
  have h:r<w.heap.size:=(et.1 s).1
  have p:=hs.replace hi (y:=.raw (.deferred none)) (w':={w with heap:=w.heap.setIfInBounds r (.deferred none)}) (o:=.deferred none)
   (by simp [h]) zz aF (λg hg=>by
     show (w.heap.setIfInBounds r (.deferred none))[g]? =w.heap[g]?
     rw[cA,zj (λe=>hg e.symm)]) zz zz zz
  have c:=p.drop i
  rw[List.eraseIdx_set_eq]at c
  have q:Sat C env (H.eraseIdx i) D {a with defers:=D.map xC} {w with heap:=w.heap.setIfInBounds r (.deferred none)} S L:={c with Fl:=by rw[j,en],size:=c.size}
  refine⟨aF,.inl ⟨r,{w with heap:=w.heap.setIfInBounds r (.deferred none)},zz,?_,?_⟩⟩
  ·exact run_takeDeferred s
  ·exact F4 j D m n q k
structure sI (P:Program)(f:FuncId)(N:Nat)(rs:List ResultVar)(lc:bZ):Prop where
 fn: ∃fn:Func,P.funcs[f]? =some fn/\(fn.name== "runtime.NumGoroutine")=false/\fn.ntmps=N/\fn.results.toList=rs/\fn.body.bind (cX P N)=some lc
variable {r:Option Nat}{Q:dl}{Hin:av}{b:Nat}{w':World}
theorem aU.mono {x:bZ}{f:dl}(h:aU P r N x Q env H D)(k: ∀e env H D,Q e env H D->f e env H D):aU P r N x f env H D:=
 λc hc C a w S L l hs=>wpIn_mono (h c hc C a w S L l hs) (by
  rintro e n w' ⟨b,H',g,j,i,d,m⟩
  exact⟨b,H',g,j,i,d,k _ _ _ _ m⟩)
def AH (w:World)(Hin:av):Nat->Prop:=λb=>w.heap.size<=b\/b∈Hin.map (·.1)
theorem te.apart (h:te S w)(a:S.In w)(d: ∀e∈Hin,Own (λ_=>True) S w e.1 e.2): ∀b∈QN,¬AH w Hin b:=by rintro b c (h1|h1);exact hJ.2 (a.lt (h.1 b c)) h1;obtain⟨e,he,rfl⟩:=bs.1 h1;exact(d e he).apart (h.1 _ c)
def CB (S:aI)(w:World)(Hin:av)(R:AV->av->Prop):Ending->World->Prop:=λe w'=> ∃v c g res a,e= .returned v/\R res a/\S.Le c/\c.In w'/\(∀b,c.has b->S.has b\/AH w Hin b)/\
 iC (AH w Hin) w w'/\cH (AH w Hin) c w' g res v/\(∀e∈a,Own (AH w Hin) c w' e.1 e.2)/\(a.map (·.1)).Nodup/\ ∀b,g=some b->b ∉ a.map (·.1)
def iM (P:Program)(f:FuncId)(args:List AV)(Hin:av)(R:AV->av->Prop):Prop:=
 uc P f/\ ∀(S:aI) (w:World) (a:List Value),te S w->S.In w->aS S args a->(∀e∈Hin,Own (λ_=>True) S w e.1 e.2)->(Hin.map (·.1)).Nodup->
  Calls P f a.toArray w (CB S w Hin R)
theorem Own.mF {B a:Nat->Prop}{x:dp}(h:Own B S w b x)(c:B b->a b):Own a S w b x:=⟨c h.base,h.apart,h.holds⟩
inductive Out where
 |ret (p:AV)
 |pan (ch:List PanicEntry)
def MZ (S:aI)(w:World)(Hin:av)(R:Out->av->Prop):Ending->World->Prop:=λe w'=> ∃c a,S.Le c/\c.In w'/\(∀b,c.has b->S.has b\/AH w Hin b)/\
 iC (AH w Hin) w w'/\(∀e∈a,Own (AH w Hin) c w' e.1 e.2)/\(a.map (·.1)).Nodup/\
 ((∃v g res,e= .returned v/\R (.ret res) a/\cH (AH w Hin) c w' g res v/\ ∀b,g=some b->b ∉ a.map (·.1))\/(∃ch,e= .panicked ch/\R (.pan ch) a))
def EvX (P:Program)(f:FuncId)(args:List AV)(Hin:av)(R:Out->av->Prop):Prop:=
 uc P f/\ ∀(S:aI) (w:World) (a:List Value),te S w->S.In w->aS S args a->(∀e∈Hin,Own (λ_=>True) S w e.1 e.2)->(Hin.map (·.1)).Nodup->
  Calls P f a.toArray w (MZ S w Hin R)
def Qi (a:te S w)(d:S.In w)(c: ∀e∈Hin,Own (λ_=>True) S w e.1 e.2)(N:Nat):rX:={A:=AH w Hin,w0:=w,S0:=S,F:=[],N:=N,hA:=λ_ h=>.inl h,hg:=a,hgA:=a.apart d c,hgI:=λb f=>d.lt (a.1 b f)}
theorem Sat.init {f:List Value}(g:te S w)(d:S.In w)(b:aS S args f)(a: ∀e∈Hin,Own (λ_=>True) S w e.1 e.2)(k:(Hin.map (·.1)).Nodup)(n:Nat):
  Sat (Qi g d a n) (jN args) Hin [] {tmps:=f.toArray++Array.replicate (n-f.toArray.size) undef,defers:=[]} w S (λ_=>none):=by
 refine {size:=by simp [Qi];omega,Fl:=rfl,le:=aI.Le.refl S,sin:=d,ux:=λ_ h=>.inl h,below:=iC.refl _ _,env:=λt=>?_,heap:=λe he=>(a e he).mF λ_=>.inr (List.mem_map.2 ⟨e,he,zz⟩),frame:=by simp [Qi],nodup:=by simpa [Qi],aT:=aF,lL:=by simp}
 unfold jN;cases l:args[t]? with
 |none=>exact cH.gW zz (by simp [bf])
 |some p=>obtain⟨c,hc,j⟩:=b.get l;have i:=mz hc;rw[show (f.toArray++Array.replicate (n-f.toArray.size) undef).getD t undef=c by rw[Array.getD_eq_getD_getElem?,Array.getElem?_append_left (by simpa using i)];simp [hc]];exact cH.gW j.sU j
theorem rM {a:av}(h:a.Sublist H)(b:(H.map (·.1)).Nodup):(a.map (·.1)).Nodup:=b.sublist (h.map _)
theorem Sat.aer (hs:Sat C env H D a w S L){b:av}(h:b.Sublist H):(b.map (·.1)).Nodup:=by have:=hs.nodup;rw[bl,bt]at this;exact rM h this.1
theorem Sat.af6 (hs:Sat C env H D a w S L){c:av}(h:c.Sublist H){g:Option Nat}(hg: ∀b,g=some b-> ∃t,L t=some b): ∀b,g=some b->b ∉ c.map (·.1):=by
 intro b e hm;obtain⟨t,d⟩:=hg b e;exact hs.aT t b d (by rw[bl,ap];exact .inl ((h.map _).subset hm))
def aca (P:Program)(rs:List ResultVar)(R:Out->av->Prop):dl:=λe env H D=>match e with
 | .normal| .ret=> ∃H' res a,wM H D H'/\my P env H' rs res/\R (.ret res) a/\a.Sublist H'
 | .panic ch=>D=[]/\ ∃a,R (.pan ch) a/\a.Sublist H
 |_=>False
theorem EvX.intro {R:Out->av->Prop}(ok:sI P f N rs lc)(h:aU P none N lc (aca P rs R) (jN args) Hin []):EvX P f args Hin R:=by
 obtain⟨fn,A,D,rfl,u,k⟩:=ok.fn;obtain⟨c,z,k⟩:=Option.bind_eq_some_iff.1 k;refine⟨⟨fn,A,D,by rw[z];rfl⟩,?_⟩;intro S w G r s j n t;rw[<-callsIn_wide];apply callsIn_of_wp_marks A z zq
 refine wpIn_mono (h c (eF k) _ _ w S _ zz (Sat.init r s j n t _)) ?_;rintro e l w' ⟨m,H',x,y,F,d,he⟩
 have fin:(∃p res a,wM H' x p/\my P m p rs res/\R (.ret res) a/\a.Sublist p)->LeavesInM eu 0 P fn l.tmps (MZ S w Hin R) l.defers .returning w':=by rintro⟨p,res,a,C,i,q,b⟩;rw[<-u]at i;exact F4 zz x C i d λv g B E hs o hg=>⟨y,a,hs.le,hs.sin,hs.ux,hs.below,λe he=>hs.heap e (b.subset he),hs.aer b,.inl ⟨v,g,res,zz,q,o,hs.af6 b hg⟩⟩
 cases e with
 |normal=>exact fin he
 |ret=>exact fin he
 |panic ch=>obtain⟨rfl,a,q,b⟩:=he;show LeavesInM eu 0 P fn l.tmps (MZ S w Hin R) l.defers (.panicking ch) w';rw[show l.defers=[]from d.Fl];exact⟨y,a,d.le,d.sin,d.ux,d.below,λe he=>d.heap e (b.subset he),d.aer b,.inr ⟨ch,zz,q⟩⟩
 |_=>exact he.elim
def yH (P:Program)(rs:List ResultVar)(R:AV->av->Prop):dl:=λe env H D=>(e= .normal\/e= .ret)/\ ∃H' res a,wM H D H'/\my P env H' rs res/\R res a/\a.Sublist H'
theorem iM.intro {R:AV->av->Prop}(ok:sI P f N rs lc)(h:aU P none N lc (yH P rs R) (jN args) Hin []):iM P f args Hin R:=by
 have k:=EvX.intro (R:=λo Ho=> ∃res,o= .ret res/\R res Ho) ok (aU.mono h λe env H D q=>by
  obtain⟨e|e,H',res,a,c,d,i,h4⟩:=q<;>subst e<;>exact⟨H',res,a,c,d,⟨res,zz,i⟩,h4⟩)
 refine⟨k.1,λS w x p c d i h4=>(k.2 S w x p c d i h4).mono ?_⟩;rintro e w' ⟨n,a,l,j,b,s,t,m,⟨v,g,res,rfl,⟨_,e,r⟩,u,hg⟩|⟨_,_,_,e,_⟩⟩<;>cases e;exact⟨v,n,g,res,a,zz,r,l,j,b,s,u,t,m,hg⟩
theorem Ev.intro (ok:sI P f N rs lc)(h:aU P none N lc (qn P rs res) (jN args) [] []):Ev P f args res:=by
 have k:=iM.intro (R:=λr _=>r=res) ok (aU.mono h λe env H D q=>⟨q.1,q.2.imp λH' q=>⟨res,[],q.1,q.2,zz,List.nil_sublist _⟩⟩)
 refine⟨k.1,λS w p l m n=>(k.2 S w p l m n aF aF).mono ?_⟩;have ha: ∀{b},AH w [] b↔w.heap.size<=b:=by simp [AH]
 rintro e w' ⟨v,j,g,_,_,rfl,rfl,i,d,c,a,o,_⟩;exact⟨v,j,g,zz,i,d,λb h=>(c b h).imp id ha.1,⟨a.os,a.tape,a.output,a.size,λk hk=>a.block k hk λh=>hJ.2 hk (ha.1 h)⟩,o.Ad λ_=>ha.1⟩
end
variable {ls:List aQ}{env':Env}{dst:Option Nat}
abbrev I (n:Int):AV:=.v (.int .i64 n)
abbrev B (b:Bool):AV:=.v (.bool b)
abbrev U (n:Int):AV:=.v (.int .u8 n)
def el:List (Nat×AV)->Env
 |[],_=>.any
 |(t,p)::l,i=>bif bm i t then p else el l i
def uX (env:Env):List (Nat×AV)->Prop
 |[]=>True
 |(t,p)::l=>env t=p/\uX env l
theorem aau : ∀{l:List (Nat×AV)},uX env l-> ∀t,el l t= .any\/el l t=env t
 |[],_,t=>.inl zz
 |(u,p)::l,h,t=>by
  simp only[el];cases a:bm t u with
  |true=>have:=bk a;subst this;exact .inr h.1.symm
  |false=>exact aau h.2 t
section
variable {P:Program}{r:Option Nat}{Q:dl}
theorem bO.M8 (h: ∀t,env' t= .any\/env' t=env t):bO env H D env' H D:=by
 intro C a w S L hs;refine⟨S,λt=>if (env' t).bT then L t else none,aI.Le.refl S,{hs with env:=?_,aT:=?_,lL:=?_}⟩;intro t;rcases h t with e|e
 rw[e];exact cH.gW zz (by simp [bf]);have f:=hs.env t;rw[<-e]at f;cases hl:(env' t).bT with
 |true=>simpa [hl]using f
 |false=>exact cH.gW hl (f.sA hl).2
 intro t b e;try dsimp only at e
 split at e;exact hs.aT t b e;cases e
 intro t u b c d;try dsimp only at c d
 split at c;split at d;exact hs.lL t u b c d;cases d;cases c
theorem bO.el {l:List (Nat×AV)}(h:uX env l):bO env H D (Px.el l) H D:=bO.M8 (aau h)
theorem aU.pD {x y:bZ}(h:aU P r N x (rC E (kX (λe h d=>aU P r N y Q e h d) Q)) env H D):aU P r N (.seq (.block E x) y) Q env H D:=aU.seq (aU.block h)
theorem gv {e:Exit}(he:e= .normal\/e= .ret)(h:my P env H rs res):qn P rs res e env H []:=⟨he,H,zz,h⟩
end
variable {w':World}{b t:Nat}{H1:av}{W:List (Nat×AV)}
def fV:Env->List (Nat×AV)->Env
 |env,[]=>env
 |env,(d,p)::W=>fV (eC env d p) W
theorem js : ∀{env:Env} {t:Nat},t ∉ W.map (·.1)->fV env W t=env t:=by
 induction W with
 |nil=>intro env t _;rfl
 |cons q W a=>intro env t h;simp only[ec,cD,not_or]at h;simp only[fV];rw[a h.2,ij _ _ h.1]
theorem Cc : ∀{env env':Env} {t:Nat},t∈W.map (·.1)->fV env W t=fV env' W t:=by
 induction W with
 |nil=>grind
 |cons q W b=>
  intro env env' t h;simp only[fV];by_cases a:t∈W.map (·.1);exact b a;rw[js a,js a];simp only[ec,cD]at h;rcases h with rfl|h
  rw[bN,bN];exact absurd h a
theorem NR (h:env t=env' t):fV env W t=fV env' W t:=by by_cases a:t∈W.map (·.1);exact Cc a;rw[js a,js a,h]
def VL (S:aI)(p:AV)(y:Value)(b:Nat)(x:dp):Prop:=match p with
 | .aT T k es=> ∃cap,y= .slice (some ⟨b,0,none⟩) es.length cap/\x= .arr T k cap es
 | .eR T cs=>y= .pointer (some ⟨b,0,none⟩)/\x= .cells T cs
 | .gT T k es c a=>y= .slice c es.length a/\ ∃cap,y= .slice (some ⟨b,0,none⟩) es.length cap/\x= .arr T k cap es
 | .rF cs es=>(∃bb off,y= .pointer (some ⟨bb,off,none⟩)/\fY S (cs++[.mo b]) bb off)/\x= .map es
 |_=>False
theorem cH.pre {B:Nat->Prop}{y:Value}(h:cH B S w (some b) p y): ∃x,VL S p y b x/\Own B S w b x:=by
 cases p<;>simp only[cH]at h;case aT T k es=>rcases h with⟨_,_,h⟩|⟨g,cap,a,hy,c⟩;cases h;cases a;exact⟨_,⟨cap,hy,zz⟩,c⟩
 case eR T cs=>obtain⟨g,a,hy,c⟩:=h;cases a;exact⟨_,⟨hy,zz⟩,c⟩
 case gT T k es f d=>obtain⟨e,h⟩:=h;rcases h with⟨_,_,h⟩|⟨g,cap,a,hy,c⟩;cases h;cases a;exact⟨_,⟨e,cap,hy,zz⟩,c⟩
 case rF cs es=>obtain⟨g,bb,off,a,hy,hc,c⟩:=h;cases a;exact⟨_,⟨⟨bb,off,hy,hc⟩,zz⟩,c⟩
 all_goals (obtain⟨h,_⟩:=h;cases h)
theorem VL.mono {c:aI}(a:S.Le c){y:Value}{x:dp}(h:VL S p y b x):VL c p y b x:=by
 cases p<;>simp only[VL]at h ⊢;case rF cs es=>obtain⟨⟨bb,off,hy,hc⟩,rfl⟩:=h;exact⟨⟨bb,off,hy,fY.mono a _ _ _ hc⟩,zz⟩
 all_goals exact h
theorem VL.ae7 {B:Nat->Prop}{y:Value}{x:dp}(h:VL S p y b x)(a:Own B S w b x):cH B S w (some b) p y:=by
 cases p<;>simp only[VL]at h;case aT T k es=>obtain⟨cap,hy,rfl⟩:=h;simp only[cH];exact .inr ⟨b,cap,zz,hy,a⟩
 case eR T cs=>obtain⟨hy,rfl⟩:=h;simp only[cH];exact⟨b,zz,hy,a⟩
 case gT T k es e c=>obtain⟨d,cap,hy,rfl⟩:=h;simp only[cH];exact⟨d,.inr ⟨b,cap,zz,hy,a⟩⟩
 case rF cs es=>obtain⟨⟨bb,off,hy,hc⟩,rfl⟩:=h;simp only[cH];exact⟨b,bb,off,zz,hy,hc,a⟩
theorem cH.Fz {B:Nat->Prop}{d:aI}{y:Value}(h:cH B S w none p y)(b:S.Le d):cH B d w' none p y:=by
 cases c:p.bT with
 |false=>exact cH.gW c (bf.mono b _ _ (h.sA c).2)
 |true=>
  cases p<;>simp only[AV.bT,e4]at c;case aT T k es=>
   simp only[cH]at h ⊢;rcases h with h|⟨g,cap,a,_⟩
   exact .inl h;cases a
  case eR T cs=>simp only[cH]at h;obtain⟨g,a,_⟩:=h;cases a
  case rF cs es=>simp only[cH]at h;obtain⟨g,bb,off,a,_⟩:=h;cases a
  case gT T k es i e=>
   simp only[cH]at h ⊢;obtain⟨f,h⟩:=h;refine⟨f,?_⟩;rcases h with h|⟨g,cap,a,_⟩
   exact .inl h;cases a
section
variable {P:Program}{r:Option Nat}{env0:Env}
theorem Qc (hs:Sat C env H D a w S L)(R:Nat->Prop): ∀n:Nat,∃d:av,
  (∀e∈d,Own C.A S w e.1 e.2)/\(∀t,t<n-> ∀b,L t=some b->R t-> ∃x,(b,x)∈d/\VL S (env t) (a.tmps.getD t undef) b x)/\(∀e∈d,∃t,t<n/\L t=some e.1/\R t)/\(d.map (·.1)).Nodup:=by
 intro n;induction n with
 |zero=>exact⟨[],aF,bD,aF,aF⟩
 |succ n z=>
  obtain⟨d,r,s,l,h4⟩:=z;by_cases v: ∃b,L n=some b/\R n;obtain⟨b,g,u⟩:=v;have m:=hs.env n;rw[g]at m;obtain⟨x,hx,y⟩:=m.pre;refine⟨(b,x)::d,?_,?_,?_,?_⟩;intro e he;rcases cD.1 he with rfl|he
  exact y;exact r e he
  intro t o p c h;by_cases e:t=n;subst e;rw[g]at c;cases c;exact⟨x,aF,hx⟩;obtain⟨B,j,k⟩:=s t af p c h;exact⟨B,by simp [j],k⟩;intro e he;rcases cD.1 he with rfl|he
  exact⟨n,af,g,u⟩;obtain⟨t,o,f,q⟩:=l e he;exact⟨t,af,f,q⟩
  simp only[ec,gm];refine⟨λhm=>?_,h4⟩;obtain⟨e,he,i⟩:=bs.1 hm;obtain⟨t,o,f,_⟩:=l e he;rw[i]at f;have:=hs.lL t n b f g;omega
  grind
theorem Sat.acx (hs:Sat C env H D a w S L)(h:L t=some b):t<a.tmps.size:=by
 apply gQ;intro d;have c:=hs.env t;rw[h]at c;obtain⟨x,hx,_⟩:=c.pre;have f:a.tmps.getD t undef=undef:=bD;rw[f]at hx;cases e:env t<;>rw[e]at hx<;>simp only[VL]at hx;case aT=>obtain⟨cap,hy,_⟩:=hx;cases hy
 case eR=>obtain⟨hy,_⟩:=hx;cases hy
 case gT=>obtain⟨hy,_⟩:=hx;cases hy
 case rF=>obtain⟨⟨_,_,hy,_⟩,_⟩:=hx;cases hy
def R1 (P:Program)(r:Option Nat)(N:Nat)(l:kK)(dst:Option Nat)(env:Env)(H H1:av)(D:List Nat)(W:List (Nat×AV)):Prop:=
 aO P r N l dst env H D (λe h d=>e=fV env W/\h=H1/\d=D)
abbrev Q1 (P:Program)(r:Option Nat)(N:Nat)(l:kK)(dst:Option Nat)(env:Env)(H:av)(D:List Nat)(W:List (Nat×AV)):Prop:=R1 P r N l dst env H H D W
open Classical in
theorem R1.frame {l:kK}(s: ∀t,env0 t= .any\/env0 t=env t)(h:R1 P r N l dst env0 H H1 D W)(I: ∀d,dst=some d->d∈W.map (·.1)):R1 P r N l dst env H H1 D W:=by
 intro o ho hd O C a w S L Z hs next Q z
 obtain⟨m,f1,f2,f3,f4⟩:=Qc hs (λt=>env0 t= .any) a.tmps.size;have T:Sat {C with F:=C.F++m} env0 H D a w S (λt=>if (env0 t).bT then L t else none):=by
  refine {hs with env:=?_,frame:=?_,nodup:=?_,aT:=?_,lL:=?_};intro t;rcases s t with e|e
  rw[e];exact cH.gW zz (by simp [bf]);have R:=hs.env t;rw[<-e]at R;cases hl:(env0 t).bT with
  |true=>simpa [hl]using R
  |false=>exact cH.gW hl (R.sA hl).2
  intro e he;rcases ap.1 he with he|he
  exact hs.frame e he;exact f1 e he
  rw[<-bx,bl,bt];refine⟨hs.nodup,f4,?_⟩;intro b B b' M e;subst e;obtain⟨e,he,rfl⟩:=bs.1 M;obtain⟨t,_,f,_⟩:=f3 e he;exact hs.aT t _ f B;intro t b e hm;have K:(env0 t).bT=true/\L t=some b:=(by split at e;rename_i hl;exact⟨hl,e⟩;cases e);have hm':b∈(H++(C.F++m)).map (·.1):=hm;rw[<-bx,bl,ap]at hm';rcases hm' with hm'|hm'
  exact hs.aT t b K.2 hm';obtain⟨Y,he,B⟩:=bs.1 hm';obtain⟨u,_,f,i⟩:=f3 Y he;rw[B]at f;have:=hs.lL t u b K.2 f;subst this;rw[i]at K;simp [AV.bT]at K
  intro t u b f i;split at f;split at i;exact hs.lL t u b f i;cases i;cases f
 refine h o ho hd O {C with F:=C.F++m} a w S _ Z T next Q ?_
 rintro env' H' V y w' X U ⟨rfl,rfl,rfl⟩ c j;refine z (fV env W) H' V y w' X (λt=>if t∈W.map (·.1)\/env0 t≠.any then U t else L t) dO ?_ j;have q: ∀t,t ∉ W.map (·.1)->(a.put dst y).tmps.getD t undef=a.tmps.getD t undef:=by
  intro t v;cases dst with
  |none=>rfl
  |some d=>exact pz (λe=>v (e▸I d zz))
 have n: ∀t,env0 t= .any-> ∀b,L t=some b-> ∃x,(b,x)∈m/\VL S (env t) (a.tmps.getD t undef) b x:=λt e b B=>f2 t (hs.acx B) b B e;refine {c with env:=?_,frame:=?_,nodup:=?_,aT:=?_,lL:=?_};intro t;by_cases p:t∈W.map (·.1);simp only[p,true_or,if_true];rw[Cc p];exact c.env t;rw[js p];rcases s t with e|e
 simp only[p,e,ne_eq,not_true_eq_false,or_self,if_false];rw[q t p];cases G:L t with
 |none=>exact(G▸hs.env t).Fz j
 |some b=>obtain⟨x,g,A⟩:=n t e b G;exact(A.mono j).ae7 (c.frame (b,x) (ap.2 (.inr g)))
 by_cases ha:env0 t= .any;have a0:env t= .any:=(by rw[<-e,ha]);simp only[p,ha,ne_eq,not_true_eq_false,or_self,if_false];rw[q t p];cases G:L t with
 |none=>exact(G▸hs.env t).Fz j
 |some b=>obtain⟨x,g,A⟩:=n t ha b G;exact(A.mono j).ae7 (c.frame (b,x) (ap.2 (.inr g)))
 simp only[p,ha,ne_eq,not_false_eq_true,or_true,if_true];rw[<-e];have:=c.env t;rw[js p]at this;exact this
 exact λe he=>c.frame e (ap.2 (.inl he));have:=c.nodup;have e:H'++(C.F++m)=H'++C.F++m:=bD;have J:((H'++(C.F++m)).map (·.1)).Nodup:=this;rw[e,bl]at J;exact(bt.1 J).1;intro t b e hm;split at e;apply c.aT t b e;rw[<-bx,bl,ap];exact .inl hm;rename_i v;simp at v;obtain⟨x,g,_⟩:=n t v.2 b e;have J:((H'++(C.F++m)).map (·.1)).Nodup:=c.nodup;rw[<-bx,bl,bt]at J;exact J.2.2 b hm b (bs.2 ⟨_,g,zz⟩) zz;intro t u b f i;have k: ∀t u,(t∈W.map (·.1)\/env0 t≠.any)-> ¬(u∈W.map (·.1)\/env0 u≠.any)->U t=some b->L u=some b->False:=by intro t u _ E f i;simp at E;obtain⟨x,g,_⟩:=n u E.2 b i;apply c.aT t b f;show b∈(H'++(C.F++m)).map (·.1);simp only[bl,ap,bs];exact .inr (.inr ⟨(b,x),g,zz⟩)
 split at f;rename_i v;split at i;exact c.lL t u b f i;rename_i E;exact(k t u v E f i).elim;rename_i v;split at i;rename_i E;exact(k u t E v i f).elim;exact hs.lL t u b f i
theorem Q1.frame {l:kK}(b: ∀t,env0 t= .any\/env0 t=env t)(h:Q1 P r N l dst env0 H D W)(a: ∀d,dst=some d->d∈W.map (·.1)):Q1 P r N l dst env H D W:=R1.frame b h a
end
variable {i j k n:Nat}{arr:Array Oper}
def only (f:List Nat)(env:Env):Env:=λt=>bif f.any (bm t)then env t else .any
def bX (W:List (Nat×AV)):List Nat:=W.map (·.1)
def SB (a b:List Nat):Bool:=a.all λx=> !(b.any (bm x))
def BR (a b:List Nat):Bool:=a.all λx=>b.any (bm x)
theorem any_beq {x:Nat}:l.any (bm x)=true↔x∈l:=by simp_all
theorem DX {a b:List Nat}(h:SB a b=true){x:Nat}(ha:x∈a):x ∉ b:=by have:=bn.1 h x ha;intro c;rw[any_beq.2 c]at this;cases this
theorem Q2 {a b:List Nat}(h:BR a b=true){x:Nat}(ha:x∈a):x∈b:=any_beq.1 (bn.1 h x ha)
theorem il: ∀(A B:List (Nat×AV)) (env:Env),fV env (A++B)=fV (fV env A) B
 |[],B,env=>rfl
 |(d,p)::A,B,env=>by simp;exact il A B _
theorem EN (A B:List (Nat×AV)):bX (A++B)=bX A++bX B:=by simp [bX]
theorem Qk {A B:List (Nat×AV)}(h: ∀x,x∈bX A->x ∉ bX B):fV env (A++B)=fV env (B++A):=by funext t;rw[il,il];by_cases ha:t∈bX A;have a:=h t ha;rw[js a,Cc ha];rw[js ha];by_cases a:t∈bX B;exact Cc a;rw[js a,js a,js ha]
def mT (s:Nat->Bool):Nat->List (List (Nat×AV))->List (Nat×AV)
 |_,[]=>[]
 |i,W::Ws=>(if s i then W else[])++mT s (i+1) Ws
theorem wX {s s':Nat->Bool} : ∀{Ws:List (List (Nat×AV))} {i:Nat} {env env':Env},env t=env' t->
  (∀k W,Ws[k]? =some W->s (i+k)=s' (i+k)\/t ∉ bX W)->fV env (mT s i Ws) t=fV env' (mT s' i Ws) t
 |[],i,env,env',e,_=>e
 |W::Ws,i,env,env',e,h=>by
  simp only[mT,il]
  refine wX (i:=i+1) ?_ (λk a hk=>by have:=h (k+1) a (by simpa using hk);rwa [Nat.add_assoc,Nat.add_comm 1 k])
  rcases h 0 W rfl with h0|h0
  ·simp only[Nat.add_zero]at h0
   rw[h0]
   split
   ·exact NR e
   ·exact e
  ·have: ∀(b:Bool) (E:Env),fV E (if b=true then W else[]) t=E t:=by
    intro b E
    cases b
    ·rfl
    ·exact js h0
   rw[this,this];exact e
theorem IP {s:Nat->Bool}: ∀{Ws:List (List (Nat×AV))} {i:Nat},(∀k,k<Ws.length->s (i+k)=true)->mT s i Ws=Ws.flatten
 |[],_,_=>rfl
 |W::Ws,i,h=>by simp only[mT,c7];rw[show s i=true from h 0 aF,IP (λk hk=>by rw[e3,e7 1 k];exact h (k+1) (by simpa using hk))];rfl
theorem AE {s:Nat->Bool}: ∀{Ws:List (List (Nat×AV))} {i:Nat},(∀k,s (i+k)=false)->mT s i Ws=[]
 |[],_,_=>rfl
 |W::Ws,i,h=>by simp only[mT];rw[show s i=false from h 0,AE (λk=>by rw[e3,e7 1 k];exact h (k+1))];rfl
theorem Rq : ∀{Ws:List (List (Nat×AV))} {i:Nat},mT (λk=>decide (k<i+n)) i Ws=(Ws.take n).flatten:=by
 induction n with
 |zero=>intro Ws i;rw[AE (λk=>aF)];simp
 |succ n a=>
  intro Ws i;cases Ws with
  |nil=>rfl
  |cons W Ws=>have:i<i+(n+1):=af;simp only[mT,er,c7,this,decide_true,if_true];have:=a (Ws:=Ws) (i:=i+1);rw[show i+1+n=i+(n+1)from af]at this;rw[this]
theorem SS {s:Nat->Bool} : ∀{Ws:List (List (Nat×AV))} {i:Nat} {env:Env},Ws[j]? =some W->s (i+j)=false->
  (∀k a,Ws[k]? =some a->j<k->s (i+k)=true-> ∀x∈bX W,x ∉ bX a)->
  fV env (mT (λk=>s k||bm k (i+j)) i Ws)=fV (fV env (mT s i Ws)) W:=by
 induction j with
 |zero=>
  intro Ws i env c hs hd;cases Ws with
  |nil=>cases c
  |cons p Ws=>
   simp at c;subst c;simp at hs;simp only[mT,hs,ht,e8,gX,if_true,e4,if_false,List.nil_append];have e:mT (λk=>s k||bm k i) (i+1) Ws=mT s (i+1) Ws:=by
    have: ∀(Ws:List (List (Nat×AV))) (m:Nat),i<m->mT (λk=>s k||bm k i) m Ws=mT s m Ws:=by
     intro Ws;induction Ws with
     |nil=>intro m _;rfl
     |cons q Ws l=>
      intro m hm;simp only[mT];have o:bm m i=false:=by
       cases h:bm m i with
       |false=>rfl
       |true=>have:=bk h;omega
      simp only[o,e0,l (m+1) af]
    exact this Ws (i+1) af
   rw[e,<-il];apply Qk;intro x hx hm;have: ∀(d:List (List (Nat×AV))) (m:Nat),x∈bX (mT s m d)-> ∃k a,d[k]? =some a/\s (m+k)=true/\x∈bX a:=by
    intro d;induction d with
    |nil=>intro m h;simp [mT,bX]at h
    |cons V d l=>
     intro m h;simp only[mT,EN,ap]at h;rcases h with h|h
     cases b:s m with
     |true=>rw[b]at h;exact⟨0,V,zz,b,h⟩
     |false=>rw[b]at h;simp [bX]at h
     obtain⟨k,a,f,n,g⟩:=l (m+1) h;exact⟨k+1,a,by simpa using f,by rw[<-n];congr 1;omega,g⟩
   obtain⟨k,a,f,n,g⟩:=this Ws (i+1) hm;exact hd (k+1) a (by simpa using f) af (by rw[<-n];congr 1;omega) x hx g
 |succ j l=>
  intro Ws i env c hs hd;cases Ws with
  |nil=>cases c
  |cons p Ws=>
   have o:bm i (i+(j+1))=false:=by
    cases h:bm i (i+(j+1))with
    |false=>rfl
    |true=>have:=bk h;omega
   simp only[mT,o,e0,il];have:=l (i:=i+1) (env:=fV env (if s i=true then p else[])) (by simpa using c) (by rw[<-hs];congr 1;omega)
    (λk a f n g=>hd (k+1) a (by simpa using f) af (by rw[<-g];congr 1;omega))
   rw[show i+1+j=i+(j+1)from af]at this;exact this
def Ay (acc:List Nat):List Nat->Nat
 |[]=>0
 |p::ps=>((1 <<< p) ||| acc.getD p 0) ||| Ay acc ps
def qZ:List Nat->List (List Nat)->List Nat
 |acc,[]=>acc
 |acc,p::ps=>qZ (acc++[Ay acc p]) ps
theorem Bs {acc:List Nat}{s:Nat->Bool}(ha: ∀j,s j=true->(acc.getD j 0).testBit i=true->s i=true): ∀{ps:List Nat},(∀p∈ps,s p=true)->(Ay acc ps).testBit i=true->s i=true
 |[],_,h=>by simp [Ay]at h
 |p::ps,a,h=>by
  simp only[Ay,Nat.testBit_or,cy]at h;rcases h with (h|h)|h
  have:i=p:=by
   rw[Nat.testBit_shiftLeft]at h;simp only[cr,decide_eq_true_eq]at h;have c:=h.2;have:i-p=0:=by
    cases b:i-p with
    |zero=>rfl
    |succ q=>rw[b]at c;simp [Nat.testBit_succ]at c
   omega
  subst this;exact a _ aF
  exact ha p (a p aF) h;exact Bs ha (λq b=>a q (by simp [b])) h
theorem FF {s:Nat->Bool} : ∀{ps:List (List Nat)} {acc:List Nat},(∀j,s j=true->(acc.getD j 0).testBit i=true->s i=true)->
  (∀k p,ps[k]? =some p->s (acc.length+k)=true-> ∀q∈p,s q=true)-> ∀j,s j=true->((qZ acc ps).getD j 0).testBit i=true->s i=true
 |[],acc,ha,_,j,a,h=>ha j a h
 |p::ps,acc,ha,hc,j,a,h=>by
  simp only[qZ]at h
  refine FF (ps:=ps) (acc:=acc++[Ay acc p]) ?_ ?_ j a h
  ·intro j a h
   by_cases b:j<acc.length
   ·rw[List.getD_eq_getElem?_getD,List.getElem?_append_left b,<-List.getD_eq_getElem?_getD]at h
    exact ha j a h
   ·by_cases he:j=acc.length
    ·subst he
     rw[List.getD_eq_getElem?_getD,List.getElem?_append_right (Nat.le_refl _)]at h
     simp only[Nat.sub_self,List.getElem?_cons_zero,Option.getD_some]at h
     exact Bs ha (hc 0 p zz (by simpa using a)) h
    ·rw[List.getD_eq_getElem?_getD,List.getElem?_eq_none (by simp;omega)]at h
     simp at h
  ·intro k q hk hs
   exact hc (k+1) q (by simpa using hk) (by simp only[List.length_append,List.length_cons,List.length_nil]at hs;rw[<-hs];congr 1;omega)
def yV (A:List Nat)(o:Nat)(a:List (List Nat×List Nat)):Bool:=
 (bI a.length).all λj=>(bI j).all λi=>(A.getD (o+j) 0).testBit (o+i)||
   (match a[i]?,a[j]? with
     |some (fi,c),some (b,d)=>SB c b&&SB d fi
     |_,_=>false)
def Pc (A:List Nat)(m n:Nat):Bool:=(bI n).all λk=>hO k m||(bI m).all λi=>(A.getD k 0).testBit i
def IX (A:List Nat)(m n:Nat):Bool:=(bI n).all λk=>Nat.ble k m||(A.getD k 0).testBit m
def TC (A:List Nat)(m n:Nat):Bool:=(bI n).all λj=>hO j m||IX A j n
def jS:Nat->List (List Nat)->Bool
 |_,[]=>true
 |j,p::ps=>(p.all λi=>hO i j)&&jS (j+1) ps
def rk (ps:List (List Nat))(a:List (List Nat×List Nat)):Bool:=yV (qZ [] ps) 0 a&&Pc (qZ [] ps) a.length ps.length&&TC (qZ [] ps) a.length ps.length&&jS 0 ps
theorem uU: ∀{ps:List (List Nat)} {j:Nat},jS j ps=true-> ∀k p,ps[k]? =some p-> ∀i∈p,i<j+k
 |[],j,_,k,p,h,i,hi=>by simp at h
 |q::ps,j,h,k,p,hk,i,hi=>by
  simp only[jS,cr]at h;cases k with
  |zero=>simp only[ea,an]at hk;subst hk;have:=bn.1 h.1 i hi;exact cb (Nat.lt_succ_self i) (cR this)
  |succ k=>have:=uU h.2 k p (by simpa using hk) i hi;omega
def iH (dst:Option Nat)(k:List Nat):Bool:=match dst with|none=>true|some d=>k.any (bm d)
def lS (P:Program)(r:Option Nat)(N:Nat)(l:aQ)(env:Env)(H:av)(D:List Nat)(W:List (Nat×AV)):Prop:=
 match l.guard with
 |none=>Q1 P r N l.op l.dst env H D W
 |some (t,b)=>(∃c:Bool,env t= .v (.bool c)/\((c=b/\Q1 P r N l.op l.dst env H D W)\/(c≠b/\ ∃d,l.dst=some d/\W=[(d,.v undef)])))\/
  (∃cs,env t= .v (.tuple cs))/\ ∃d,l.dst=some d/\W=[(d,.v undef)]
def P6 (P:Program)(r:Option Nat)(N:Nat)(l:aQ)(env:Env)(H H1:av)(D:List Nat)(W:List (Nat×AV)):Prop:=
 l.guard=none/\R1 P r N l.op l.dst env H H1 D W
abbrev AT:=List Nat×List Nat×Bool×Bool
inductive BM (P:Program)(r:Option Nat)(N:Nat)(Hs:Bool->av)(q:Nat)(D:List Nat):Nat->Env->List (aQ×List Nat)->List AT->List aQ->Env->Prop where
 |nil {i env ops:_}:BM P r N Hs q D i env ops [] (ops.map (·.1)) env
 |cons {i env l pr rest infos sv env' W:_} (f:List Nat) (k0 k1:Bool) (hi:i≠q) (h0:k0=true->lS P r N l (only f env) (Hs false) D W) (h1:k1=true->lS P r N l (only f env) (Hs true) D W)
  (hk:BR (bX W) f=true) (hd:iH l.dst (bX W)=true) (k:BM P r N Hs q D (i+1) (fV env W) rest infos sv env'):
  BM P r N Hs q D i env ((l,pr)::rest) ((f,bX W,k0,k1)::infos) sv env'
 |chg {i env l pr rest infos sv env' W:_} (f:List Nat) (hi:i=q) (h:P6 P r N l (only f env) (Hs false) (Hs true) D W)
  (hk:BR (bX W) f=true) (hd:iH l.dst (bX W)=true) (k:BM P r N Hs q D (i+1) (fV env W) rest infos sv env'):
  BM P r N Hs q D i env ((l,pr)::rest) ((f,bX W,true,true)::infos) sv env'
def Sz (A:List Nat)(o q:Nat)(a:List AT):Bool:=(bI a.length).all λi=>bm i q||
 (match a[i]? with
   |some (_,_,b,c)=>(b||(A.getD (o+i) 0).testBit (o+q))&&(c||(A.getD (o+q) 0).testBit (o+i))
   |none=>false)
def Zg (a:List AT):List (List Nat×List Nat):=a.map λx=>(x.1,x.2.1)
inductive wg (P:Program)(r:Option Nat)(N:Nat)(H:av)(D:List Nat):Env->List (aQ×List Nat)->List (List Nat×List Nat)->List aQ->Env->Prop where
 |nil {env ops:_}:wg P r N H D env ops [] (ops.map (·.1)) env
 |cons {env l pr rest infos sv env' W:_} (f:List Nat) (h:lS P r N l (only f env) H D W) (hk:BR (bX W) f=true) (hd:iH l.dst (bX W)=true)
  (k:wg P r N H D (fV env W) rest infos sv env'):wg P r N H D env ((l,pr)::rest) ((f,bX W)::infos) sv env'
section
variable {P:Program}{r:Option Nat}{Q:dl}{env0:Env}
structure Lt (P:Program)(r:Option Nat)(N:Nat)(Hs:Bool->av)(q:Nat)(D:List Nat)(i0:Nat)(env:Env)(ops:List (aQ×List Nat))(infos:List AT)(sv:List aQ)(env':Env)(Ws:List (List (Nat×AV))):Prop where
 len:Ws.length=infos.length
 le:infos.length<=ops.length
 sv:(ops.drop infos.length).map (·.1)=sv
 fin:env'=fV env Ws.flatten
 step: ∀i f k k0 k1,infos[i]? =some (f,k,k0,k1)-> ∃W l pr,Ws[i]? =some W/\ops[i]? =some (l,pr)/\
  (i0+i≠q->(k0=true->lS P r N l (only f (fV env (Ws.take i).flatten)) (Hs false) D W)/\(k1=true->lS P r N l (only f (fV env (Ws.take i).flatten)) (Hs true) D W))/\
  (i0+i=q->P6 P r N l (only f (fV env (Ws.take i).flatten)) (Hs false) (Hs true) D W)/\k=bX W/\BR k f=true/\iH l.dst k=true
theorem BM.facts {Hs:Bool->av}{q c:Nat}{ops:List (aQ×List Nat)}{a:List AT}(h:BM P r N Hs q D c env ops a ls env'): ∃Ws,Lt P r N Hs q D c env ops a ls env' Ws:=by
 have go: ∀{c:Nat} {env:Env} {l:aQ} {u:List Nat} {b:List (aQ×List Nat)} {a:List AT} {ls:List aQ} {env':Env} {W:List (Nat×AV)} {f:List Nat} {d g:Bool} {Ws:List (List (Nat×AV))},
   Lt P r N Hs q D (c+1) (fV env W) b a ls env' Ws->
   (c≠q->(d=true->lS P r N l (only f env) (Hs false) D W)/\(g=true->lS P r N l (only f env) (Hs true) D W))->(c=q->P6 P r N l (only f env) (Hs false) (Hs true) D W)->
   BR (bX W) f=true->iH l.dst (bX W)=true->Lt P r N Hs q D c env ((l,u)::b) ((f,bX W,d,g)::a) ls env' (W::Ws):=by
  rintro c env l u b a ls env' W f d g Ws ⟨f1,f2,f3,f4,f5⟩ j A hk hd
  refine⟨by simp [f1],by simp;omega,bD,?_,?_⟩
  ·rw[f4,c7,il]
  ·intro i y k s t hi
   cases i with
   |zero=>
    obtain⟨rfl,rfl,rfl,rfl⟩:=hi
    exact⟨W,l,u,zz,zz,j,A,zz,hk,hd⟩
   |succ i=>
    obtain⟨x,C,v,m,n,w,h4,B⟩:=f5 i y k s t hi
    have e:c+1+i=c+(i+1):=af
    rw[e]at w h4
    refine⟨x,C,v,by simpa using m,by simpa using n,?_,?_,B⟩
    ·rw[er,c7,il]
     exact w
    ·rw[er,c7,il]
     exact h4
 induction h with
 |nil=>exact⟨[],zz,aF,zz,zz,bD⟩
 |cons f d g hi z j hk hd _ p=>obtain⟨Ws,o⟩:=p;exact⟨_,go o (λ_=>⟨z,j⟩) (λe=>absurd e hi) hk hd⟩
 |chg f hi h hk hd _ p=>obtain⟨Ws,o⟩:=p;exact⟨_,go o (λe=>absurd hi e) (λ_=>h) hk hd⟩
theorem wg.toG {q:Nat}{a:List (List Nat×List Nat)}(h:wg P r N H D env A a s env'): ∀b,b+A.length<=q->
  BM P r N (λ_=>H) q D b env A (a.map λx=>(x.1,x.2,true,true)) s env':=by
 induction h with
 |nil=>exact λb _=>.nil
 |cons f h hk hd _ d=>intro b c;simp at c;exact .cons f true true af (λ_=>h) (λ_=>h) hk hd (d (b+1) af)
theorem YW {f:List Nat}{e:Env}(h:only f e t≠.any):t∈f/\only f e t=e t:=by grind [only,any_beq]
theorem lS.wpOpIn {l:aQ}(hm:AL P N arr i l)(g:lS P r N l env0 H D W)(hd:iH l.dst (bX W)=true)
  (m: ∀t,env0 t= .any\/env0 t=env t) (J:C.N=N) (hs:Sat C env H D a w S L) {K:Act->World->Prop} {QQ:Exit->Act->World->Prop}
  (hK: ∀I w' G z,Sat C (fV env W) H D I w' G z->K I w'):wpOpIn (Fw r) 0 P arr QQ i K a w:=by
 obtain⟨o,O,h,u,E,hg⟩:=hm.at_;have A: ∀d,l.dst=some d->d∈W.map (·.1):=by intro d e;rw[e]at hd;exact any_beq.1 hd
 unfold hP;simp only[O];have eD:Q1 P r N l.op l.dst env0 H D W->o.wpIn (Fw r) 0 P a w K QQ:=by intro M;refine(Q1.frame m M A) o h u E C a w S L J hs K QQ ?_;rintro env' H' Q y w' G z ⟨rfl,rfl,rfl⟩ p _;rw[<-h]at p ⊢;exact hK _ _ _ _ p
 unfold lS at g;rcases hg with⟨hg,k⟩|⟨j,t,b,hg,k,B⟩
 rw[hg]at g;rw[gG k,zy zz];exact eD g;rw[hg]at g;have q:dn o (yielded arr a.tmps)=false->(∃d,l.dst=some d/\W=[(d,.v undef)])->(if dn o (yielded arr a.tmps)=true then o.wpIn (Fw r) 0 P a w K QQ else(∀f,o.about P w a.eval=some f->(Fw r).fn f)/\K (a.put o.dst undef) w):=by rintro F ⟨d,x,rfl⟩;rw[F,zj aF];refine⟨λ_ _=>trivial,?_⟩;obtain⟨z,p⟩:=hs.mP (dst:=some d) (λR e=>by cases e;exact J▸u d x) zz (by simp [bf]:bf S (.v undef) undef);rw[h,x];exact hK _ _ _ _ p
 rcases g with⟨c,hc,g⟩|⟨⟨cs,hc⟩,g⟩;have n:env t= .v (.bool c):=by rcases m t with e|e;rw[e]at hc;cases hc;rw[<-e];exact hc
 rcases g with⟨s,g⟩|⟨s,g⟩;have F:dn o (yielded arr a.tmps)=true:=(by simp [dn,k,qp hs B n,s]);rw[F,zy zz];exact eD g;exact q (by simp [dn,k,qp hs B n,s]) g
 have n:env t= .v (.tuple cs):=by rcases m t with e|e;rw[e]at hc;cases hc;rw[<-e];exact hc
 exact q (by simp [dn,k,wm hs B n]) g
theorem P6.wpOpIn {l:aQ}(hm:AL P N arr i l)(m:P6 P r N l env0 H H1 D W)(hd:iH l.dst (bX W)=true)
  (f: ∀t,env0 t= .any\/env0 t=env t) (s:C.N=N) (hs:Sat C env H D a w S L) {K:Act->World->Prop} {QQ:Exit->Act->World->Prop}
  (hK: ∀q w' p n,Sat C (fV env W) H1 D q w' p n->K q w'):wpOpIn (Fw r) 0 P arr QQ i K a w:=by
 obtain⟨o,u,b,h,k,hg⟩:=hm.at_;have g: ∀d,l.dst=some d->d∈W.map (·.1):=by intro d e;rw[e]at hd;exact any_beq.1 hd
 obtain⟨v,m⟩:=m;have j:o.guard=none:=bD;unfold hP;simp only[u];rw[gG j,zy zz];refine(R1.frame f m g) o b h k C a w S L s hs K QQ ?_;rintro env' H' x y w' p n ⟨rfl,rfl,rfl⟩ c _;rw[<-b]at c ⊢;exact hK _ _ _ _ c
theorem iE.get : ∀{is:List Nat} {ls:List aQ} {k i:Nat},iE P N arr is ls->is[k]? =some i-> ∃l,ls[k]? =some l/\AL P N arr i l
 |[],_,k,i,_,h=>by simp at h
 |i0::is,ls,k,i,hm,h=>by
  obtain⟨l,ls',rfl,a,b⟩:=hm;cases k with
  |zero=>simp only[ea,an]at h;subst h;exact⟨l,zz,a⟩
  |succ k=>exact b.get (by simpa using h)
theorem iE.drop : ∀{is:List Nat} {ls:List aQ} (k:Nat),iE P N arr is ls->iE P N arr (is.drop k) (ls.drop k)
 |is,ls,0,h=>by simpa using h
 |[],ls,k+1,h=>by simp only[iE]at h;subst h;simp [iE]
 |i0::is,ls,k+1,hm=>by obtain⟨l,ls',rfl,b,a⟩:=hm;exact iE.drop k a
theorem iE.length : ∀{is:List Nat} {ls:List aQ},iE P N arr is ls->ls.length=is.length
 |[],ls,h=>by simp only[iE]at h;subst h;rfl
 |i0::is,ls,hm=>by obtain⟨l,ls',rfl,b,a⟩:=hm;simp [a.length]
theorem Gp {p q:Nat->Bool} : ∀{l:List Nat},(∀x,q x=true->p x=true)->i∈l->p i=true->q i=false->l.countP q<l.countP p
 |[],_,h,_,_=>by cases h
 |x::l,a,h,b,c=>by
  have mono: ∀l:List Nat,l.countP q<=l.countP p:=by
   intro l;induction l with
   |nil=>simp
   |cons y l d=>
    simp only[fD];cases hy:q y with
    |true=>rw[a y hy];simp;exact d
    |false=>simp;omega
  simp only[fD];rcases cD.1 h with rfl|h
  rw[b,c];simp;have:=mono l;omega;have:=Gp a h b c;cases hy:q x with
  |true=>rw[a x hy];simp;exact this
  |false=>simp;omega
section
variable {ps:List (List Nat)}{listed:Array Bool}
theorem A9 {o:Oper} :i∈jb o↔ ∃e∈o.after,Region.binds .any e=true/\e.on=i:=by grind [jb,only]
def xB (ps:List (List Nat))(s:Nat->Bool):Prop:= ∀k p,ps[k]? =some p->s k=true-> ∀q∈p,s q=true
theorem xB.anc {s:Nat->Bool}(h:xB ps s)(b:s j=true)(a:((qZ [] ps).getD j 0).testBit i=true):s i=true:=
 FF bD (λk p hk hs=>h k p hk bD) j b a
theorem xB.add {s:Nat->Bool}(h:xB ps s){p:List Nat}(c:ps[j]? =some p)(a: ∀q∈p,s q=true):xB ps (λk=>s k||bm k j):=by
 intro k d hk hs q b;simp only[cy]at hs ⊢;rcases hs with hs|hs
 exact .inl (h k d hk hs q b);have:=bk hs;subst this;rw[c]at hk;cases hk;exact .inl (a q b)
theorem aff {a:Nat}(h:a≠b):bm a b=false:=Bool.eq_false_iff.2 λe=>h (bk e)
theorem pN {l:Array Bool}:(l.setIfInBounds i true).getD k true=(l.getD k true||bm k i):=by
 by_cases h:k=i;subst h;simp [cd,cA];split<;>rfl
 rw[getD_set_ne true (hz h),aff h,e0]
theorem N5 {l:Array Bool}(h:l.getD k true=false):k<l.size:=by grind
theorem Ds (h:ps=arr.toList.map jb)(d:j∈fe .any arr listed):j<arr.size/\listed.getD j true=false/\ ∃p,ps[j]? =some p/\ ∀q∈p,listed.getD q true=true:=by
 obtain⟨c,o,f,a⟩:=mem_ready.1 d;refine⟨by grind,c,jb o,by simp [h,f],λq g=>?_⟩;obtain⟨e,he,b,rfl⟩:=A9.1 g;have:=a e he b;grind
theorem JM (h:ps=arr.toList.map jb)(d:jS 0 ps=true)(k:listed.size=arr.size)(c:j<arr.size)(f:listed.getD j true=false)(a: ∀i,i<j->listed.getD i true=true):j∈fe .any arr listed:=by
 refine mem_ready.2 ⟨f,arr[j],by simp [c],λe he b=>?_⟩;have g:=uU d j (jb arr[j]) (by simp [h,c]) e.on (A9.2 ⟨e,he,b,zz⟩);have:=a e.on af;grind
theorem Fb (h:ps=arr.toList.map jb)(b:jS 0 ps=true)(hl: ∀k,k<arr.size->(listed.getD k true=true↔k<j)):xB ps (λk=>listed.getD k true):=by
 intro k p hk hs q c;have a:k<arr.size:=by grind
 have:=uU b k p hk q c;have:=(hl k a).1 hs;exact(hl q af).2 af
theorem Bu (hl: ∀k,k<arr.size->(listed.getD k true=true↔k<j)): ∀k,k<arr.size->((listed.setIfInBounds j true).getD k true=true↔k<j+1):=by
 intro k hk;rw[pN,cy,hl k hk,hI];omega
section
variable {F:Fence}{QQ:Exit->Act->World->Prop}{fuel:Nat}
theorem Ck (h:ps=arr.toList.map jb)(e:arr.size<=j)(hl: ∀k,k<arr.size->(listed.getD k true=true↔k<j))(k:QQ .normal a w):wpAnyIn F n P .any arr QQ fuel listed a w:=by
 have b: ∀i,i ∉ fe .any arr listed:=λi hi=>by obtain⟨d,c,_⟩:=Ds h hi;rw[(hl i d).2 af]at c;cases c
 cases fuel;exact⟨List.eq_nil_iff_forall_not_mem.2 b,k⟩;exact⟨λ_=>k,λi hi=>absurd hi (b i)⟩
theorem Kh (h:ps=arr.toList.map jb)(l:jS 0 ps=true)(b:IX (qZ [] ps) j arr.size=true)(e:listed.size=arr.size)(m:j<arr.size)(hl: ∀k,k<arr.size->(listed.getD k true=true↔k<j))
  (hk:wpOpIn F n P arr QQ j (wpAnyIn F n P .any arr QQ fuel (listed.setIfInBounds j true)) a w):wpAnyIn F n P .any arr QQ (fuel+1) listed a w:=by
 have d:listed.getD j true=false:=by cases hx:listed.getD j true;rfl;have:=(hl j m).1 hx;omega
 have c:=JM h l e m d λi hi=>(hl i af).2 hi;refine⟨λq=>(by rw[q]at c;cases c),λi hi=>?_⟩;obtain⟨f,g,p,o,h4⟩:=Ds h hi
 rcases fb i j with hh|hh|hh;rw[(hl i f).2 hh]at g;cases g;exact hh▸hk
 have h5:=bn.1 b i (bA.2 f);simp only[cy]at h5;rcases h5 with h5|h5;have:=cR h5;omega
 have:=((Fb h l hl).add o h4).anc (j:=i) (by simp) h5;simp [d]at this;omega
theorem Yd (h:ps=arr.toList.map jb)(g:jS 0 ps=true){m:Nat}(c:TC (qZ [] ps) m arr.size=true): ∀(fuel j:Nat) (listed:Array Bool) (a:Act) (w:World),listed.size=arr.size->m<=j->
  (∀k,k<arr.size->(listed.getD k true=true↔k<j))->arr.size<=j+fuel->wpOpsIn F n P arr QQ (List.range' j (arr.size-j)) a w->wpAnyIn F n P .any arr QQ fuel listed a w:=by
 intro fuel;induction fuel with
 |zero=>intro j listed a w b hm hl i k;rw[show arr.size-j=0 from af]at k;exact Ck h af hl k
 |succ fuel l=>
  intro j listed a w b hm hl i k;by_cases d:j<arr.size
  ·rw[show arr.size-j=(arr.size-(j+1))+1 from af,List.range'_succ,wpOpsIn_cons]at k
   have h5:=bn.1 c j (bA.2 d);simp only[cy]at h5;rcases h5 with h5|h5;have:=cR h5;omega
   exact Kh h g h5 b d hl (wpOpIn_mono (λe w' f=>l (j+1) _ e w' (by simpa using b) af (Bu hl) af f) k)
  rw[show arr.size-j=0 from af]at k;exact Ck h af hl k
end
end
def gy (P:Program)(r:Option Nat)(N:Nat)(ops:List (aQ×List Nat))(j:Nat)(Q:dl)(env:Env)(H:av)(D:List Nat):Prop:=
 ∀(arr:Array Oper) (ls:List aQ),iE P N arr (bI arr.size) ls->ops=ls.zip (arr.toList.map jb)->
  ∀(C:rX) (a:Act) (w:World) (S:aI) (L:Nat->Option Nat),C.N=N->Sat C env H D a w S L-> ∀(fuel:Nat) (listed:Array Bool),listed.size=arr.size->
   (∀k,k<arr.size->(listed.getD k true=true↔k<j))->arr.size<=j+fuel->wpAnyIn (Fw r) 0 P .any arr (CE C Q) fuel listed a w
section
variable {ops:List (aQ×List Nat)}
theorem vp (b:iE P N arr (bI arr.size) ls)(c:ops=ls.zip (arr.toList.map jb)):ops.map (·.2)=arr.toList.map jb/\ops.map (·.1)=ls/\ops.length=arr.size:=by
 have a:ls.length=arr.size:=by rw[b.length];simp
 rw[c,List.map_snd_zip (by simp [a]),List.map_fst_zip (by simp [a])];simp [a]
theorem It (a:iE P N arr (bI arr.size) ls)(h:ops.map (·.1)=ls){l:aQ}{d:List Nat}(hi:i<arr.size)(e:ops[i]? =some (l,d)):AL P N arr i l:=by
 obtain⟨f,b,c⟩:=a.get (k:=i) (i:=i) (by simp [hi]);rw[<-h,e6,e]at b;cases b;exact c
theorem gy.nil (i:ops.length<=j)(k:Q .normal env H D):gy P r N ops j Q env H D:=λarr ls b c C a w S L g hs fuel listed e hl h=>by obtain⟨d,f,h4⟩:=vp b c;exact Ck d af hl ⟨env,H,D,S,L,hs,k⟩
theorem gy.seq (i:jS 0 (ops.map (·.2))=true)(c:TC (qZ [] (ops.map (·.2))) j ops.length=true)(hk:aY P r N ((ops.drop j).map (·.1)) Q env H D):gy P r N ops j Q env H D:=
 λarr ls b d C a w S L h hs fuel listed e hl k=>by
  obtain⟨f,g,h4⟩:=vp b d;refine Yd f i (h4▸c) fuel j listed a w e (ek _) hl k (hk arr _ ?_ C a w S L h hs);have:=b.drop j;rw[List.range_eq_range',List.drop_range',<-g,<-List.map_drop]at this;simpa using this
theorem gy.Eo {Hs:Bool->av}{q:Nat}{K:List (aQ×List Nat)}{b:List AT}{sv:List aQ}(hA:ops.drop j=K)(b0:BM P r N Hs q D 0 env K b sv env')(B:jS 0 (ops.map (·.2))=true)
  (a2:Pc (qZ [] (ops.map (·.2))) (j+b.length) ops.length=true) (H:yV (qZ [] (ops.map (·.2))) j (Zg b)=true)
  (G:Sz (qZ [] (ops.map (·.2))) j q b=true) (a6:q<b.length\/Hs false=Hs true) (hk:gy P r N ops (j+b.length) Q env' (Hs true) D):gy P r N ops j Q env (Hs false) D:=by
 intro arr ls V a4 C a w S L hN hs fuel listed m hl hf;obtain⟨M,h3,h4⟩:=vp V a4;obtain⟨Ws,f1,f2,f3,f4,f5⟩:=b0.facts;subst hA;rw[ga]at f2
 have u: ∀{i k fi ki k0 k1 fj kj k2 k3},i<k->b[i]? =some (fi,ki,k0,k1)->b[k]? =some (fj,kj,k2,k3)->((qZ [] (ops.map (·.2))).getD (j+k) 0).testBit (j+i)=true\/((∀x∈ki,x ∉ fj)/\(∀x∈kj,x ∉ fi)):=by
  intro i k fi ki k0 k1 fj kj k2 k3 R hi hk;have h1:=bn.1 (bn.1 H k (bA.2 (by simp [Zg,(dk.1 hk).1]))) i (bA.2 R);simp [Zg,hi,hk]at h1;exact h1.imp_right λh1=>⟨λx hx=>DX h1.1 hx,λx hx=>DX h1.2 hx⟩
 have fin: ∀(fuel:Nat) (listed:Array Bool) (a:Act) (w:World) (S:aI) (L:Nat->Option Nat),listed.size=arr.size->(∀k,k<j+b.length->listed.getD k true=true)->(∀k,j+b.length<=k->k<arr.size->listed.getD k true=false)->arr.size<=j+b.length+fuel->
   Sat C (fV env (mT (λk=>listed.getD (j+k) true) 0 Ws)) (Hs (listed.getD (j+q) true)) D a w S L->wpAnyIn (Fw r) 0 P .any arr (CE C Q) fuel listed a w:=by
  intro fuel listed a w S L m A v hf hs
  have hq:Hs (listed.getD (j+q) true)=Hs true:=by rcases a6 with h|h;rw[A _ af];cases listed.getD (j+q) true<;>simp [h]
  rw[IP (λk hk=>by rw[cc];exact A _ af),<-f4,hq]at hs;refine hk arr ls V a4 C a w S L hN hs fuel listed m (λk hk=>⟨λhh=>?_,A k⟩) hf
  rcases e9 k (j+b.length) with h|h;exact h;rw[v k h hk]at hh;cases hh
 have key: ∀(fuel:Nat) (listed:Array Bool) (a:Act) (w:World) (S:aI) (L:Nat->Option Nat),listed.size=arr.size->xB (ops.map (·.2)) (λk=>listed.getD k true)->(∀k,k<j->listed.getD k true=true)->(∀k,j+b.length<=k->k<arr.size->listed.getD k true=false)->
   (bI b.length).countP (λk=> !listed.getD (j+k) true)+(arr.size-(j+b.length))<=fuel->
   Sat C (fV env (mT (λk=>listed.getD (j+k) true) 0 Ws)) (Hs (listed.getD (j+q) true)) D a w S L->wpAnyIn (Fw r) 0 P .any arr (CE C Q) fuel listed a w:=by
  intro fuel;induction fuel with
  |zero=>
   intro listed a w S L m y E v a1 hs;refine fin 0 listed a w S L m (λk hk=>?_) v af hs;by_cases b3:k<j;exact E k b3
   have:=List.countP_eq_zero.1 (show _=0 by exact Nat.eq_zero_of_add_eq_zero_right (Nat.le_zero.1 a1)) (k-j) (bA.2 af);rw[Nat.add_sub_cancel' af]at this;simpa using this
  |succ fuel ih=>
   intro listed a w S L m y E v a1 hs;cases hx:(bI (j+b.length)).find? (λk=> !listed.getD k true) with
   |none=>exact fin _ listed a w S L m (by simpa using hx) v af hs
   |some k0=>
    have hx:=List.find?_range_eq_some.1 hx;simp only[ey,bA,Bool.not_not]at hx;obtain⟨O,b2,a9⟩:=hx
    have a7:=JM M B m (m▸N5 O) O (by simpa using a9);refine⟨λhr=>(by rw[hr]at a7;cases a7),λi hi=>?_⟩;obtain⟨b1,n,p,hp,X⟩:=Ds M hi
    have F:=y.add hp X
    have b9:i<j+b.length:=by
     rcases e9 i (j+b.length) with h|h;exact h
     have h5:=bn.1 a2 i (bA.2 af);simp only[cy]at h5;rcases h5 with h5|h5;have:=cR h5;omega
     have:=F.anc (j:=i) (by simp) (bn.1 h5 k0 (bA.2 b2));simp [O]at this;omega
    obtain⟨d,rfl⟩: ∃d,i=j+d:=⟨i-j,by rcases e9 i j with h|h;rw[E i h]at n;cases n;omega⟩
    have gt: ∀{k},k<b.length-> ∃f kk c0 c1,b[k]? =some (f,kk,c0,c1):=λh=>⟨_,_,_,_,eP h⟩
    obtain⟨fi,ki,b7,b8,s⟩:=gt (k:=d) af;obtain⟨W,l,pr,hW,J,hq,a5,rfl,b5,z⟩:=f5 d fi ki b7 b8 s;rw[cc]at hq a5;rw[List.getElem?_drop]at J
    have U:=It V h3 b1 J
    have wk: ∀{k:Nat} {W':List (Nat×AV)},Ws[k]? =some W'-> ∃f c0 c1,b[k]? =some (f,bX W',c0,c1)/\BR (bX W') f=true:=by
     intro k W' hk;obtain⟨f,kk,c0,c1,hi⟩:=gt (k:=k) (f1▸(dk.1 hk).1);obtain⟨_,_,_,a0,_,_,_,rfl,hs,_⟩:=f5 k f kk c0 c1 hi;rw[hk]at a0;cases a0;exact⟨_,_,_,hi,hs⟩
    have c: ∀t,only fi (fV env (Ws.take d).flatten) t= .any\/only fi (fV env (Ws.take d).flatten) t=fV env (mT (λk=>listed.getD (j+k) true) 0 Ws) t:=by
     intro t;by_cases I:only fi (fV env (Ws.take d).flatten) t= .any;exact .inl I
     obtain⟨a8,he⟩:=YW I;rw[he,show (Ws.take d).flatten=mT (λk=>decide (k<0+d)) 0 Ws from Rq.symm];refine .inr (wX zz λk W' hk=>?_);simp only[cc];obtain⟨fk,c0,c1,o,_⟩:=wk hk
     rcases fb k d with hki|hki|hki
     ·rcases u hki o s with h1|h1;have:=F.anc (i:=j+k) (j:=j+d) (by simp) h1;simp at this;left;rcases this with h|h;simp [hki,h];omega;exact .inr λhx=>h1.1 t hx a8
     ·subst hki;left;simp [n]
     rcases u hki s o with h1|h1;left;cases B:listed.getD (j+k) true;simp;omega;have:=y.anc (i:=j+d) (j:=j+k) B h1;rw[n]at this;cases this;exact .inr λhx=>h1.2 t hx a8
    have hK: ∀a' w' S' L',Sat C (fV (fV env (mT (λk=>listed.getD (j+k) true) 0 Ws)) W) (Hs ((listed.setIfInBounds (j+d) true).getD (j+q) true)) D a' w' S' L'->wpAnyIn (Fw r) 0 P .any arr (CE C Q) fuel (listed.setIfInBounds (j+d) true) a' w':=by
     intro a' w' S' L' Y;have e1: ∀k,(listed.setIfInBounds (j+d) true).getD (j+k) true=(listed.getD (j+k) true||bm k (0+d)):=λk=>by rw[pN,Bool.eq_iff_iff];simp
     refine ih _ a' w' S' L' (by simpa using m) (by simpa only[pN] using F) (λk hk=>by rw[pN,E k hk,Bool.true_or]) (λk h1 M=>by rw[pN,v k h1 M,aff af];rfl) ?_ ?_
     ·have:=Gp (p:=λk=> !listed.getD (j+k) true) (q:=λk=> !(listed.setIfInBounds (j+d) true).getD (j+k) true) (i:=d) (l:=bI b.length) (by intro x hx;rw[e1]at hx;simp at hx ⊢;exact hx.1) (bA.2 af) (by simp [n]) (by simp [e1]);omega
     rw[funext e1,SS hW (by rw[cc];exact n)];exact Y;intro k W' hk R a3 x hx b6;obtain⟨fk,c0,c1,o,b4⟩:=wk hk;rcases u R s o with h1|h1
     rw[cc]at a3;have:=y.anc (i:=j+d) (j:=j+k) a3 h1;rw[n]at this;cases this;exact h1.1 x hx (Q2 b4 b6)
    by_cases T:d=q
    ·subst T;rw[n]at hs;exact P6.wpOpIn U (a5 zz) z c hN hs λa' w' S' L' Y=>hK a' w' S' L' (by rw[pN,e8,gX];exact Y)
    have Z:(listed.setIfInBounds (j+d) true).getD (j+q) true=listed.getD (j+q) true:=by rw[pN];simp;omega
    have g:=bn.1 G d (bA.2 af);simp only[s,cy,cr,hI]at g;obtain⟨g0,g1⟩:=g.resolve_left T;obtain⟨q0,q1⟩:=hq T;rw[Z]at hK;cases B:listed.getD (j+q) true with
    |false=>rw[B]at hs hK;rcases g0 with g0|g0;exact lS.wpOpIn U (q0 g0) z c hN hs hK;have:=F.anc (i:=j+q) (j:=j+d) (by simp) g0;simp [B]at this;omega
    |true=>rw[B]at hs hK;rcases g1 with g1|g1;exact lS.wpOpIn U (q1 g1) z c hN hs hK;have:=y.anc (i:=j+d) (j:=j+q) B g1;rw[n]at this;cases this
 refine key fuel listed a w S L m (Fb M B hl) (λk hk=>eq_true_of_ne_false λe=>by cases e.symm.trans ((hl k (m▸N5 e)).2 hk)) (λk h1 M=>?_) ?_ ?_
 ·cases hx:listed.getD k true;rfl;have:=(hl k M).1 hx;omega
 ·have:=List.countP_le_length (p:=λk=> !listed.getD (j+k) true) (l:=bI b.length);simp only[List.length_range]at this;omega
 have lf: ∀k,k<b.length->listed.getD (j+k) true=false:=λk hk=>by cases hx:listed.getD (j+k) true;rfl;have:=(hl _ af).1 hx;omega
 have e:fV env (mT (λk=>listed.getD (j+k) true) 0 Ws)=env:=by funext t;rw[wX (s':=λ_=>false) zz λk W hk=>.inl (by rw[cc];exact lf k (f1▸(dk.1 hk).1)),AE λ_=>rfl];rfl
 have e2:Hs (listed.getD (j+q) true)=Hs false:=by rcases a6 with h|h;rw[lf q h];cases listed.getD (j+q) true<;>simp [h]
 rw[e,e2];exact hs
theorem aU.DS (hm:P.follows .mixedOrders=true)(h:gy P r N ops 0 Q env H D):aU P r N (.nj ops) Q env H D:=by
 intro c hc C a w S L e hs;generalize b:bZ.nj ops=lc at hc;cases hc with
 | @nj id arr ls d=>simp at b;apply wpIn_region_any hm;refine h arr ls d b C a {w with drawn:=w.drawn+1} S L e (hs.grow ⟨zz,zz,zz,ek _,λ_ _=>rfl⟩) arr.size (eT arr.size false) aF (λk hk=>?_) af;simp [cd,hk]
 |_=>cases b
theorem wg.app {a:List (List Nat×List Nat)}(h:wg P r N H D env A a s env')(e:s=[])(B:List (aQ×List Nat)):wg P r N H D env (A++B) a (B.map (·.1)) env':=by
 induction h with
 |nil=>simp at e;subst e;exact .nil
 |cons f h hk hd _ b=>exact .cons f h hk hd (b e)
theorem gy.chain {b:List (aQ×List Nat)}{a:List (List Nat×List Nat)}(hA:ops.drop j=b)(e:wg P r N H D env b a s env')(f:jS 0 (ops.map (·.2))=true)
  (d:Pc (qZ [] (ops.map (·.2))) (j+a.length) ops.length=true) (c:yV (qZ [] (ops.map (·.2))) j a=true) (hk:gy P r N ops (j+a.length) Q env' H D):gy P r N ops j Q env H D:=by
 refine gy.Eo (q:=b.length) hA (e.toG 0 af) f (by rw[ds];exact d) (by simpa [Zg,hM]using c) ?_ (.inr zz) (by rw[ds];exact hk);refine bn.2 λi hi=>?_;rw[bA,ds]at hi;rw[e6,eP hi];simp
theorem aU.nj {a:List (List Nat×List Nat)}{sv:List aQ}(hm:P.follows .mixedOrders=true)(b:wg P r N H D env ops a sv env')
  (c:rk (ops.map (·.2)) a=true) (hk:aY P r N sv Q env' H D):aU P r N (.nj ops) Q env H D:=by
 simp only[rk,cr,ds]at c;obtain⟨⟨⟨d,e⟩,f⟩,h4⟩:=c;refine aU.DS hm (gy.chain zz b h4 (by rw[cc];exact e) d (gy.seq h4 (by rw[cc];exact f) ?_));obtain⟨Ws,g⟩:=(b.toG (q:=ops.length) 0 af).facts;have:=g.sv;rw[ds]at this;rw[cc,this];exact hk
end
end
variable {d kk:Nat}{q:AV}{ys:List (List AV)}{cs:List AV}{x y:Operand}{H':av}
section
theorem Sat.ie (hs:Sat C env H D a w S L){T:Nat}(j:env t= .eR T cs): ∃b,Sat C (eC env t (.po b 0)) ((b,.cells T cs)::H) D a w S (pX L t none):=by
 have d:=hs.env t;rw[j]at d;simp only[cH]at d;obtain⟨g,h,hy,i⟩:=d;refine⟨g,?_⟩;have f:=hs.rW (p:=.po g 0) zz (by simp only[bf];exact hy);refine {f with heap:=?_,nodup:=?_,aT:=?_};intro e he;rcases cD.1 he with rfl|he
 exact i;exact hs.heap e he
 simp only[fy,ec,gm];exact⟨hs.aT t g h,hs.nodup⟩;intro u b e;simp only[fy,ec,cD,not_or];refine⟨λc=>?_,f.aT u b e⟩;simp only[pX]at e;split at e;cases e;rename_i k;subst c;exact k (hs.lL u t b e h)
theorem Sat.rY (hs:Sat C env H D a w S L){T:Nat}(f:env t= .po b 0)(c:H[i]? =some (b,.cells T cs)):
  Sat C (eC env t (.eR T cs)) (H.eraseIdx i) D a w S (pX L t (some b)):=by have hy:=hs.sA f zz;simp at hy;refine(hs.drop i).oA ?_ ?_;simp;exact⟨b,zz,hy,hs.at_ c⟩;intro g e;cases e;refine⟨λhm=>?_,λu _ e=>hs.aT u b e ?_⟩;obtain⟨e,he,d⟩:=bs.1 hm;exact hs.qo c e he d;grind
theorem bO.rY {T:Nat}(c:env t= .po b 0)(a:H[i]? =some (b,.cells T cs)):bO env H D (eC env t (.eR T cs)) (H.eraseIdx i) D:=
 λ_ _ _ _ _ hs=>⟨_,_,aI.Le.refl _,hs.rY c a⟩
theorem bO.jL {T:Nat}(g:env t= .eR T cs):bO env H D (eC env t (.pi cs)) H D:=by intro C a w S L hs;obtain⟨b,h⟩:=hs.ie g;obtain⟨f,e,c,d⟩:=bO.jw (i:=0) t (bN _ _ _) zz C a w S _ h;rw[eX]at d;exact⟨f,e,c,d⟩
end
section
variable {P:Program}{r:Option Nat}{K:Env->av->List Nat->Prop}{Q:dl}
theorem aU.ie {x:bZ}{T:Nat}(f:env t= .eR T cs)(d: ∀b,aU P r N x Q (eC env t (.po b 0)) ((b,.cells T cs)::H) D):aU P r N x Q env H D:=
 λc hc C a w S L e hs=>by obtain⟨b,h⟩:=hs.ie f;exact d b c hc C a w S _ e h
theorem aY.ie {T:Nat}(e:env t= .eR T cs)(c: ∀b,aY P r N ls Q (eC env t (.po b 0)) ((b,.cells T cs)::H) D):aY P r N ls Q env H D:=
 λarr is hm C a w S L d hs=>by obtain⟨b,h⟩:=hs.ie e;exact c b arr is hm C a w S _ d h
theorem aO.ie {l:kK}{T:Nat}(i:env t= .eR T cs)(f: ∀b,aO P r N l dst (eC env t (.po b 0)) ((b,.cells T cs)::H) D K):aO P r N l dst env H D K:=
 λo d hd e C a w S L g hs next Q c=>by
  obtain⟨b,h⟩:=hs.ie i
  exact f b o d hd e C a w S _ g h next Q c
theorem aO.pre {l:kK}{p:List Nat}(h:bO env H D env' H' p)(s:aO P r N l dst env' H' p K):aO P r N l dst env H D K:=
 λo c hd m C a w S L t hs next Q b=>by
  obtain⟨q,u,j,h⟩:=h C a w S L hs
  exact s o c hd m C a w q _ t h next Q (λe h d y w' i g k n f=>b e h d y w' i g k n (j.trans f))
theorem SE (h:t≠d)(p q:AV):eC (eC env t p) d q=eC (eC env d q) t p:=by grind [ij,bN]
theorem SY (h:env t=p):eC env t p=env:=by funext i;by_cases a:i=t;subst a;rw[bN,h];rw[ij _ _ a]
theorem aO.afX {T:Nat}(hx:bG env x=q)(c:q.cS=true)(a:(ct q).all AV.dG=true)
  (k:K (eC env d (.eR T (ct q))) H D):aO P r N (.box T x) (some d) env H D K:=
 aO.oj (aO.box hx c a (λb=>⟨_,_,_,bO.rY (i:=0) (bN _ _ _) zz,by rw[eX];exact k⟩))
theorem aO.acD {T:Nat}(a:g.all de=true)(k:K (eC env d (.eR T (g.map .v))) H D):aO P r N (.alloc T g) (some d) env H D K:=
 aO.oj (aO.alloc a (λb=>⟨_,_,_,bO.rY (i:=0) (bN _ _ _) zz,by rw[eX];exact k⟩))
theorem aO.acV {T:Nat}(a:g.all de=true)(k:K (eC env d (.pi (g.map .v))) H D):aO P r N (.alloc T g) (some d) env H D K:=
 aO.oj (aO.alloc a (λb=>⟨_,_,_,bO.jw (i:=0) d (bN _ _ _) zz,by rw[eX];exact k⟩))
theorem aO.aeG {T e:Nat}{n:Option Nat}(c:env t= .eR e cs)(f:gw n cs=some p)(a:d≠t)(k:K (eC env d p) H D):aO P r N (.load T (.tmp t) n) (some d) env H D K:=
 aO.ie c (λb=>aO.oj (aO.Xk (i:=0) (bN _ _ _) zz (by simpa using f)
  ⟨_,_,_,bO.rY (i:=0) (by simp only[cP];rw[ij _ _ (hz a),bN]) zz,by
    simp only[cP,eS]
    rw[SE (hz a),eX,SY (by rw[ij _ _ (hz a),c])]
    exact k⟩))
theorem aO.ab5 {T:Nat}(g:env t= .eR d cs)(hy: ∀p,bG (eC env t p) y=q)(f:q.cS=true)(c:(ct q).length=n)(a:(ct q).all AV.dG=true)
  (e:n<=cs.length) (k:K (eC env t (.eR d (bU cs 0 (ct q)))) H D):aO P r N (.store T (.tmp t) y n) none env H D K:=
 aO.ie g (λb=>aO.oj (aO.G6 (i:=0) (bN _ _ _) zz (hy _) f c a af
  ⟨_,_,_,bO.rY (i:=0) (bN _ _ _) zz,by
    simp only[cP,List.set_cons_zero,eS]
    rw[eX]
    exact k⟩))
theorem aO.GY {T:Nat}{ps:List (Nat×Operand)}{q:List AV}(b:iK (sA n (g.map .v)) (ps.map λp=>(p.1*kk,kk,bG env p.2))=some q)
  (a:q.all AV.dG=true) (k:K (eC env d (.sl kk (chunk kk n q))) H D):aO P r N (.jM T n ps E kk g) (some d) env H D K:=
 aO.oj (aO.jM b a ⟨_,_,_,bO.gp (bN _ _ _),by rw[eX];exact k⟩)
theorem aO.Qp {T:Nat}(a:env t= .nil)(hy: ∀p,Ru kk (bG (eC env t p) y) ys)
  (c:ys.length*i<=140737488355328) (e:ys.length<=9223372036854775807)
  (k:K (eC (eC env t .any) d (.aT E kk ys)) H D):aO P r N (.append T b (.tmp t) y E kk i g) (some d) env H D K:=
 aO.pre (bO.mM E kk a) (aO.append (bN _ _ _) (hy _) bD bD (by rw[eX];exact k))
theorem aO.X9 {T:Nat}{l c:Operand}{o kc:IntKind}{z:List Value}(n:Nat){j h:Int}(hl:bG env l= .v (.int o j))(hc:bG env c= .v (.int kc h))(f:j=n)(e:h=n)
  (m:t*n<=281474976710656) (a:n<=9223372036854775807) (g:z.all de=true)
  (k:K (eC env d (.aT E kk (gM n (z.map AV.v)))) H D):aO P r N (.ji T l c E kk t z) (some d) env H D K:=
 aO.oj (aO.ji n hl hc f e m a g (λb=>⟨_,_,_,bO.lC (i:=0) (bN _ _ _) zz,by rw[eX];exact k⟩))
end
variable {T ty:TypeId}{cap off:Nat}{es:List (List AV)}{ps qs:List AV}
def aI.eo (w:World):aI:=⟨λb o=>w.cell? ⟨b,o,none⟩,λb=>match w.heap[b]? with|some (.map e c)=>some (e,c)|_=>none⟩
theorem aI.Cx (w:World):(aI.eo w).In w:=
 ⟨λ_ _ _ h=>h,λb m h=>by
   simp only[aI.eo]at h
   split at h
   ·grind
   ·cases h⟩
theorem aI.In.lK (h:S.In w):S.Le (aI.eo w):=
 ⟨λb o v e=>h.cell b o v e,λb m e=>by simp only[aI.eo,h.map b m e]⟩
mutual
def AV.flat:AV->Bool
 | .any| .v _| .nil=>true
 | .agg l=>AV.E9 l
 | .cG l=>AV.E9 l
 | .Zk _ x=>x.flat
 |_=>false
def AV.E9:List AV->Bool
 |[]=>true
 |a::l=>a.flat&&AV.E9 l
end
def AV.tv:AV->Bool
 | .aT _ _ es=>AV.E9 es.flatten
 |p=>p.flat
mutual
theorem bf.flat {T:aI}: ∀(a:AV) (y:Value),a.flat=true->bf S a y->bf T a y
 | .any,_,_,_=>by simp only[bf]
 | .v x,y,_,r=>by simp only[bf]at r ⊢;exact r
 | .nil,y,_,r=>by simp only[bf]at r ⊢;exact r
 | .agg l,y,h,r=>by simp only[bf,AV.flat]at r h ⊢;obtain⟨cs,e,r⟩:=r;exact⟨cs,e,aS.flat l cs h r⟩
 | .cG l,y,h,r=>by simp only[bf,AV.flat]at r h ⊢;obtain⟨cs,e,r⟩:=r;exact⟨cs,e,aS.flat l cs h r⟩
 | .Zk t x,y,h,r=>by simp only[bf,AV.flat]at r h ⊢;obtain⟨c,e,r⟩:=r;exact⟨c,e,bf.flat x c h r⟩
 | .sl _ _,_,h,_=>by simp [AV.flat]at h
 | .pi _,_,h,_=>by simp [AV.flat]at h
 | .po _ _,_,h,_=>by simp [AV.flat]at h
 | .so _ _ _,_,h,_=>by simp [AV.flat]at h
 | .aT _ _ _,_,h,_=>by simp [AV.flat]at h
 | .eR _ _,_,h,_=>by simp [AV.flat]at h
 | .gT _ _ _ _ _,_,h,_=>by simp [AV.flat]at h
 | .rF _ _,_,h,_=>by simp [AV.flat]at h
 | .mi _,_,h,_=>by simp [AV.flat]at h
 | .mo _,_,h,_=>by simp [AV.flat]at h
 | .fn _ _ _,_,h,_=>by simp [AV.flat]at h
theorem aS.flat {T:aI}: ∀(l:List AV) (cs:List Value),AV.E9 l=true->aS S l cs->aS T l cs
 |[],cs,_,r=>by simp only[aS]at r ⊢;exact r
 |a::l,cs,h,r=>by simp only[aS,AV.E9,cr]at r h ⊢;obtain⟨c,b,e,d,f⟩:=r;exact⟨c,b,e,bf.flat a c h.1 d,aS.flat l b h.2 f⟩
end
theorem cH.flat {B:Nat->Prop}{T:aI}{g:Option Nat}{y:Value}(h:p.tv=true)(r:cH B S w g p y)(n: ∀b,g=some b-> ¬T.has b):cH B T w g p y:=by
 cases p;case aT E k es=>
  simp only[cH]at r ⊢;rcases r with r|⟨b,cap,hg,hy,a⟩
  exact .inl r;obtain⟨o,e,cur,d,f,i,h4,j,l,m⟩:=a.holds;exact .inr ⟨b,cap,hg,hy,a.base,n b hg,o,e,cur,d,f,i,h4,j,aS.flat _ _ h l,m⟩
 case eR=>simp [AV.tv,AV.flat]at h
 case gT=>simp [AV.tv,AV.flat]at h
 case rF=>simp [AV.tv,AV.flat]at h
 all_goals
  have c:=cH.sA (by simp [AV.bT]) r
  rw[c.1]
  exact cH.gW (by simp [AV.bT]) (bf.flat _ _ h c.2)
section
variable {P:Program}{r:Option Nat}{K:Env->av->List Nat->Prop}{Q:dl}
theorem aO.eqB {neg:Bool}{a b:Bool}(hx:bG env x= .v (.bool a))(hy:bG env y= .v (.bool b))(e:P.underlying T=some .bool)(k:K (cP env dst (.v (.bool (match neg with|true=>a !=b|false=>a==b)))) H D):
  aO P r N (.pK neg T x y) dst env H D K:=
 aO.pure zz aF (λo c C f w S L hs=>⟨.bool (match neg with|true=>a !=b|false=>a==b),by
  cases c with
  |pK d h=>
   have he:(Op.equal T (.bool a) (.bool b)).run P w= .ok (a==b) w:=by
    show (hL (9999+1) T (.bool a) (.bool b)).run P w=_
    rw[hL]
    simp only[ff,underlying,run_program,eM,e,fr]
   cases neg<;>simp [execOp,d,hs.int hx,hs.int hy,eqGuard,binOp,he,bne],by cases neg<;>simp [bf]⟩) k
def jC (env:Env)(H:av)(p q:AV):Prop:= ∀(C:rX) (D:List Nat) (a:Act) (w:World) (S:aI) (L:Nat->Option Nat),Sat C env H D a w S L-> ∀v,bf S p v->bf (aI.eo w) q v
theorem jC.refl (p:AV):jC env H p p:=λ_ _ _ _ _ _ hs a r=>bf.mono hs.sin.lK _ _ r
theorem Vw {A:Nat->Prop}(f:S.In w){T:Nat}(h:Own A S w b (.arr T k cap es)):es.length<=cap/\cap<=maxLen/\gZ (aI.eo w) k es b 0:=by obtain⟨cur,a,l,d,e,hk,m,i⟩:=h.PN;refine⟨d,e,lT (aS.mono f.lK _ _ m) hk i ?_⟩;intro j c g;show w.cell? ⟨b,0+j,none⟩=some c;rw[cc,cell_of_row w b _ _ _ _ a];rw[List.getElem?_take]at g;split at g;grind;cases g
theorem jC.gT {u T:Nat}{d:Option Addr}(l:env u= .gT T k es d cap)(o:n=es.length):jC env H (.v (.slice d n cap)) (.sl k es):=by
 intro C D a w S L hs v r;simp only[bf]at r ⊢;have c:=hs.env u;rw[l]at c;simp at c;obtain⟨m,h⟩:=c;rcases h with⟨hy,he,_⟩|⟨g,b,_,hy,j⟩
 grind;right;obtain⟨e,f,i⟩:=Vw hs.sin j;exact⟨g,0,b,bD,e,f,i⟩
theorem jC.po {T:Nat}(g:H[i]? =some (b,.cells T cs)):jC env H (.po b off) (.pi (cs.drop off)):=by
 intro C D a w S L hs v r;simp only[bf]at r ⊢;obtain⟨l,d,k,f⟩:=(hs.at_ g).row;refine⟨b,off,r,?_⟩;have e:fY (aI.eo w) cs b 0:=og (aS.mono hs.sin.lK _ _ k) f (λj c h=>by
  show w.cell? ⟨b,0+j,none⟩=some c
  rw[cc,cell_of_row w b _ _ _ _ d];simpa using h)
 simpa using e.drop off
theorem abm (hs:Sat C env H D a w S L): ∀{ps qs:List AV} {b:List Value},fp (jC env H) ps qs->aS S ps b->aS (aI.eo w) qs b
 |[],[],b,_,r=>by simp only[aS]at r ⊢;exact r
 |p::ps,q::qs,b,h,r=>by simp only[aS]at r ⊢;obtain⟨c,d,e,f,g⟩:=r;exact⟨c,d,e,h.1 C D a w S L hs c f,abm hs h.2 g⟩
 |[],_::_,_,h,_=>h.elim
 |_::_,[],_,h,_=>h.elim
theorem Sat.Xs (hs:Sat C env H D a w S L)(hd: ∀d,dst=some d->d<C.N){k:aI}{g:Option Nat}{v:Value}(n:p.tv=true)
  (l:RowKit.Below w.heap.size w w') (f:cH (λb=>w.heap.size<=b) k w' g p v): ∃j,Sat C (cP env dst p) H D (a.put dst v) w' S j:=by
 have i:=hs.grow l;have h:cH C.A S w' g p v:=(f.flat n (λb e hh=>by
  subst e
  have:=f.yP.1
  have:=hs.sin.lt hh
  omega)).Ad (λb c=>hs.fresh c)
 cases dst with
 |none=>exact⟨L,i⟩
 |some d=>refine⟨_,i.sC (cb (hd d zz) hs.size) h ?_⟩;intro b e;subst e;have m:=f.yP.1;refine⟨λhm=>absurd (hs.tN hm) af,λt _ e=>absurd (hs.K9 e) af⟩
theorem Ev.IQ {l:List PanicEntry->Env->av->List Nat->Prop}(h:Ev P f qs res)(d:fp (jC env H) ps qs)(b:res.tv=true)(k:K (cP env dst res) H D):qu P f dst env H D K l ps:=λC a w S L hs hd s q=>⟨h.1,(h.2 _ w _ (hs.gl.mono hs.sin.lK) (aI.Cx w) (abm hs d q)).mono (by
 rintro e w' ⟨v,r,g,rfl,o,n,j,c,p⟩;obtain⟨m,i⟩:=hs.Xs hd b c p;exact .inl ⟨v,_,_,_,S,m,zz,k,i,aI.Le.refl _⟩)⟩
theorem aO.IQ {args:List Operand}(d:Ev P f qs res)(e:args.map (bG env)=ps)(c:ps.all (λp=> !p.bT)=true)(b:fp (jC env H) ps qs)(a:res.tv=true)
  (k:K (cP env dst res) H D):aO P r N (.call f args ty) dst env H D K:=by subst e;exact(ni.OX c (d.IQ b a k)).So
theorem aO.acX {args:List Operand}{a:List AV}(hx:bG env x= .fn (.func f) Z a)(e:Ev P f qs res)(g:args.map (bG env)=ps)(d:ps.all (λp=> !p.bT)=true)
  (c:fp (jC env H) (Z++ps++a) qs) (b:res.tv=true) (k:K (cP env dst res) H D):aO P r N (.kV x args ty) dst env H D K:=by subst g;exact(ni.Hg hx d (e.IQ c b k)).So
theorem Sat.Ei (hs:Sat C env H D a w S L){T:Nat}(k:env t= .aT T kk es): ∃h cap,∃f,Sat C (eC env t (.gT T kk es h cap)) H D a w S f:=by
 have d:=hs.env t;rw[k]at d;simp at d;have hg: ∀b,L t=some b->b ∉ (H++C.F).map (·.1)/\ ∀u,u≠t->L u≠some b:=λb e=>⟨hs.aT t b e,λu l i=>l (hs.lL u t b i e)⟩;rcases d with⟨hy,he,c⟩|⟨g,cap,c,hy,j⟩
 exact⟨none,0,_,hs.oA (by simp;exact⟨by rw[hy,he];rfl,.inl ⟨hy,he,c⟩⟩) hg⟩;exact⟨some ⟨g,0,none⟩,cap,_,hs.oA (by simp;exact⟨hy,.inr ⟨g,cap,c,hy,j⟩⟩) hg⟩
theorem aU.Ei {x:bZ}(t:Nat){T:Nat}(g:env t= .aT T kk es)(h: ∀b cap,aU P r N x Q (eC env t (.gT T kk es b cap)) H D):aU P r N x Q env H D:=
 λc hc C a w S L f hs=>by obtain⟨b,cap,d,e⟩:=hs.Ei g;exact h b cap c hc C a w S d f e
theorem aY.Ei (t:Nat){T:Nat}(f:env t= .aT T kk es)(h: ∀b cap,aY P r N ls Q (eC env t (.gT T kk es b cap)) H D):aY P r N ls Q env H D:=
 λarr is hm C a w S L e hs=>by obtain⟨b,cap,c,d⟩:=hs.Ei f;exact h b cap arr is hm C a w S c e d
theorem bO.Ms {T:Nat}{d:Option Addr}(g:env t= .gT T kk es d cap):bO env H D (eC env t (.aT T kk es)) H D:=by intro C a w S L hs;have c:=hs.env t;rw[g]at c;simp at c;exact⟨S,_,aI.Le.refl S,hs.oA (by simp;exact c.2) (λb e=>⟨hs.aT t b e,λu h f=>h (hs.lL u t b f e)⟩)⟩
theorem bO.U5 {u T:Nat}{i:Option Addr}(h:t≠u)(q:env u= .gT T kk es i cap)(o:env t= .v (.slice i n cap))(m:n=es.length):bO env H D (eC (eC env u .any) t (.aT T kk es)) H D:=by
 intro C a w S L hs;have d:=hs.env u;rw[q]at d;simp only[cH]at d;obtain⟨k,l⟩:=d;have j:=hs.sA o zz;simp only[bf]at j;have e:a.tmps.getD t undef=a.tmps.getD u undef:=by rw[j,k,m]
 have f:=hs.rW (t:=u) (p:=.any) zz (by simp [bf]);refine⟨S,_,aI.Le.refl S,f.oA (by rw[e];simp only[cH];exact l) ?_⟩;intro b eb;refine⟨hs.aT u b eb,λv r c=>?_⟩;simp only[pX]at c;split at c;cases c;rename_i g;exact g (hs.lL v u b c eb)
theorem aO.afZ {T:Nat}{f:Option Addr}(j:env t= .gT T kk es f cap)(k:K (eC env d (.v (.slice f es.length cap))) H D):aO P r N (.tJ (.tmp t)) (some d) env H D K:=by
 intro o c hd e C a w S L i hs next Q b
 have g:=hs.env t;rw[j]at g;simp only[cH]at g;have h:=hs.put (cb (i▸hd d zz) hs.size) (p:=.v (.slice f es.length cap)) zz (by simp only[bf];exact g.1);exact Oper.ck e aF (Ib e) (by rw[c];exact b _ _ _ _ _ _ _ k h (aI.Le.refl _))
theorem aO.XQ {T u:Nat}{z:List Value}{b:Option Addr}(a:t≠u)(g:env u= .gT E kk es b cap)(f:env t= .v (.slice b n cap))(e:n=es.length)
  (hy:Ru kk (bG (eC (eC env u .any) t (.aT E kk es)) y) ys) (c:(es.length+ys.length)*j<=140737488355328) (hm:es.length+ys.length<=9223372036854775807)
  (k:K (eC (eC (eC env u .any) t .any) d (.aT E kk (es++ys))) H D):aO P r N (.append T i (.tmp t) y E kk j z) (some d) env H D K:=
 aO.pre (bO.U5 a g f e) (aO.append (bN _ _ _) hy c hm (by rw[eX];exact k))
end
variable {kd:IntKind}
theorem gZ.drop : ∀{es:List (List AV)} {b o:Nat} (n:Nat),gZ S k es b o->gZ S k (es.drop n) b (o+n*k)
 |es,b,o,0,h=>by simpa using h
 |[],b,o,n+1,h=>by simp [gZ]
 |e::es,b,o,n+1,h=>by simp only[gZ]at h;rw[List.drop_succ_cons,show o+(n+1)*k=o+k+n*k by rw[hF];omega];exact gZ.drop n h.2.2
theorem gZ.take : ∀{es:List (List AV)} {b o:Nat} (n:Nat),gZ S k es b o->gZ S k (es.take n) b o
 |es,b,o,0,h=>by simp [gZ]
 |[],b,o,n+1,h=>by simp [gZ]
 |e::es,b,o,n+1,h=>by simp only[gZ]at h;simp;exact⟨h.1,h.2.1,gZ.take n h.2.2⟩
theorem fY.V4 : ∀{cs:List AV} {b o:Nat} (n:Nat),fY S cs b o->fY S (cs.take n) b o
 |cs,b,o,0,h=>by simp [fY]
 |[],b,o,n+1,h=>by simp [fY]
 |e::es,b,o,n+1,h=>by simp only[fY]at h;simp;exact⟨h.1,fY.V4 n h.2⟩
theorem xb : ∀{n:Nat} {cs:List AV} {o:Nat},n*k<=cs.length->fY S cs b o->gZ S k (chunk k n cs) b o
 |0,cs,o,_,h=>by simp [chunk,gZ]
 |n+1,cs,o,hl,h=>by rw[hF]at hl;simp only[chunk,gZ];exact⟨by rw[List.length_take];omega,h.V4 k,xb (by rw[ga];omega) (h.drop k)⟩
def kI {α:Type}(es:List α)(lo hi:Option Nat):List α:=match lo,hi with
 |none,none=>es
 |some l,none=>es.drop l
 |none,some h=>es.take h
 |some l,some h=>(es.take h).drop l
def ER (env:Env):Option Operand->Option Nat->Prop
 |none,m=>m=none
 |some x,m=> ∃kd n k,bG env x= .v (.int kd n)/\n=((k:Nat):Int)/\m=some k
section
variable {P:Program}{r:Option Nat}{K:Env->av->List Nat->Prop}
theorem jq (P:Program)(w:World)(a:Bool)(len cap l h:Nat)(lo hi:Option Value)(b:(lo=none/\l=0)\/ ∃kd,lo=some (.int kd l))(c:(hi=none/\h=len)\/ ∃kd,hi=some (.int kd h))
  (d:l<=h) (h4:h<=cap):(e5 a len cap lo hi none).run P w= .ok (l,h,cap) w:=by
 rcases b with⟨rfl,rfl⟩|⟨kd,rfl⟩<;>rcases c with⟨rfl,rfl⟩|⟨e,rfl⟩<;>cases a<;>
  simp [e5,Instr.sliceBound,asIntOf,d,h4]
theorem ER.val (hs:Sat C env H D a w S L){x:Option Operand}(h:ER env x m)(d:Nat):
  (x.map a.eval=none/\m.getD d=d)\/ ∃kd,x.map a.eval=some (.int kd (m.getD d:Nat)):=by
 cases x with
 |none=>simp only[ER]at h;subst h;exact .inl gJ
 |some x=>obtain⟨kd,n,k,e,rfl,rfl⟩:=h;refine .inr ⟨kd,?_⟩;simp [hs.int e]
theorem Kf {o:Nat}(h:gZ S k es b o)(lo hi:Option Nat)(a:lo.getD 0<=hi.getD es.length)(c:hi.getD es.length<=es.length):
  gZ S k (kI es lo hi) b (o+lo.getD 0*k)/\(kI es lo hi).length=hi.getD es.length-lo.getD 0:=by
 cases lo<;>cases hi<;>simp only[kI,Option.getD]at*
 grind;exact⟨by simpa using h.take _,by simp;omega⟩;exact⟨h.drop _,aF⟩;exact⟨(h.take _).drop _,by simp;omega⟩
theorem aO.oB {lo hi:Option Operand}(l h:Option Nat)(hx:bG env x= .sl kk es)(y:ER env lo l)(u:ER env hi h)
  (m:l.getD 0<=h.getD es.length) (q:h.getD es.length<=es.length) (k:K (cP env dst (.sl kk (kI es l h))) H D):aO P r N (.oB T x lo hi none kk) dst env H D K:=
 aO.pure zz aF (λo hl C a w S L hs=>by
  have A:=hs.dM x hx zz
  simp only[bf]at A
  have i:=y.val hs 0
  have f:=u.val hs es.length
  cases hl with
  |oB d t v=>
   rename_i E j
   rcases A with⟨⟨p,n⟩,rfl⟩|⟨b,off,cap,n,hc,hm,F⟩
   ·have e:=jq P w true 0 0 (l.getD 0) (h.getD 0) (lo.map a.eval) (hi.map a.eval) i f m (by simpa using q)
    have z:h.getD ([]:List (List AV)).length=0:=by simp at q ⊢;omega
    simp at z m
    have B:l.getD 0=0:=af
    refine⟨.slice p 0 0,?_,by simp only[bf];exact .inl ⟨⟨_,zz⟩,by cases l<;>cases h<;>simp [kI]⟩⟩
    simp [execOp,d,cB,eU,underlying,t,n,e,z,B,sizeOf,typeInfo,v]
   ·obtain⟨s,g⟩:=Kf F l h m q
    have e:=jq P w true es.length cap (l.getD 0) (h.getD es.length) (lo.map a.eval) (hi.map a.eval) i f m af
    by_cases c:cap=l.getD 0
    ·have G:kI es l h=[]:=ej af
     refine⟨.slice (some ⟨b,off,none⟩) (h.getD es.length-l.getD 0) (cap-l.getD 0),?_,by
      simp only[bf,G];exact .inr ⟨b,off,cap-l.getD 0,by rw[show h.getD es.length-l.getD 0=0 from af];rfl,aF,af,by simp [gZ]⟩⟩
     rw[c]at e ⊢
     simp [execOp,d,cB,eU,underlying,t,n,e,c,sizeOf,typeInfo,v]
    ·refine⟨.slice (some ⟨b,off+l.getD 0*j.size,none⟩) (h.getD es.length-l.getD 0) (cap-l.getD 0),?_,by
      simp only[bf];exact .inr ⟨b,_,cap-l.getD 0,by rw[g],af,af,s⟩⟩
     simp [execOp,d,cB,eU,underlying,t,n,e,c,sizeOf,typeInfo,v,addr_add]) k
theorem aO.pG {lo hi:Option Operand}{s:ByteArray}(l h:Option Nat)(hx:bG env x= .v (.string s))(d:ER env lo l)(b:ER env hi h)
  (g:l.getD 0<=h.getD s.size) (i:h.getD s.size<=s.size) (k:K (cP env dst (.v (.string (s.extract (l.getD 0) (h.getD s.size))))) H D):aO P r N (.pG T x lo hi none) dst env H D K:=
 aO.pure zz aF (λo hl C a w S L hs=>by
  have e:=d.val hs 0
  have c:=b.val hs s.size
  cases hl with
  |pG f j=>
   have m:=jq P w false s.size s.size (l.getD 0) (h.getD s.size) (lo.map a.eval) (hi.map a.eval) e c g i
   exact⟨.string (s.extract (l.getD 0) (h.getD s.size)),by simp [execOp,f,cB,eU,underlying,j,hs.int hx,m],by simp [bf]⟩) k
theorem aO.oo {lo hi:Option Operand}(l h:Option Nat)(hx:bG env x= .pi cs)(p:ER env lo l)(i:ER env hi h)
  (G:n*kk<=cs.length) (F:n<=maxLen) (s:l.getD 0<=h.getD n) (t:h.getD n<=n) (k:K (cP env dst (.sl kk (kI (chunk kk n cs) l h))) H D):aO P r N (.oo T x lo hi none n kk) dst env H D K:=
 aO.pure zz aF (λo hl C a w S L hs=>by
  have y:=hs.dM x hx zz
  simp only[bf]at y
  obtain⟨b,off,z,A⟩:=y
  have q:=p.val hs 0
  have m:=i.val hs n
  have B:=xb G A
  obtain⟨f,c⟩:=Kf B l h (by rw[gC];exact s) (by rw[gC];exact t)
  rw[gC]at c
  cases hl with
  |oo e u v=>
   rename_i E j
   have g:=jq P w false n n (l.getD 0) (h.getD n) (lo.map a.eval) (hi.map a.eval) q m s t
   by_cases d:n=l.getD 0
   ·have I:kI (chunk j.size n cs) l h=[]:=ej af
    refine⟨.slice (some ⟨b,off,none⟩) (h.getD n-l.getD 0) (n-l.getD 0),?_,by
     simp only[bf,I];exact .inr ⟨b,off,n-l.getD 0,by rw[show h.getD n-l.getD 0=0 from af];rfl,aF,af,by simp [gZ]⟩⟩
    rw[<-d]at g ⊢
    simp [execOp,e,cB,ew,underlying,u,z,g,sizeOf,typeInfo,v]
   ·refine⟨.slice (some ⟨b,off+l.getD 0*j.size,none⟩) (h.getD n-l.getD 0) (n-l.getD 0),?_,by
     simp only[bf];exact .inr ⟨b,_,n-l.getD 0,by rw[c],af,af,f⟩⟩
    simp [execOp,e,cB,ew,underlying,u,z,g,d,sizeOf,typeInfo,v,addr_add]) k
theorem aO.Yc (hx:bG env x= .po b off)(k:K (cP env dst (.v (.slice (some ⟨b,off,none⟩) n n))) H D):aO P r N (.oo T x none none none n kk) dst env H D K:=
 aO.pure zz aF (λo hl C a w S L hs=>by
  have d:=hs.dM x hx zz
  simp only[bf]at d
  cases hl with
  |oo c e g=>
   rename_i E j
   have f:=jq P w false n n 0 n none none (.inl gJ) (.inl gJ) (Nat.zero_le _) (ek _)
   refine⟨.slice (some ⟨b,off,none⟩) n n,?_,by simp [bf]⟩
   simp [execOp,c,cB,ew,underlying,e,d,f,sizeOf,typeInfo,g,addr_add]) k
theorem aO.concat {s t:ByteArray}(hx:bG env x= .v (.string s))(hy:bG env y= .v (.string t))(h:s.size+t.size<=9223372036854775807)
  (k:K (cP env dst (.v (.string (s++t)))) H D):aO P r N (.bin .add T x y) dst env H D K:=
 aO.pure zz aF (λo b C a w S L hs=>⟨.string (s++t),by
  have c: ¬(((s.size+t.size:Nat):Int)>hE.max):=by
   have:hE.max=9223372036854775807:=rfl
   rw[this];omega
  rw[A8 b (hs.int hx) (hs.int hy)]
  simp only[Op.stringOp,zj c]
  rfl,by simp [bf]⟩) k
theorem aO.min2 {g:List TypeId}{a b:Int}(hx:bG env x= .v (.int kd a))(hy:bG env y= .v (.int kd b))(k:K (cP env dst (.v (.int kd (min a b)))) H D):
  aO P r N (.min g ty [x,y]) dst env H D K:=
 aO.pure zz aF (λo c C h w S L hs=>⟨.int kd (min a b),by
  generalize f:[x,y]=xs at c
  cases c with
  |min d=>
   rw[YT f.symm]at d
   have e:min a b=if b<a then b else a:=by
    rw[Int.min_def];split<;>split<;>omega
   simp [execOp,d,resolve,invoke,builtin,Builtin.min_,Builtin.min2,hs.int hx,hs.int hy,e],by simp [bf]⟩) k
theorem aO.max2 {g:List TypeId}{a b:Int}(hx:bG env x= .v (.int kd a))(hy:bG env y= .v (.int kd b))(k:K (cP env dst (.v (.int kd (max a b)))) H D):
  aO P r N (.max g ty [x,y]) dst env H D K:=
 aO.pure zz aF (λo c C h w S L hs=>⟨.int kd (max a b),by
  generalize f:[x,y]=xs at c
  cases c with
  |max d=>
   rw[YT f.symm]at d
   have e:max a b=if b>a then b else a:=by
    rw[Int.max_def];split<;>split<;>omega
   simp [execOp,d,resolve,invoke,builtin,Builtin.max_,Builtin.max2,hs.int hx,hs.int hy,e],by simp [bf]⟩) k
theorem aO.acE {i:Operand}{len:Nat}{e:List AV}{n:Int}(m:Nat)(hx:bG env x= .pi cs)(hi:bG env i= .v (.int kd n))(l:n=m)(hm:m<len)(he:e<+:cs.drop (m*kk))
  (k:K (cP env dst (.pi e)) H D):aO P r N (.mK T x i len kk) dst env H D K:=
 aO.pure zz aF (λo c C q w S L hs=>by
  have f:=hs.dM x hx zz
  simp only[bf]at f
  obtain⟨b,off,p,g⟩:=f
  have a:=(g.drop (m*kk)).V4 e.length
  rw[<-List.prefix_iff_eq_take.1 he]at a
  refine⟨.pointer (some ⟨b,off+m*kk,none⟩),?_,by simp only[bf];exact⟨b,_,zz,a⟩⟩
  cases c with
  |mK d h s j=>
   subst l
   simp [execOp,d,Instr.indexAt,hs.int hi,asIntOf,underlying,h,p,ew,hm,sizeOf,typeInfo,j,addr_add]) k
theorem aO.kH {i:Operand}{len:Nat}{g:Option Nat}{l:List AV}{F:Int}(n:Nat)(hx:bG env x= .agg l)(hi:bG env i= .v (.int kd F))(G:F=n)(e:n<len)(b:lm g (n*kk) l=some p)(t:p.bT=false)
  (k:K (cP env dst p) H D):aO P r N (.kH T x i len kk g) dst env H D K:=by
 subst G;refine aO.pure t aF (λo s C a w S L hs=>?_) k;have A:=hs.dM x hx zz;simp only[bf]at A;obtain⟨cs,B,hc⟩:=A;have d:=hs.int hi;cases s with
 |kH f u z hg=>
  rename_i E j;cases g with
  |none=>simp only[lm]at b;obtain⟨c,h,q⟩:=hc.get b;refine⟨c,?_,q⟩;have:=yo (w:=w) hg (cs:=cs.toArray) (by simpa using h);simp [execOp,f,hC,d,asIntOf,underlying,u,B,e,sizeOf,typeInfo,z,this]
  |some m=>simp only[lm]at b;split at b;cases b;refine⟨.agg ((cs.drop (n*j.size)).take m).toArray,?_,by simp only[bf];exact⟨_,zz,(hc.drop _).take m⟩⟩;have:=yo (w:=w) hg (cs:=cs.toArray) (off:=n*j.size) (y:=.agg ((cs.drop (n*j.size)).take m).toArray) (by simp [List.extract_toArray,List.extract_eq_take_drop]);simp [execOp,f,hC,d,asIntOf,underlying,u,B,e,sizeOf,typeInfo,z,this];cases b
def tg (P:Program)(f:FuncId):Prop:= ∀(a:Option Addr) (n cap:Nat),n<=cap->(a=none->cap=0)->Ev P f [.v (.slice a n cap)] (.v (.slice a n n))
theorem aO.VJ {T:Nat}(hc:tg P f)(Z:env t= .aT T kk es)(k:K (eC (eC env t .any) d (.aT T kk es)) H D):aO P r N (.call f [.tmp t] ty) (some d) env H D K:=by
 intro o q hd x C a w S L hN hs next Q j
 have R:=hs.env t;rw[Z]at R;simp only[cH]at R;obtain⟨m,cap,hy,M,O⟩: ∃m cap,a.tmps.getD t undef= .slice m es.length cap/\es.length<=cap/\(m=none->cap=0):=by rcases R with⟨hy,he,_⟩|⟨g,cap,_,hy,A⟩;grind;obtain⟨cur,_,_,I,_⟩:=A.PN;exact⟨_,cap,hy,I,λe=>by cases e⟩
 have s:=hc m es.length cap M O;generalize V:[Operand.tmp t]=a0 at x;cases x with
 |call B hf hn hb=>
  rename_i xs ts fn;have U:xs.map a.eval= #[a.tmps.getD t undef]:=by apply fv.1;rw[Array.toList_map,<-V];rfl
  apply Oper.Nl (.call B hf hn hb) aF (f:=f) (args:=xs.map a.eval) (w':=w);simp [execOp,B,resolve,fx,Act.eval,invoke,mm s.1];rw[U];refine(s.2 S w [a.tmps.getD t undef] hs.gl hs.sin (by simp only[aS,bf];exact⟨_,_,zz,hy,zz⟩)).mono ?_;rintro e w' ⟨v,S',g,rfl,i,J,z,n,F⟩;simp only[cH,bf]at F;obtain⟨-,rfl⟩:=F;obtain⟨W,h⟩:=hs.called (dst:=none) (p:=.any) (v:=undef) (λd e=>by cases e) i J z n (cH.gW zz (by simp [bf]));have h:Sat C env H D a w' S' W:=h;have l:=h.env t;rw[Z]at l;have h1:=h.rW (t:=t) (p:=.any) zz (by simp [bf]);have I:=h1.sC (d:=d) (p:=.aT T kk es) (y:=.slice m es.length es.length) (g:=W t) (cb (hN▸hd d zz) hs.size) (by
   simp only[cH]at l ⊢
   rcases l with⟨c,he,hl⟩|⟨g,Y,hl,c,A⟩
   ·rw[hy]at c
    simp only[fu]at c
    obtain⟨rfl,h0,-⟩:=c
    exact .inl ⟨by rw[h0],he,hl⟩
   ·rw[hy]at c
    simp only[fu]at c
    obtain⟨rfl,-,rfl⟩:=c
    obtain⟨cur,E,c1,X,c3,c4,c5,c6⟩:=A.PN
    exact .inr ⟨g,es.length,hl,zz,⟨A.base,A.apart,_,E,cur,zz,hv (Nat.mul_le_mul_right _ X) c1,ek _,hv X c3,c4,c5,c6⟩⟩) (by
   intro b e
   refine⟨h.aT t b e,λu _ G=>?_⟩
   simp only[pX]at G
   split at G
   ·cases G
   ·rename_i hu;exact hu (h.lL u t b G e))
  exact⟨_,zz,by rw[q];exact j _ _ _ _ _ _ _ k I i⟩
end
inductive Hint where
 |cells (e:List AV)
 |byte (c:UInt8)
 |ret (res:AV)
 |yt (qs:List AV) (res:AV)
 |at (i:Nat)
 |elt (i m f:Nat) (e:List AV)
 |bY
 |aT
 |val (p:AV)
 |op (p:AV)
 |H9 (qs:List AV) (res:AV)
 |own (u:Nat)
 |agF (fs:List Nat)
 |iL (i:Nat)
 |Xo (i m f:Nat) (e:List AV)
 |pre (e:List AV)
 |RY (i:Nat) (p:AV)
 |idx (p:AV)
 |clip
variable {c:List Hint}
abbrev XR:=Option (List (Nat×AV)×List Hint×Option Prop)
abbrev Lg:Option Prop->Prop
 |none=>True
 |some p=>p
def mf (dst:Option Nat)(p:AV)(hs:List Hint)(ob:Option Prop):XR:=match dst with
 |some d=>some ([(d,p)],hs,ob)
 |none=>some ([],hs,ob)
def BS (dst:Option Nat)(p:AV)(hs:List Hint)(ob:Option Prop):XR:=match dst with
 |some d=>some ([(d,p)],hs,ob)
 |none=>none
def IS (dst:Option Nat)(p:AV)(hs:List Hint)(ob:Option Prop):XR:=bif p.bT then none else mf dst p hs ob
def arith (op:BinOp)(a b:Int):Option (Int×Prop):=match op with
 | .add=>some (a+b,-9223372036854775808<=a+b/\a+b<=9223372036854775807)
 | .sub=>some (a-b,-9223372036854775808<=a-b/\a-b<=9223372036854775807)
 | .mul=>some (a*b,-9223372036854775808<=a*b/\a*b<=9223372036854775807)
 | .quo=>some (a/b,0<=a/\a<=9223372036854775807/\0<b)
 | .rem=>some (a%b,0<=a/\0<b)
 | .and=>some (((a.toNat &&& b.toNat:Nat):Int),(0<=a/\a<9223372036854775808)/\(0<=b/\b<9223372036854775808))
 | .or=>some (((a.toNat ||| b.toNat:Nat):Int),(0<=a/\a<9223372036854775808)/\(0<=b/\b<9223372036854775808))
 | .andNot=>some ((((gR 64 a.toNat &&& ~~~ gR 64 b.toNat).toNat:Nat):Int),(0<=a/\a<9223372036854775808)/\0<=b)
 | .shl=>some (a*2^b.toNat,0<=a/\0<=b/\b<64/\a*2^b.toNat<9223372036854775808)
 | .shr=>some (a/2^b.toNat,0<=a/\0<=b/\b<64)
 |_=>none
def ou (op:kK)(dst:Option Nat)(env:Env)(hs:List Hint):XR:=match lj op env with
 |some p=>IS dst p hs none
 |none=>none
def aeD (op:BinOp)(T:TypeId)(x y:Operand)(dst:Option Nat)(env:Env)(hs:List Hint):XR:=match bG env x,bG env y with
 | .v (.int .i64 a),.v (.int .i64 b)=>match arith op a b with
  |some (n,ob)=>mf dst (.v (.int .i64 n)) hs (some ob)
  |none=>ou (.bin op T x y) dst env hs
 | .v (.string s),.v (.string t)=>match op with
  | .add=>mf dst (.v (.string (s++t))) hs (some (s.size+t.size<=9223372036854775807))
  |_=>ou (.bin op T x y) dst env hs
 |_,_=>ou (.bin op T x y) dst env hs
def aaR (gs:Nat->Option Bool)(c x y:Operand)(dst:Option Nat)(env:Env)(hs:List Hint):XR:=match c with
 | .tmp t=>match gs t,env t with
  |some b,.v (.bool e)=>IS dst (bG env (match b with|true=>x|false=>y)) hs (some (e=b))
  |_,_=>none
 |_=>none
def Vt (kd:IntKind)(x:Operand)(dst:Option Nat)(env:Env)(hs:List Hint):XR:=match bG env x with
 | .v (.int _ n)=>mf dst (.v (.int kd n)) hs (some (kd.wrap n=n))
 |_=>none
def Ui (x i:Operand)(kk:Nat)(dst:Option Nat)(env:Env)(hs:List Hint):XR:=match bG env x,bG env i with
 | .sl k es,.v (.int _ n)=>match hs with
  | .cells e::hs=>bif bm k kk then mf dst (.pi e) hs (some (0<=n/\es[n.toNat]? =some e))else none
  |_=>none
 | .so b len _,.v (.int _ n)=>mf dst (.po b (n.toNat*kk)) hs (some (0<=n/\n.toNat<len))
 |_,_=>none
def PF (x i:Operand)(len kk:Nat)(dst:Option Nat)(env:Env)(hs:List Hint):XR:=match bG env x,bG env i with
 | .pi cs,.v (.int _ n)=>match hs with
  | .pre e::hs'=>mf dst (.pi e) hs' (some ((0<=n/\n.toNat<len)/\e<+:cs.drop (n.toNat*kk)))
  |_=>mf dst (.pi (cs.drop (n.toNat*kk))) hs (some (0<=n/\n.toNat<len))
 | .po b off,.v (.int _ n)=>mf dst (.po b (off+n.toNat*kk)) hs (some (0<=n/\n.toNat<len))
 |_,_=>none
def PG (T:TypeId)(x i:Operand)(len kk:Nat)(g:Option Nat)(dst:Option Nat)(env:Env)(hs:List Hint):XR:=match hs with
 | .idx p::hs'=>(match bG env x,bG env i with
  | .agg l,.v (.int _ n)=>IS dst p hs' (some ((0<=n/\n.toNat<len)/\lm g (n.toNat*kk) l=some p))
  |_,_=>none)
 |_=>ou (.kH T x i len kk g) dst env hs
def Ov (x i:Operand)(dst:Option Nat)(env:Env)(hs:List Hint):XR:=match bG env x,bG env i with
 | .v (.string s),.v (.int _ n)=>match hs with
  | .byte c::hs=>mf dst (.v (.int .u8 c.toNat)) hs (some (0<=n/\s.data.toList[n.toNat]? =some c))
  |_=>none
 |_,_=>none
def nz (t:Nat):Operand->Bool
 | .tmp u=> !(bm u t)
 |_=>true
def aaD (c:TypeId)(x:Operand)(n:Option Nat)(dst:Option Nat)(H:av)(env:Env)(hs:List Hint):XR:=match bG env x with
 | .pi cs=>match gw n cs with
  |some p=>IS dst p hs none
  |none=>none
 | .po b off=>match hs with
  | .at i::hs=>match H[i]? with
   |some (a,.cells _ cs)=>match gw n (cs.drop off)with
    |some p=>mf dst p hs (some (a=b))
    |none=>none
   |_=>none
  | .elt i m f e::hs=>match H[i]? with
   |some (a,.arr _ kk _ es)=>match gw n (e.drop f)with
    |some p=>mf dst p hs (some (a=b/\off=m*kk+f/\es[m]? =some e))
    |none=>none
   |_=>none
  | .RY i p::hs=>match H[i]? with
   |some (a,.cells _ cs)=>mf dst p hs (some (a=b/\gw n (cs.drop off)=some p))
   |_=>none
  |_=>none
 | .eR _ cs=>match gw n cs,dst with
  |some p,some d=>bif nz d x then some ([(d,p)],hs,none)else none
  |_,_=>none
 |_=>none
def Vi (x y:Operand)(n:Nat)(dst:Option Nat)(env:Env)(hs:List Hint):XR:=match x,dst with
 | .tmp t,none=>match env t with
  | .eR T cs=>bif nz t y then some ([(t,.eR T (bU cs 0 (ct (bG env y))))],hs,some <|
   (bG env y).cS=true/\(ct (bG env y)).length=n/\(ct (bG env y)).all AV.dG=true/\n<=cs.length)else none
  |_=>none
 |_,_=>none
def adM (T:TypeId)(x:Operand)(dst:Option Nat)(env:Env)(hs:List Hint):XR:=match hs with
 | .bY::hs=>BS dst (.pi (ct (bG env x))) hs (some ((bG env x).cS=true/\(ct (bG env x)).all AV.dG=true))
 | .aT::hs=>BS dst (.eR T (ct (bG env x))) hs (some ((bG env x).cS=true/\(ct (bG env x)).all AV.dG=true))
 |_=>none
def T9 (T:TypeId)(z:List Value)(dst:Option Nat)(hs:List Hint):XR:=match hs with
 | .bY::hs=>BS dst (.pi (z.map .v)) hs (some (z.all de=true))
 | .aT::hs=>BS dst (.eR T (z.map .v)) hs (some (z.all de=true))
 |_=>none
def On (n:Nat)(ps:List (Nat×Operand))(E:TypeId)(kk:Nat)(z:List Value)(dst:Option Nat)(env:Env)(hs:List Hint):XR:=
 match iK (sA n (z.map .v)) (ps.map λp=>(p.1*kk,kk,bG env p.2))with
 |some q=>match hs with
  | .bY::hs=>BS dst (.sl kk (chunk kk n q)) hs (some (q.all AV.dG=true))
  | .aT::hs=>BS dst (.aT E kk (chunk kk n q)) hs (some (q.all AV.dG=true))
  |_=>none
 |none=>none
def Xz (kk:Nat):AV->Option (List (List AV))
 | .sl k ys=>bif bm k kk then some ys else none
 | .nil=>some []
 |_=>none
def KO (x y:Operand)(E kk bytes:Nat)(dst:Option Nat)(env:Env)(hs:List Hint):XR:=match x,dst with
 | .tmp t,some d=>bif nz t y then(match Xz kk (bG env y),env t with
  |some ys,.aT a b es=>bif bm a E&&bm b kk then
   some ([(t,.any),(d,.aT E kk (es++ys))],hs,some ((es.length+ys.length)*bytes<=140737488355328/\es.length+ys.length<=9223372036854775807))else none
  |some ys,.nil=>some ([(t,.any),(d,.aT E kk ys)],hs,some (ys.length*bytes<=140737488355328/\ys.length<=9223372036854775807))
  |_,_=>none)else none
 |_,_=>none
def yR (x y:Operand)(E kk bytes:Nat)(dst:Option Nat)(env:Env)(hs:List Hint):XR:=match hs with
 | .own u::hs'=>match x,dst with
  | .tmp t,some d=>match env t,env u with
   | .v (.slice e n cap),.gT c f es b a=>bif bm c E&&(bm f kk&&(nz u y&&(nz t y&& !(bm t u))))then(match Xz kk (bG env y)with
    |some ys=>some ([(u,.any),(t,.any),(d,.aT E kk (es++ys))],hs',some ((b=e/\a=cap/\n=es.length)/\(es.length+ys.length)*bytes<=140737488355328/\es.length+ys.length<=9223372036854775807))
    |none=>none)else none
   |_,_=>none
  |_,_=>none
 |_=>KO x y E kk bytes dst env hs
def PQ (l c:Operand)(E kk bytes:Nat)(z:List Value)(dst:Option Nat)(env:Env)(hs:List Hint):XR:=match bG env l,bG env c with
 | .v (.int _ a),.v (.int _ b)=>BS dst (.aT E kk (gM a.toNat (z.map AV.v))) hs (some (0<=a/\b=a/\bytes*a.toNat<=281474976710656/\a.toNat<=9223372036854775807/\z.all de=true))
 |_,_=>none
def ae0 (x:Operand)(dst:Option Nat)(env:Env)(hs:List Hint):XR:=match x,dst with
 | .tmp t,some d=>match env t with
  | .aT T k es=>bif bm t d then none else some ([(t,.any),(d,.aT T k es)],hs,none)
  | .gT _ _ es a cap=>some ([(d,.v (.slice a es.length cap))],hs,none)
  |_=>ou (.tJ x) dst env hs
 |_,_=>ou (.tJ x) dst env hs
def pU (ps:List AV):Bool:=ps.all λp=> !p.bT
def aa1 (P:Program)(H:av)(f:FuncId)(xs:List Operand)(dst:Option Nat)(env:Env)(hs:List Hint):XR:=match hs with
 | .ret res::hs=>bif pU (xs.map (bG env))then mf dst res hs (some (Ev P f (xs.map (bG env)) res))else none
 | .yt qs res::hs=>bif pU (xs.map (bG env))then mf dst res hs (some (Ev P f qs res/\mg (xs.map (bG env)) qs))else none
 | .H9 qs res::hs=>bif pU (xs.map (bG env))then mf dst res hs (some (Ev P f qs res/\res.tv=true/\fp (jC env H) (xs.map (bG env)) qs))else none
 | .clip::hs=>(match xs,dst with
  |[.tmp t],some d=>(match env t with
   | .aT T k es=>some ([(t,.any),(d,.aT T k es)],hs,some (tg P f))
   |_=>none)
  |_,_=>none)
 |_=>none
def WN (P:Program)(H:av)(x:Operand)(xs:List Operand)(dst:Option Nat)(env:Env)(hs:List Hint):XR:=match bG env x with
 | .fn (.func f) first a=>bif pU (xs.map (bG env))then(match hs with
  | .ret res::hs=>mf dst res hs (some (Ev P f (first++xs.map (bG env)++a) res))
  | .yt qs res::hs=>mf dst res hs (some (Ev P f qs res/\mg (first++xs.map (bG env)++a) qs))
  | .H9 qs res::hs=>mf dst res hs (some (Ev P f qs res/\res.tv=true/\fp (jC env H) (first++xs.map (bG env)++a) qs))
  |_=>none)else none
 |_=>none
def Z8 (c:Bool)(xs:List Operand)(dst:Option Nat)(env:Env)(hs:List Hint):XR:=match xs with
 |[x,y]=>match bG env x,bG env y with
  | .v (.int .i64 a),.v (.int .i64 b)=>mf dst (.v (.int .i64 (match c with|true=>min a b|false=>max a b))) hs none
  |_,_=>none
 |_=>none
def G4 (env:Env):Option Operand->Option (Option Nat×Prop)
 |none=>some (none,True)
 |some x=>match bG env x with
  | .v (.int _ n)=>some (some n.toNat,0<=n)
  |_=>none
def NV (x:Operand)(lo hi:Option Operand)(dst:Option Nat)(env:Env)(hs:List Hint):XR:=match bG env x,G4 env lo,G4 env hi with
 | .v (.string s),some (l,a),some (h,b)=>mf dst (.v (.string (s.extract (l.getD 0) (h.getD s.size)))) hs (some ((a/\b)/\l.getD 0<=h.getD s.size/\h.getD s.size<=s.size))
 |_,_,_=>none
def PI (x:Operand)(lo hi:Option Operand)(kk:Nat)(dst:Option Nat)(env:Env)(hs:List Hint):XR:=match bG env x,G4 env lo,G4 env hi with
 | .sl k es,some (l,a),some (h,b)=>bif bm k kk then mf dst (.sl kk (kI es l h)) hs (some ((a/\b)/\l.getD 0<=h.getD es.length/\h.getD es.length<=es.length))else none
 |_,_,_=>none
def Pu (x:Operand)(lo hi:Option Operand)(n kk:Nat)(dst:Option Nat)(env:Env)(hs:List Hint):XR:=match bG env x,G4 env lo,G4 env hi with
 | .pi cs,some (l,a),some (h,c)=>mf dst (.sl kk (kI (chunk kk n cs) l h)) hs (some ((a/\c)/\(n*kk<=cs.length/\n<=maxLen)/\l.getD 0<=h.getD n/\h.getD n<=n))
 | .po b off,some (none,_),some (none,_)=>match lo,hi with
  |none,none=>mf dst (.v (.slice (some ⟨b,off,none⟩) n n)) hs none
  |_,_=>none
 |_,_,_=>none
def aeb (neg:Bool)(T:TypeId)(x y:Operand)(P:Program)(dst:Option Nat)(env:Env)(hs:List Hint):XR:=match bG env x,bG env y with
 | .v (.bool a),.v (.bool b)=>mf dst (.v (.bool (match neg with|true=>a !=b|false=>a==b))) hs (some (P.underlying T=some .bool))
 |_,_=>ou (.pK neg T x y) dst env hs
def xX (P:Program)(gs:Nat->Option Bool)(H:av)(hs:List Hint)(dst:Option Nat)(op:kK)(env:Env):XR:=match op with
 | .pick c x y=>aaR gs c x y dst env hs
 | .bin op T x y=>aeD op T x y dst env hs
 | .pK neg T x y=>aeb neg T x y P dst env hs
 | .toInt kd _ _ x=>Vt kd x dst env hs
 | .qx _ x i kk=>Ui x i kk dst env hs
 | .mK _ x i len kk=>PF x i len kk dst env hs
 | .rb _ x i=>Ov x i dst env hs
 | .kH T x i len kk g=>PG T x i len kk g dst env hs
 | .load T x n=>aaD T x n dst H env hs
 | .store _ x y n=>Vi x y n dst env hs
 | .box T x=>adM T x dst env hs
 | .alloc T z=>T9 T z dst hs
 | .jM _ n ps E kk z=>On n ps E kk z dst env hs
 | .append _ _ x y E kk bytes _=>yR x y E kk bytes dst env hs
 | .ji _ l c E kk bytes z=>PQ l c E kk bytes z dst env hs
 | .tJ x=>ae0 x dst env hs
 | .call f xs _=>aa1 P H f xs dst env hs
 | .kV x xs _=>WN P H x xs dst env hs
 | .min _ _ xs=>Z8 true xs dst env hs
 | .max _ _ xs=>Z8 false xs dst env hs
 | .pG _ x lo hi none=>NV x lo hi dst env hs
 | .oB _ x lo hi none kk=>PI x lo hi kk dst env hs
 | .oo _ x lo hi none n kk=>Pu x lo hi n kk dst env hs
 |op=>ou op dst env hs
section
variable {P:Program}{r:Option Nat}{hs hs':List Hint}{ob:Option Prop}
abbrev KW (env:Env)(H:av)(D:List Nat)(W:List (Nat×AV)):Env->av->List Nat->Prop:=λe h d=>e=fV env W/\h=H/\d=D
theorem ep {l:kK}{b:List Hint}{a:Option Prop}(h:mf dst p b a=some (W,hs',ob))(k:Lg a-> ∀K:Env->av->List Nat->Prop,K (cP env dst p) H D->aO P r N l dst env H D K)(o:Lg ob):
  aO P r N l dst env H D (KW env H D W):=by
 cases dst with
 |none=>simp only[mf,an,az]at h;obtain⟨rfl,rfl,rfl⟩:=h;exact k o _ dO
 |some d=>simp only[mf,an,az]at h;obtain⟨rfl,rfl,rfl⟩:=h;exact k o _ dO
theorem dz {a:List Hint}{b:Option Prop}(h:mf dst p a b=some (W,hs',ob)):iH dst (bX W)=true:=by
 cases dst with
 |none=>rfl
 |some d=>simp only[mf,an,az]at h;obtain⟨rfl,rfl,rfl⟩:=h;simp [iH,bX]
theorem tf {l:kK}{b:List Hint}{a:Option Prop}(h:BS dst p b a=some (W,hs',ob))(k:Lg a-> ∀d,∀K:Env->av->List Nat->Prop,K (eC env d p) H D->aO P r N l (some d) env H D K)(o:Lg ob):
  aO P r N l dst env H D (KW env H D W):=by
 cases dst with
 |none=>simp only[BS,reduceCtorEq]at h
 |some d=>simp only[BS,an,az]at h;obtain⟨rfl,rfl,rfl⟩:=h;exact k o _ _ dO
theorem pS {a:List Hint}{b:Option Prop}(h:BS dst p a b=some (W,hs',ob)):iH dst (bX W)=true:=by
 cases dst with
 |none=>rfl
 |some d=>simp only[BS,an,az]at h;obtain⟨rfl,rfl,rfl⟩:=h;simp [iH,bX]
theorem B8 {l:kK}{b:List Hint}{a:Option Prop}(h:IS dst p b a=some (W,hs',ob))(k:p.bT=false->Lg a-> ∀K:Env->av->List Nat->Prop,K (cP env dst p) H D->aO P r N l dst env H D K)(o:Lg ob):
  aO P r N l dst env H D (KW env H D W):=by grind [IS,ep]
theorem za {a:List Hint}{b:Option Prop}(h:IS dst p a b=some (W,hs',ob)):iH dst (bX W)=true:=by grind [IS,dz]
theorem iV {l:kK}(h:ou l dst env hs=some (W,hs',ob))(o:Lg ob):aO P r N l dst env H D (KW env H D W):=by unfold ou at h;split at h;rename_i p a;exact B8 h (λhl _ K k=>aO.plain a hl k) o;cases h
theorem gS {l:kK}(h:ou l dst env hs=some (W,hs',ob)):iH dst (bX W)=true:=by unfold ou at h;split at h;exact za h;cases h
theorem jE {n:Int}(h:0<=n): ∃m:Nat,n=m:=⟨n.toNat,af⟩
theorem Vp {op:BinOp}{a b n:Int}{g:Prop}(hx:bG env x= .v (.int .i64 a))(hy:bG env y= .v (.int .i64 b))(h:arith op a b=some (n,g))(o:g)
  (K:Env->av->List Nat->Prop) (k:K (cP env dst (.v (.int .i64 n))) H D):aO P r N (.bin op T x y) dst env H D K:=by
 cases op<;>simp only[arith,an,az,reduceCtorEq]at h<;>obtain⟨rfl,rfl⟩:=h;case add=>exact aO.add hx hy o.1 o.2 k
 case sub=>exact aO.sub hx hy o.1 o.2 k
 case mul=>exact aO.mul hx hy o.1 o.2 k
 case quo=>obtain⟨c,f,d⟩:=o;obtain⟨a,rfl⟩:=jE c;obtain⟨b,rfl⟩:=jE (hj d);exact aO.quo hx hy f af k
 case rem=>obtain⟨c,d⟩:=o;obtain⟨a,rfl⟩:=jE c;obtain⟨b,rfl⟩:=jE (hj d);exact aO.rem hx hy af k
 case and=>obtain⟨⟨c,f⟩,d,i⟩:=o;obtain⟨a,rfl⟩:=jE c;obtain⟨b,rfl⟩:=jE d;exact aO.and hx hy af af k
 case or=>obtain⟨⟨c,f⟩,d,i⟩:=o;obtain⟨a,rfl⟩:=jE c;obtain⟨b,rfl⟩:=jE d;exact aO.or hx hy af af k
 case andNot=>obtain⟨⟨c,f⟩,d⟩:=o;obtain⟨a,rfl⟩:=jE c;obtain⟨b,rfl⟩:=jE d;exact aO.andNot hx hy af k
 case shl=>obtain⟨c,f,d,i⟩:=o;obtain⟨a,rfl⟩:=jE c;obtain⟨b,rfl⟩:=jE f;have e:(a:Int)*2^(b:Int).toNat=((a*2^b:Nat):Int):=aF;rw[e]at i k;exact aO.shl hx hy af af k
 case shr=>obtain⟨c,f,d⟩:=o;obtain⟨a,rfl⟩:=jE c;obtain⟨b,rfl⟩:=jE f;have e:(a:Int)/2^(b:Int).toNat=((a/2^b:Nat):Int):=aF;rw[e]at k;exact aO.shr hx hy af k
theorem vA {x:Option Operand}{o:Prop}(h:G4 env x=some (m,o))(a:o):ER env x m:=by
 cases x with
 |none=>simp only[G4,an,az]at h;exact h.1.symm
 |some x=>simp only[G4]at h;split at h;rename_i kd n hx;simp only[an,az]at h;obtain⟨rfl,rfl⟩:=h;exact⟨kd,n,n.toNat,hx,af,zz⟩;cases h
theorem vm (h:nz t y=true)(p:AV):bG (eC env t p) y=bG env y:=by
 cases y with
 |tmp u=>simp only[nz,ey]at h;exact ij _ _ (λe=>by subst e;rw[e8]at h;cases h)
 |_=>rfl
theorem G3 (hy:Xz kk p=some ys):Ru kk p ys:=by
 unfold Xz at hy;split at hy;rename_i k zs;cases hk:bm k kk with
 |false=>grind
 |true=>rw[hk]at hy;have:=bk hk;subst this;simp at hy;subst hy;exact .inl zz
 simp at hy;subst hy;exact .inr gJ;cases hy
theorem gN (h:ps=qs):mg ps qs:=h▸mg.refl ps
theorem abU {gs:Nat->Option Bool}(h:xX P gs H hs dst z env=some (W,hs',ob))(o:Lg ob):aO P r N z dst env H D (KW env H D W)/\iH dst (bX W)=true:=by
 cases z;case pick c x y=>
  simp only[xX,aaR]at h;split at h;split at h;rename_i b e F C;refine⟨B8 h (λhl he K k=>?_) o,za h⟩;cases b with
  |true=>exact aO.Ww C he zz hl k
  |false=>exact aO.ae2 C he zz hl k
  cases h;cases h
 case bin z T x y=>simp only[xX,aeD]at h;split at h;rename_i a b hx hy;split at h;rename_i n a1 ha;exact⟨ep h (λj K k=>Vp hx hy ha j K k) o,dz h⟩;exact⟨iV h o,gS h⟩;rename_i s t hx hy;split at h;exact⟨ep h (λj K k=>aO.concat hx hy j k) o,dz h⟩;exact⟨iV h o,gS h⟩;exact⟨iV h o,gS h⟩
 case pK neg T x y=>simp only[xX,aeb]at h;split at h;rename_i a b hx hy;exact⟨ep h (λj K k=>aO.eqB hx hy j k) o,dz h⟩;exact⟨iV h o,gS h⟩
 case toInt kd s d x=>simp only[xX,Vt]at h;split at h;rename_i kx n hx;exact⟨ep h (λj K k=>aO.toInt hx j k) o,dz h⟩;cases h
 case qx T x i kk=>
  simp only[xX,Ui]at h;split at h;rename_i k es kd n hx hi;split at h;rename_i e A;cases hk:bm k kk with
  |false=>rw[hk]at h;cases h
  |true=>rw[hk]at h;have:=bk hk;subst this;exact⟨ep h (λj K k=>aO.qx n.toNat hx hi af j.2 k) o,dz h⟩
  cases h;rename_i b len cap kd n hx hi;exact⟨ep h (λj K k=>aO.acG n.toNat hx hi af j.2 k) o,dz h⟩;cases h
 case mK T x i len kk=>simp only[xX,PF]at h;split at h;rename_i cs kd n hx hi;split at h;exact⟨ep h (λj K k=>aO.acE n.toNat hx hi af j.1.2 j.2 k) o,dz h⟩;exact⟨ep h (λj K k=>aO.mK n.toNat hx hi af j.2 k) o,dz h⟩;rename_i b off kd n hx hi;exact⟨ep h (λj K k=>aO.ZO n.toNat hx hi af j.2 k) o,dz h⟩;cases h
 case rb T x i=>simp only[xX,Ov]at h;split at h;rename_i s kd n hx hi;split at h;exact⟨ep h (λj K k=>aO.rb n.toNat hx hi af j.2 k) o,dz h⟩;cases h;cases h
 case kH T x i len kk g=>simp only[xX,PG]at h;split at h;split at h;rename_i l kd n hx hi;exact⟨B8 h (λhl j K k=>aO.kH n.toNat hx hi af j.1.2 j.2 hl k) o,za h⟩;cases h;exact⟨iV h o,gS h⟩
 case load T x n=>
  simp only[xX,aaD]at h;split at h;rename_i cs hx;split at h;rename_i p G;exact⟨B8 h (λhl _ K k=>aO.plain (by simp only[lj,hx];exact G) hl k) o,za h⟩;cases h;rename_i b off hx;split at h;rename_i i A;split at h;rename_i X O cs I;split at h;rename_i p G;exact⟨ep h (λj K k=>aO.Xk hx (j▸I) G k) o,dz h⟩;cases h;cases h;rename_i i m f e A;split at h;rename_i X O kk cap es I;split at h;rename_i p G;exact⟨ep h (λj K k=>aO.afj m f hx (j.1▸I) j.2.1 j.2.2 G k) o,dz h⟩;cases h;cases h;rename_i i p A;split at h;rename_i X O cs I;exact⟨ep h (λj K k=>aO.Xk hx (j.1▸I) j.2 k) o,dz h⟩;cases h;cases h;rename_i O cs hx;split at h;rename_i p d G;cases w:nz d x with
  |false=>rw[w]at h;cases h
  |true=>
   rw[w]at h;simp only[cond_true,an,az]at h;obtain⟨rfl,rfl,rfl⟩:=h;refine⟨?_,by simp [iH,bX]⟩;cases x with
   |tmp t=>refine aO.aeG hx G ?_ dO;intro e;subst e;simp [nz]at w
   |const v=>exfalso;have:=acb v;simp only[bG]at hx;rw[hx]at this;cases this
   |global g=>cases hx
   |func f=>cases hx
  cases h;cases h
 case store T x y n=>
  simp only[xX,Vi]at h;split at h;rename_i t;split at h;rename_i O cs B;cases w:nz t y with
  |false=>rw[w]at h;cases h
  |true=>rw[w]at h;simp only[cond_true,an,az]at h;obtain⟨rfl,rfl,rfl⟩:=h;exact⟨aO.ab5 B (λp=>vm w p) o.1 o.2.1 o.2.2.1 o.2.2.2 dO,zz⟩
  cases h;cases h
 case box T x=>simp only[xX,adM]at h;split at h;exact⟨tf h (λj d K k=>aO.agu zz j.1 j.2 k) o,pS h⟩;exact⟨tf h (λj d K k=>aO.afX zz j.1 j.2 k) o,pS h⟩;cases h
 case alloc T op=>simp only[xX,T9]at h;split at h;exact⟨tf h (λj d K k=>aO.acV j k) o,pS h⟩;exact⟨tf h (λj d K k=>aO.acD j k) o,pS h⟩;cases h
 case jM T n ps E kk op=>simp only[xX,On]at h;split at h;rename_i q hq;split at h;exact⟨tf h (λj d K k=>aO.GY hq j k) o,pS h⟩;exact⟨tf h (λj d K k=>aO.jM hq j k) o,pS h⟩;cases h;cases h
 case append T Q x y E kk bytes op=>
  simp only[xX,yR]at h;split at h;rename_i u A;split at h;rename_i t d;split at h;rename_i ad n cap R V es a0 Y B hu;cases hk:(bm R E&&(bm V kk&&(nz u y&&(nz t y&& !(bm t u)))))with
  |false=>rw[hk]at h;cases h
  |true=>rw[hk]at h;simp only[cr,ey]at hk;obtain⟨k1,k2,k3,k4,k5⟩:=hk;have S:=bk k1;have U:=bk k2;subst S U;simp only[cond_true]at h;split at h;rename_i ys hy;simp only[an,az]at h;obtain⟨rfl,rfl,rfl⟩:=h;obtain⟨⟨rfl,rfl,L⟩,M,o3⟩:=o;refine⟨aO.XQ (u:=u) (λe=>by subst e;simp at k5) hu B L ?_ M o3 dO,by simp [iH,bX]⟩;rw[vm k4,vm k3];exact G3 hy;cases h
  cases h;cases h;simp only[KO]at h;split at h;rename_i t d;cases w:nz t y with
  |false=>grind
  |true=>
   rw[w]at h;simp only[cond_true]at h;split at h;rename_i ys R V es hy B;cases hk:(bm R E&&bm V kk)with
   |false=>rw[hk]at h;cases h
   |true=>rw[hk]at h;simp only[cr]at hk;have S:=bk hk.1;have U:=bk hk.2;subst S U;simp only[cond_true,an,az]at h;obtain⟨rfl,rfl,rfl⟩:=h;refine⟨?_,by simp [iH,bX]⟩;exact aO.append B (G3 hy) o.1 o.2 dO
   rename_i ys hy B;simp only[an,az]at h;obtain⟨rfl,rfl,rfl⟩:=h;exact⟨aO.Qp B (λp=>by rw[vm w];exact G3 hy) o.1 o.2 dO,by simp [iH,bX]⟩;cases h
  cases h
 case ji T l c E kk bytes op=>simp only[xX,PQ]at h;split at h;rename_i kl nl kc nc hl hc;exact⟨tf h (λj d K k=>aO.X9 nl.toNat hl hc af af j.2.2.1 j.2.2.2.1 j.2.2.2.2 k) o,pS h⟩;cases h
 case tJ x=>
  simp only[xX,ae0]at h;split at h;rename_i t d;split at h;rename_i T k es B;cases hb:bm t d with
  |true=>rw[hb]at h;cases h
  |false=>rw[hb]at h;simp only[cond_false,an,az]at h;obtain⟨rfl,rfl,rfl⟩:=h;exact⟨aO.af7 B dO,by simp [iH,bX]⟩
  rename_i T k es ad cap B;simp only[an,az]at h;obtain⟨rfl,rfl,rfl⟩:=h;exact⟨aO.afZ B dO,by simp [iH,bX]⟩;exact⟨iV h o,gS h⟩;exact⟨iV h o,gS h⟩
 case call f xs Q=>
  simp only[xX,aa1]at h;split at h;rename_i res A;cases w:pU (xs.map (bG env))with
  |false=>grind
  |true=>rw[w]at h;exact⟨ep h (λj K k=>aO.call j zz w (mg.refl _) k) o,dz h⟩
  rename_i qs res A;cases w:pU (xs.map (bG env))with
  |false=>grind
  |true=>rw[w]at h;exact⟨ep h (λj K k=>aO.call j.1 zz w j.2 k) o,dz h⟩
  rename_i qs res A;cases w:pU (xs.map (bG env))with
  |false=>grind
  |true=>rw[w]at h;exact⟨ep h (λj K k=>aO.IQ j.1 zz w j.2.2 j.2.1 k) o,dz h⟩
  split at h;split at h;rename_i t d _ T k es B;simp only[an,az]at h;obtain⟨rfl,rfl,rfl⟩:=h;exact⟨aO.VJ o B dO,by simp [iH,bX]⟩;cases h;cases h;cases h
 case kV x xs Q=>
  simp only[xX,WN]at h;split at h;rename_i f first Z hx
  cases w:pU (xs.map (bG env))with
  |false=>grind
  |true=>rw[w]at h;simp only[cond_true]at h;split at h;exact⟨ep h (λj K k=>aO.kV hx j zz w (mg.refl _) k) o,dz h⟩;exact⟨ep h (λj K k=>aO.kV hx j.1 zz w j.2 k) o,dz h⟩;exact⟨ep h (λj K k=>aO.acX hx j.1 zz w j.2.2 j.2.1 k) o,dz h⟩;cases h
  cases h
 case min ts Q xs=>simp only[xX,Z8]at h;split at h;split at h;rename_i a b hx hy;exact⟨ep h (λj K k=>aO.min2 hx hy k) o,dz h⟩;cases h;cases h
 case max ts Q xs=>simp only[xX,Z8]at h;split at h;split at h;rename_i a b hx hy;exact⟨ep h (λj K k=>aO.max2 hx hy k) o,dz h⟩;cases h;cases h
 case pG T x lo hi J=>
  cases J with
  |some m=>simp only[xX]at h;exact⟨iV h o,gS h⟩
  |none=>simp only[xX,NV]at h;split at h;rename_i s l L hh M hx F C;exact⟨ep h (λj K k=>aO.pG l hh hx (vA F j.1.1) (vA C j.1.2) j.2.1 j.2.2 k) o,dz h⟩;cases h
 case oB T x lo hi J kk=>
  cases J with
  |some m=>simp only[xX]at h;exact⟨iV h o,gS h⟩
  |none=>
   simp only[xX,PI]at h;split at h;rename_i k es l L hh M hx F C;cases hk:bm k kk with
   |false=>rw[hk]at h;cases h
   |true=>rw[hk]at h;have:=bk hk;subst this;exact⟨ep h (λj K k=>aO.oB l hh hx (vA F j.1.1) (vA C j.1.2) j.2.1 j.2.2 k) o,dz h⟩
   cases h
 case oo T x lo hi J n kk=>
  cases J with
  |some m=>simp only[xX]at h;exact⟨iV h o,gS h⟩
  |none=>simp only[xX,Pu]at h;split at h;rename_i cs l L hh M hx F C;exact⟨ep h (λj K k=>aO.oo l hh hx (vA F j.1.1) (vA C j.1.2) j.2.1.1 j.2.1.2 j.2.2.1 j.2.2.2 k) o,dz h⟩;rename_i b off L M hx F C;split at h;exact⟨ep h (λj K k=>aO.Yc hx k) o,dz h⟩;cases h;cases h
 all_goals (simp only[xX]at h;exact⟨iV h o,gS h⟩)
def QM (P:Program)(gs:Nat->Option Bool)(H:av)(hs:List Hint)(dst:Option Nat)(op:kK)(env:Env):XR:=match xX P gs H hs dst op env with
 |some x=>some x
 |none=>match hs,dst with
  | .op p::hs,some d=>some ([(d,p)],hs,some (∀(r:Option Nat) (N:Nat) (D:List Nat),Q1 P r N op (some d) env H D [(d,p)]))
  |_,_=>none
theorem B9 {gs:Nat->Option Bool}(h:QM P gs H hs dst z env=some (W,hs',ob))(o:Lg ob):aO P r N z dst env H D (KW env H D W)/\iH dst (bX W)=true:=by unfold QM at h;split at h;rename_i x hx;cases h;exact abU hx o;split at h;rename_i p a d;simp at h;obtain⟨rfl,rfl,rfl⟩:=h;exact⟨o r N D,by simp [iH,bX]⟩;cases h
end
variable {gs:List (Nat×Bool)}{X:Type}{ob:Prop}{hs':List Hint}
def tO:List (Nat×Bool)->Nat->Option Bool
 |[],_=>none
 |(t,b)::l,i=>bif bm i t then some b else tO l i
def Xh:Option Prop->Prop->Prop
 |none,q=>q
 |some p,q=>p/\q
def CL (P:Program)(gs:List (Nat×Bool))(H:av)(hs:List Hint)(l:aQ)(env:Env):XR:=match l.guard with
 |none=>QM P (tO gs) H hs l.dst l.op env
 |some (t,b)=>match tO gs t,env t with
  |some c,.v (.bool e)=>match c,b with
   |true,true|false,false=>(match QM P (tO gs) H hs l.dst l.op env with
    |some (W,hs',none)=>some (W,hs',some (e=c))
    |some (W,hs',some q)=>some (W,hs',some (e=c/\q))
    |none=>none)
   |_,_=>match l.dst with
    |some d=>some ([(d,.v undef)],hs,some (e=c))
    |none=>none
  |_,.v (.tuple _)=>match l.dst with
   |some d=>some ([(d,.v undef)],hs,none)
   |none=>none
  |_,_=>none
theorem BY {p:Prop}(h:Xh o p):Lg o/\p:=by
 cases o with
 |none=>exact⟨zq,h⟩
 |some q=>exact h
section
variable {P:Program}{r:Option Nat}{Q:dl}
theorem pO {hs:List Hint}{l:aQ}{ob:Option Prop}(h:CL P gs H hs l env=some (W,hs',ob))(o:Lg ob):lS P r N l env H D W/\iH l.dst (bX W)=true:=by
 unfold CL at h;unfold lS;split at h;rename_i hg;try rw[hg]
 exact B9 h o
 rename_i t b hg;try rw[hg]
 split at h;rename_i c e hc he;have f:c=b->(match QM P (tO gs) H hs l.dst l.op env with
   |some (W,hs',none)=>some (W,hs',some (e=c))
   |some (W,hs',some q)=>some (W,hs',some (e=c/\q))
   |none=>none)=some (W,hs',ob)->(∃c:Bool,env t= .v (.bool c)/\((c=b/\Q1 P r N l.op l.dst env H D W)\/(c≠b/\ ∃d,l.dst=some d/\W=[(d,.v undef)])))/\iH l.dst (bX W)=true:=by
  intro a h
  split at h
  ·rename_i k j hx
   simp at h
   obtain⟨rfl,rfl,rfl⟩:=h
   obtain⟨g,i⟩:=B9 hx zq
   exact⟨⟨e,he,.inl ⟨by rw[o,a],g⟩⟩,i⟩
  ·rename_i k j p hx
   simp at h
   obtain⟨rfl,rfl,rfl⟩:=h
   obtain⟨m,n⟩:=o
   obtain⟨g,i⟩:=B9 hx n
   exact⟨⟨e,he,.inl ⟨by rw[m,a],g⟩⟩,i⟩
  ·cases h
 have neg:c≠b->(match l.dst with
   |some d=>some ([(d,AV.v undef)],hs,some (e=c))
   |none=>none)=some (W,hs',ob)->(∃c:Bool,env t= .v (.bool c)/\((c=b/\Q1 P r N l.op l.dst env H D W)\/(c≠b/\ ∃d,l.dst=some d/\W=[(d,.v undef)])))/\iH l.dst (bX W)=true:=by
  intro a h
  split at h
  ·rename_i d hd
   simp at h
   obtain⟨rfl,rfl,rfl⟩:=h
   exact⟨⟨e,he,.inr ⟨by rw[o];exact a,d,hd,zz⟩⟩,by simp [iH,bX,hd]⟩
  ·cases h
 cases c<;>cases b;exact(f zz h).imp .inl id;exact(neg aF h).imp .inl id;exact(neg aF h).imp .inl id;exact(f zz h).imp .inl id
 rename_i cs he;split at h;rename_i d hd;simp at h;obtain⟨rfl,rfl,rfl⟩:=h;exact⟨.inr ⟨⟨cs,he⟩,d,hd,zz⟩,by simp [iH,bX,hd]⟩;cases h;cases h
def mD (P:Program)(gs:List (Nat×Bool))(H:av):List aQ->List Hint->Env->Env×List aQ×List Hint×Prop
 |[],hs,env=>(env,[],hs,True)
 |l::ls,hs,env=>match CL P gs H hs l env with
  |some (W,hs',ob)=>match mD P gs H ls hs' (fV env W),ob with
   |(e,a,h,o),none=>(e,a,h,o)
   |(e,a,h,o),some p=>(e,a,h,p/\o)
  |none=>(env,l::ls,hs,True)
theorem aY.aar {l:aQ}(h:lS P r N l env H D W)(k:aY P r N ls Q (fV env W) H D):aY P r N (l::ls) Q env H D:=by
 obtain⟨dst,g,op⟩:=l;unfold lS at h;cases g with
 |none=>exact aY.cons (aO.mono h bD)
 |some f=>obtain⟨t,b⟩:=f;rcases h with⟨c,hc,h⟩|⟨⟨cs,hc⟩,d,hd,rfl⟩;rcases h with⟨a,h⟩|⟨a,d,hd,rfl⟩;subst a;exact aY.Vg hc (aO.mono h (by rintro e h d ⟨rfl,rfl,rfl⟩;exact k));simp only at hd;subst hd;exact aY.no hc a k;simp only at hd;subst hd;exact aY.nop hc k
theorem aY.xq : ∀{ls:List aQ} {hs:List Hint} {env env':Env} {ls':List aQ} {hs':List Hint} {ob:Prop},mD P gs H ls hs env=(env',ls',hs',ob)->ob->aY P r N ls' Q env' H D->aY P r N ls Q env H D
 |[],hs,env,env',ls',hs',ob,h,o,k=>by simp only[mD,az]at h;obtain⟨rfl,rfl,rfl,rfl⟩:=h;exact k
 |l::ls,hs,env,env',ls',hs',ob,h,o,k=>by simp only[mD]at h;split at h;rename_i W c a hx;obtain⟨⟨e,b,g,i⟩,f⟩: ∃q,mD P gs H ls c (fV env W)=q:=⟨_,zz⟩;rw[f]at h;have h:(e,b,g,Xh a i)=(env',ls',hs',ob):=(by cases a<;>exact h);simp only[az]at h;obtain⟨rfl,rfl,rfl,rfl⟩:=h;obtain⟨j,d⟩:=BY o;exact aY.aar (pO hx j).1 (aY.xq f d k);simp only[az]at h;obtain⟨rfl,rfl,rfl,rfl⟩:=h;exact k
theorem aY.xd {hs:List Hint}(h:mD P gs H ls hs env=(env',[],hs',ob))(o:ob)(k:Q .normal env' H D):aY P r N ls Q env H D:=
 aY.xq h o (aY.nil k)
theorem aU.xq {hs:List Hint}(h:mD P gs H ls hs env=(env',[],hs',ob))(o:ob)(k:Q .normal env' H D):aU P r N (.ops ls) Q env H D:=
 aU.ops (aY.xd h o k)
theorem aU.sx {y:bZ}{hs:List Hint}(h:mD P gs H ls hs env=(env',[],hs',ob))(o:ob)(k:aU P r N y Q env' H D):aU P r N (.seq (.ops ls) y) Q env H D:=
 aU.seq (aU.xq h o k)
def dV:Operand->List Nat
 | .tmp t=>[t]
 |_=>[]
def Av:Option Operand->List Nat
 |some (.tmp t)=>[t]
 |_=>[]
def tP:List Operand->List Nat
 |[]=>[]
 | .tmp t::l=>t::tP l
 |_::l=>tP l
def M9:List (Nat×Operand)->List Nat
 |[]=>[]
 |(_,.tmp t)::l=>t::M9 l
 |_::l=>M9 l
def ND:List (Nat×Nat×Operand)->List Nat
 |[]=>[]
 |(_,_,.tmp t)::l=>t::ND l
 |_::l=>ND l
def ac0:kK->List Nat
 | .tJ x=>dV x
 | .pick c x y=>dV c++(dV x++dV y)
 | .bin _ _ x y=>dV x++dV y
 | .pK _ _ x y=>dV x++dV y
 | .un _ x=>dV x
 | .toInt _ _ _ x=>dV x
 | .conv _ _ x=>dV x
 | .extract x _=>dV x
 | .rG _ x _ _=>dV x
 | .qx _ x i _=>dV x++dV i
 | .mK _ x i _ _=>dV x++dV i
 | .load _ x _=>dV x
 | .store _ x y _=>dV x++dV y
 | .field _ x _ _ _=>dV x
 | .rb _ x i=>dV x++dV i
 | .kH _ x i _ _ _=>dV x++dV i
 | .build _ _ _ d=>ND d
 | .jM _ _ ps _ _ _=>M9 ps
 | .box _ x=>dV x
 | .yM _ a b=>tP a++tP b
 | .yv x=>dV x
 | .len _ _ _ x=>dV x
 | .NJ _ _ x=>dV x
 | .append _ _ x y _ _ _ _=>dV x++dV y
 | .nF _ _ _ x y _ _ _ _=>dV x++dV y
 | .oL _ _ _ x y _ _ _ _=>dV x++dV y
 | .Bh _ _ x=>dV x
 | .G9 _ _ _ x y=>dV x++dV y
 | .min _ _ xs=>tP xs
 | .max _ _ xs=>tP xs
 | .ji _ l c _ _ _ _=>dV l++dV c
 | .lookup _ x i _ _ _ _=>dV x++dV i
 | .pG _ x a b _=>dV x++(Av a++Av b)
 | .oB _ x a b _ _=>dV x++(Av a++Av b)
 | .oo _ x a b _ _ _=>dV x++(Av a++Av b)
 | .call _ xs _=>tP xs
 | .kV x xs _=>dV x++tP xs
 | .RC _ x=>dV x
 |_=>[]
def pY (l:aQ):List Nat:=(match l.guard with|some (t,_)=>[t]|none=>[])++((match l.dst with|some d=>[d]|none=>[])++ac0 l.op)
def PL (l:aQ)(hs:List Hint):List Nat×List Hint:=match hs with
 | .agF a::hs'=>(match l.op with
  | .call _ _ _=>(pY l++a,hs')
  | .kV _ _ _=>(pY l++a,hs')
  |_=>(pY l,hs))
 | .own u::_=>(match l.op with
  | .append _ _ _ _ _ _ _ _=>(pY l++[u],hs)
  |_=>(pY l,hs))
 |_=>(pY l,hs)
def BK (P:Program)(gs:List (Nat×Bool))(H:av):List (aQ×List Nat)->List Hint->Env->Env×List (List Nat×List Nat)×List (aQ×List Nat)×List Hint×Prop
 |[],hs,env=>(env,[],[],hs,True)
 |(l,d)::ls,hs,env=>match PL l hs with
  |(f,c)=>match CL P gs H c l (only f env)with
   |some (W,hs',ob)=>bif BR (bX W) f then(match BK P gs H ls hs' (fV env W),ob with
    |(e,a,b,h,o),none=>(e,(f,bX W)::a,b,h,o)
    |(e,a,b,h,o),some p=>(e,(f,bX W)::a,b,h,p/\o))else(env,[],(l,d)::ls,hs,True)
   |none=>(env,[],(l,d)::ls,hs,True)
theorem wg.run : ∀{ls:List (aQ×List Nat)} {hs:List Hint} {env g env':Env} {i m:List (List Nat×List Nat)} {a:List (aQ×List Nat)} {hs':List Hint} {ob:Prop} {sv:List aQ},
  BK P gs H ls hs env=(g,i,a,hs',ob)->ob->wg P r N H D g a m sv env'->wg P r N H D env ls (i++m) sv env'
 |[],hs,env,g,env',i,m,a,hs',ob,sv,h,o,k=>by
  simp only[BK,az]at h
  obtain⟨rfl,rfl,rfl,rfl,rfl⟩:=h
  exact k
 |(l,A)::ls,hs,env,g,env',i,m,a,hs',ob,sv,h,o,k=>by
  simp only[BK]at h
  obtain⟨⟨f,x⟩,w⟩: ∃q,PL l hs=q:=⟨_,zz⟩
  rw[w]at h
  simp only at h
  split at h
  ·rename_i W p j hx
   cases b:BR (bX W) f with
   |false=>
    rw[b]at h
    simp only[cond_false,az]at h
    obtain⟨rfl,rfl,rfl,rfl,rfl⟩:=h
    exact k
   |true=>
    rw[b]at h
    obtain⟨⟨e,c,d,v,y⟩,t⟩: ∃q,BK P gs H ls p (fV env W)=q:=⟨_,zz⟩
    rw[t]at h
    have h:(e,(f,bX W)::c,d,v,Xh j y)=(g,i,a,hs',ob):=by cases j<;>exact h
    simp only[az]at h
    obtain⟨rfl,rfl,rfl,rfl,rfl⟩:=h
    obtain⟨z,s⟩:=BY o
    obtain⟨u,n⟩:=pO (r:=r) (N:=N) (D:=D) hx z
    exact wg.cons f u b n (wg.run t s k)
  ·simp only[az]at h
   obtain⟨rfl,rfl,rfl,rfl,rfl⟩:=h
   exact k
theorem aU.dq {hs:List Hint}{a:List (List Nat×List Nat)}{b:List (aQ×List Nat)}(hm:P.follows .mixedOrders=true)
  (h:BK P gs H A hs env=(env',a,b,hs',ob)) (c:rk (A.map (·.2)) a=true) (o:ob) (k:aY P r N (b.map (·.1)) Q env' H D):aU P r N (.nj A) Q env H D:=
 aU.nj hm (wg.run h o wg.nil) bD k
theorem aU.sd {y:bZ}{hs:List Hint}{a:List (List Nat×List Nat)}(hm:P.follows .mixedOrders=true)
  (h:BK P gs H A hs env=(env',a,[],hs',ob)) (b:rk (A.map (·.2)) a=true) (o:ob) (k:aU P r N y Q env' H D):aU P r N (.seq (.nj A) y) Q env H D:=
 aU.seq (aU.dq hm h b o (aY.nil k))
theorem aU.Tf (h:X->Prop)(E:X->Env)(g:X->av)(f:X->List Nat)(m:X->Nat){x:bZ}(d:X)(k:h d)(p:bO env H D (E d) (g d) (f d))
  (v: ∀i,h i->aU P r N x (kX (λenv' H' j=> ∃b,h b/\m b<m i/\bO env' H' j (E b) (g b) (f b)) Q) (E i) (g i) (f i)):aU P r N (.loop x) Q env H D:=
 aU.loop (X:={i:X//h i}) (λi=>E i.1) (λi=>g i.1) (λi=>f i.1) (λi=>m i.1) ⟨d,k⟩ p
  (λi=>by
    intro c hc C a w S L u hs
    apply wpIn_mono (v i.1 i.2 c hc C a w S L u hs)
    rintro e y w' ⟨env',H',j,o,n,hs',l⟩
    refine⟨env',H',j,o,n,hs',?_⟩
    cases e with
    |normal=>obtain⟨b,q,s,t⟩:=l;exact⟨⟨b,q⟩,s,t⟩
    |_=>exact l)
end
section
variable {P:Program}{r:Option Nat}{Q:dl}
theorem aU.aal {x:bZ}(t:Nat)(g:env t= .sl k es)(h:es.length<=9223372036854775807->aU P r N x Q env H D):aU P r N x Q env H D:=by
 refine λc hc C a w S L f hs=>h ?_ c hc C a w S L f hs;have d:=hs.sA g zz;simp at d;rcases d with⟨_,rfl⟩|⟨b,off,cap,_,i,e,_⟩
 simp;unfold maxLen at e;omega
theorem aU.iN {Y:Type}{x y:bZ}(i:Y->Prop)(E:Y->Env)(g:Y->av)(f:Y->List Nat)(h:aU P r N x (rC t (kX (λe h d=> ∃j,i j/\bO e h d (E j) (g j) (f j)) Q)) env H D)
  (k: ∀j,i j->aU P r N y Q (E j) (g j) (f j)):aU P r N (.block t x) (kX (λe h d=>aU P r N y Q e h d) Q) env H D:=
 aU.block (aU.mono h (by
  intro e env' H' m a
  cases e with
  |normal=>obtain⟨j,b,c⟩:=a;exact aU.oj c (k j b)
  |exit l=>
   simp only[rC]at a ⊢
   split
   ·rename_i e;rw[zy e]at a;obtain⟨j,b,c⟩:=a;exact aU.oj c (k j b)
   ·rename_i e;rw[zj e]at a;exact a
  |_=>exact a))
theorem aU.sH {Y:Type}{x y:bZ}(i:Y->Prop)(E:Y->Env)(g:Y->av)(f:Y->List Nat)(h:aU P r N x (rC t (kX (λe h d=> ∃j,i j/\bO e h d (E j) (g j) (f j)) Q)) env H D)
  (k: ∀j,i j->aU P r N y Q (E j) (g j) (f j)):aU P r N (.seq (.block t x) y) Q env H D:=
 aU.pD (aU.mono h (by
  intro e env' H' m a
  cases e with
  |normal=>obtain⟨j,b,c⟩:=a;exact aU.oj c (k j b)
  |exit l=>
   simp only[rC]at a ⊢
   split
   ·rename_i e;rw[zy e]at a;obtain⟨j,b,c⟩:=a;exact aU.oj c (k j b)
   ·rename_i e;rw[zj e]at a;exact a
  |_=>exact a))
theorem aU.G2 {Y:Type}{x y:bZ}(c:Y->Prop)(E:Y->Env)(b:Y->av)(a:Y->List Nat)(h:aU P r N x (kX (λe h d=> ∃j,c j/\bO e h d (E j) (b j) (a j)) Q) env H D)
  (k: ∀j,c j->aU P r N y Q (E j) (b j) (a j)):aU P r N (.seq x y) Q env H D:=
 aU.seq (aU.mono h (by
  intro e env' H' l f
  cases e with
  |normal=>obtain⟨j,g,i⟩:=f;exact aU.oj i (k j g)
  |_=>exact f))
theorem aU.dd {hs:List Hint}{a:List (List Nat×List Nat)}(hm:P.follows .mixedOrders=true)
  (h:BK P gs H A hs env=(env',a,[],hs',ob)) (b:rk (A.map (·.2)) a=true) (o:ob) (k:Q .normal env' H D):aU P r N (.nj A) Q env H D:=
 aU.dq hm h b o (aY.nil k)
abbrev ints (l:List Int):AV:=.sl 1 (l.map λx=>[I x])
end
section
variable {P:Program}{r:Option Nat}{K:Env->av->List Nat->Prop}{Q:dl}
theorem aO.xD {T:Nat}{s:ByteArray}(hx:bG env x= .v (.string s))(k: ∀b,K (eC env d (.po b 0)) ((b,.raw (.stringIter s 0))::H) D):aO P r N (.range T x true) (some d) env H D K:=by
 intro o e hd g C a w S L l hs next Q c
 have h:=hs.alloc (x:=.raw (.stringIter s 0)) zz;have i:=h.put (cb (l▸hd d zz) hs.size) (p:=.po w.heap.size 0) (y:=.pointer (some ⟨w.heap.size,0,none⟩)) zz (by simp [bf]);cases g with
 |xD f j=>refine Oper.ck (.xD f j) aF ?_ (by rw[e];exact c _ _ _ _ _ _ _ (k _) i (aI.Le.refl _));simp [execOp,f,Instr.range,underlying,j,hs.int hx,newObj,hB]
theorem aO.TO {s:ByteArray}{c:Nat}(hx:bG env x= .po b 0)(E:H[i]? =some (b,.raw (.stringIter s c)))
  (J:c<s.size->K (cP env dst (.cG [B true,I c,.v (.int .i32 (c8 s c).1)])) (H.set i (b,.raw (.stringIter s (c+(c8 s c).2)))) D)
  (M: ¬c<s.size->K (cP env dst (.cG [B false])) H D):aO P r N (.next x true ty) dst env H D K:=by
 intro o k hd m C a w S L F hs next Q f
 obtain⟨O,h,n⟩:=(hs.at_ E).holds;simp only[Holds]at n;subst n;have A:=hs.dM x hx zz;simp only[bf]at A;have t:b<w.heap.size:=(et.1 h).1;generalize z:true=st at m;cases m with
 |next j=>
  subst z;by_cases q:c<s.size;have u:=hs.replace E (y:=.raw (.stringIter s (c+(c8 s c).2))) (w':={w with heap:=w.heap.setIfInBounds b (.stringIter s (c+(c8 s c).2))})
   (by simp [t]) zz aF (λg hg=>by
     rw[cA,zj (λe=>hg e.symm)]) zz zz zz
  obtain⟨G,l⟩:=u.mP (λd e=>F▸hd d e) (p:=.cG [B true,I c,.v (.int .i32 (c8 s c).1)]) zz
   (by simp only[bf];exact⟨[.bool true,.int .i64 c,.int .i32 (c8 s c).1],zz,by simp [aS,bf]⟩)
  refine Oper.ck (.next j) aF (y:=.tuple #[.bool true,.int .i64 c,.int .i32 (c8 s c).1]) (w':={w with heap:=w.heap.setIfInBounds b (.stringIter s (c+(c8 s c).2))}) ?_
   (by rw[k];exact f _ _ _ _ _ _ _ (J q) l (aI.Le.refl _))
  simp [execOp,j,hG,A,getObj,setObj,hB,h,q,goInt]
  obtain⟨G,l⟩:=hs.mP (dst:=dst) (λd e=>F▸hd d e) (p:=.cG [B false]) (y:=.tuple #[.bool false]) zz (by simp only[bf];exact⟨[.bool false],zz,by simp [aS,bf]⟩);refine Oper.ck (.next j) aF (y:=.tuple #[.bool false]) (w':=w) ?_ (by rw[k];exact f _ _ _ _ _ _ _ (M q) l (aI.Le.refl _));simp [execOp,j,hG,A,getObj,hB,h,q]
end
variable {H0 Hin:av}
def Gl (P:Program)(l:Nat)(args:List AV)(Hin:av)(R:AV->av->Prop):Prop:=
 ∀(S:aI) (w:World) (b:List Value),te S w->S.In w->aS S args b->(∀e∈Hin,Own (λ_=>True) S w e.1 e.2)->(Hin.map (·.1)).Nodup->
  ∃lp:Loop,w.heap[l]? =some (.loop lp)/\b.length=lp.params.size/\
   RoundIn eu 0 P l lp.fn ((lp.params.zip b.toArray).foldl (λtmps (t,a)=>tmps.setIfInBounds t a) lp.tmps) lp.assign lp.body w (CB S w Hin R)
def Sr (P:Program)(fn:Fn)(a args:List AV)(Hin:av)(R:AV->av->Prop):Prop:=match fn with
 | .func f=>iM P f args Hin R
 | .yield l=>a=[]/\Gl P l args Hin R
 |_=>False
theorem CB.mono {R c:AV->av->Prop}(k: ∀r Ho,R r Ho->c r Ho)(e:Ending)(w':World):CB S w Hin R e w'->CB S w Hin c e w':=λ⟨v,d,g,res,b,he,f,a⟩=>⟨v,d,g,res,b,he,k _ _ f,a⟩
theorem iM.mono {P:Program}{args:List AV}{R a:AV->av->Prop}(h:iM P f args Hin R)(k: ∀r Ho,R r Ho->a r Ho):iM P f args Hin a:=⟨h.1,λS w g b c d e h4=>(h.2 S w g b c d e h4).mono (CB.mono k)⟩
theorem Gl.mono {P:Program}{l:Nat}{args:List AV}{R a:AV->av->Prop}(h:Gl P l args Hin R)(k: ∀r Ho,R r Ho->a r Ho):Gl P l args Hin a:=λS w f b c d e h4=>(h S w f b c d e h4).imp λ_ h=>⟨h.1,h.2.1,h.2.2.mono (CB.mono k)⟩
theorem cH.mF {B e:Nat->Prop}{g:Option Nat}{y:Value}(h:cH B S w g p y)(d: ∀b,g=some b->B b->e b):cH e S w g p y:=by
 cases p;case aT T k es=>
  simp only[cH]at h ⊢;rcases h with h|⟨b,cap,c,hy,a⟩
  exact .inl h;exact .inr ⟨b,cap,c,hy,d _ c a.base,a.apart,a.holds⟩
 case eR T cs=>simp only[cH]at h ⊢;obtain⟨b,c,hy,a⟩:=h;exact⟨b,c,hy,d _ c a.base,a.apart,a.holds⟩
 case gT T k es j f=>
  simp only[cH]at h ⊢;obtain⟨i,h⟩:=h;refine⟨i,?_⟩;rcases h with h|⟨b,cap,c,hy,a⟩
  exact .inl h;exact .inr ⟨b,cap,c,hy,d _ c a.base,a.apart,a.holds⟩
 case rF cs es=>simp only[cH]at h ⊢;obtain⟨g,bb,off,c,hy,hc,a⟩:=h;exact⟨g,bb,off,c,hy,hc,d _ c a.base,a.apart,a.holds⟩
 all_goals exact h
section
variable {P:Program}{r:Option Nat}{K:Env->av->List Nat->Prop}{Q:dl}
theorem Sat.LQ (hs:Sat C env H D a w S L)(g: ∀e∈H',e∈H)(i:(H'.map (·.1)).Nodup):Sat C env H' D a w S L:=by have hm: ∀b,b∈(H'++C.F).map (·.1)->b∈(H++C.F).map (·.1):=bD;refine {hs with heap:=λe he=>hs.heap e (g e he),nodup:=?_,aT:=λt b e d=>hs.aT t b e (hm b d)};have c:=hs.nodup;rw[bl,bt]at c ⊢;refine⟨i,c.2.1,?_⟩;intro b d h f e;obtain⟨x,hx,rfl⟩:=bs.1 d;exact c.2.2 x.1 (bs.2 ⟨x,g x hx,zz⟩) h f e
theorem Sat.afy (hs:Sat C env H D a w S L)(d: ∀e∈R,Own C.A S w e.1 e.2)(f:(R.map (·.1)).Nodup)(g: ∀b,b∈R.map (·.1)->b ∉ (H++C.F).map (·.1))(h4: ∀t b,L t=some b->b ∉ R.map (·.1)):
  Sat C env (R++H) D a w S L:=by
 refine {hs with heap:=?_,nodup:=?_,aT:=?_};intro e he;rcases ap.1 he with he|he
 exact d e he;exact hs.heap e he
 rw[bx,bl,bt];exact⟨f,hs.nodup,λb hb h c e=>g b hb (e▸c)⟩;intro t b e hb;rw[bx,bl,ap]at hb;rcases hb with hb|hb
 grind;exact hs.aT t b e hb
theorem Sat.ye {c:av}(hs:Sat C env (Hin++H0) D a w S L)(hd: ∀d,dst=some d->d<C.N){r:aI}{g:Option Nat}{v:Value}
  (E:S.Le r) (B:r.In w') (i: ∀b,r.has b->S.has b\/AH w Hin b) (hb:iC (AH w Hin) w w') (K:cH (AH w Hin) r w' g p v)
  (J: ∀e∈c,Own (AH w Hin) r w' e.1 e.2) (G:(c.map (·.1)).Nodup) (hg: ∀b,g=some b->b ∉ c.map (·.1)):
  ∃M,Sat C (cP env dst p) (c++H0) D (a.put dst v) w' r M:=by
 have o:=hs.nodup;rw[bx,bl,bt]at o;have x:(H0.map (·.1)).Nodup:=bD;have s:=hs.LQ (λe he=>ap.2 (.inr he)) x;have n: ∀b,AH w Hin b->C.A b:=by rintro b (hb|hb);exact hs.fresh hb;obtain⟨e,he,rfl⟩:=bs.1 hb;exact(hs.heap e (ap.2 (.inl he))).base
 have l: ∀b,b<w.heap.size->b ∉ Hin.map (·.1)-> ¬AH w Hin b:=by rintro b H y (h|h);omega;exact y h
 have m: ∀b,b∈(H0++C.F).map (·.1)-> ¬AH w Hin b:=λb hb=>l b (s.tN hb) (λhh=>o.2.2 b hh b hb zz);have j: ∀t b,L t=some b-> ¬AH w Hin b:=λt b e=>l b (hs.K9 e) (λhh=>hs.aT t b e bD);have q: ∀b,S.has b-> ¬AH w Hin b:=λb hb=>l b (hs.sin.lt hb) (λhh=>by
  obtain⟨e,he,rfl⟩:=bs.1 hh
  exact(hs.heap e (ap.2 (.inl he))).apart hb)
 have H:=s.world (hb.mono (λk _ hk=>n k hk)) (λb f=>hb.block b (hs.sin.lt f) (q b f)) (λb f=>hb.block b (s.tN f) (m b f)) (λt b e=>hb.block b (hs.K9 e) (j t b e));have y:=H.Zc E B (λb hh=>(i b hh).imp id (n b))
  (λe he hh=>by
    have u:e.1∈(H0++C.F).map (·.1):=bs.2 ⟨e,he,zz⟩
    rcases i _ hh with h|h
    ·rcases ap.1 he with he|he
     ·exact(s.heap e he).apart h
     ·exact(s.frame e he).apart h
    ·exact m _ u h)
  (λt b e hh=>by
    rcases i _ hh with h|h
    ·exact hs.B2 e h
    ·exact j t b e h)
 have O: ∀e∈c,AH w Hin e.1:=λe he=>(J e he).base;have I:=y.afy (λe he=>(J e he).mF (n _)) G
  (λb f hm=>bD)
  (λt b e hm=>bD)
 cases dst with
 |none=>exact⟨L,I⟩
 |some d=>
  refine⟨_,I.sC (cb (hd d zz) hs.size) (K.mF (λb _ f=>n b f)) ?_⟩;intro b e;subst e;have z:=K.yP.1;refine⟨λhm=>?_,λt _ e=>j t b e z⟩;rw[bx,bl,ap]at hm;rcases hm with hm|hm
  grind;grind
theorem Oper.Nh {o:Oper}{l:kK}(hl:Lo P o l)(c: ∀op,l≠.other op){lo:Nat}{tmps:Array Value}{assign body:Code}
  (h:(execOp a.eval o).run P w= .ok (.round lo f tmps assign body) w') {next:Act->World->Prop} {Q:Exit->Act->World->Prop}
  (k:RoundIn eu 0 P lo f tmps assign body w' (λe b=> ∃v,e= .returned v/\next (a.put o.dst v) b)):o.wpIn (Fw r) 0 P a w next Q:=by
 refine⟨λ_ _=>trivial,?_⟩;show o.uponIn (Fw r) 0 P a next Q ((o.semAt r a.eval).run P w)
 rw[hl.semAt c,h];refine⟨λhd=>by simp [Fw,eu]at hd,?_⟩;have d:RoundIn (Fw r) 0 P lo f tmps assign body w' (λe b=> ∃v,e= .returned v/\next (a.put o.dst v) b):=by
  cases r with
  |none=>exact k
  |some _=>exact k
 apply d.mono;rintro e b ⟨v,rfl,hk⟩;exact hk
theorem Sat.uA (hs:Sat C env (Hin++H0) D a w S L):(∀e∈Hin,Own (λ_=>True) S w e.1 e.2)/\(Hin.map (·.1)).Nodup:=by have b:=hs.nodup;rw[bx,bl,bt]at b;exact⟨λe he=>(hs.heap e (ap.2 (.inl he))).mF (λ_=>trivial),b.1⟩
theorem iM.ym {o:List PanicEntry->Env->av->List Nat->Prop}{R:AV->av->Prop}(d:iM P f qs Hin R)(j:mg ps qs)(k: ∀res b,R res b->K (cP env dst res) (b++H0) D):qu P f dst env (Hin++H0) D K o ps:=λC a w S L hs hd x u=>⟨d.1,(d.2 S w _ hs.gl hs.sin (j S _ u) hs.uA.1 hs.uA.2).mono (by
 rintro e w' ⟨v,q,g,res,b,rfl,r,h,l,i,c,t,s,m,hg⟩;obtain⟨p,n⟩:=hs.ye hd h l i c t s m hg;exact .inl ⟨v,_,_,_,q,p,zz,k res b r,n,h⟩)⟩
theorem aO.aew {args:List Operand}{R:AV->av->Prop}(d:iM P f qs Hin R)(e:args.map (bG env)=ps)(b:ps.all (λp=> !p.bT)=true)(c:mg ps qs)
  (g:H=Hin++H0) (k: ∀res a,R res a->K (cP env dst res) (a++H0) D):aO P r N (.call f args ty) dst env H D K:=by subst g e;exact(ni.OX b (d.ym c k)).So
theorem aO.aa7 {args:List Operand}{fn:Fn}{first c:List AV}{R:AV->av->Prop}(hx:bG env x= .fn fn first c)(h:Sr P fn c qs Hin R)
  (V:args.map (bG env)=ps) (z:ps.all (λp=> !p.bT)=true) (m:mg (first++ps++c) qs) (hH:H=Hin++H0) (k: ∀res b,R res b->K (cP env dst res) (b++H0) D):
  aO P r N (.kV x args ty) dst env H D K:=by
 subst hH V;cases fn with
 |func f=>exact(ni.Hg hx z (iM.ym h m k)).So
 |yield l=>
  intro o Y hd M C a w S L hN hs next Q U
  have I: ∀p∈args.map (bG env),p.bT=false:=λp hp=>bD;have E:=hs.dM x hx zz;simp only[bf]at E;obtain⟨j,cs,X,F,q⟩:=E;have n:=m S _ ((F.append (hs.FA args zz I)).append q);have fin: ∀e w',CB S w Hin R e w'-> ∃v,e= .returned v/\next (a.put o.dst v) w':=by rintro e w' ⟨v,S',g,res,b,rfl,hR,J,G,A,s,hr,ho,T,hg⟩;obtain⟨L',a0⟩:=hs.ye (λd e=>hN▸hd d e) J G A s hr ho T hg;exact⟨v,zz,bD⟩
  cases M with
  |kV B=>
   rename_i xs ts;have e:j.toArray++xs.map a.eval++cs.toArray=(j++xs.toList.map a.eval++cs).toArray:=bD;obtain⟨rfl,h⟩:=h;simp only[aS]at q;subst q;obtain⟨lp,O,y,i⟩:=h S w _ hs.gl hs.sin n hs.uA.1 hs.uA.2;have W:(j++xs.toList.map a.eval++[]).toArray.size=lp.params.size:=(by simpa using y);have u:(execOp a.eval o).run P w= .ok (.round l lp.fn ((lp.params.zip (j++xs.toList.map a.eval++[]).toArray).foldl (λtmps (t,a)=>tmps.setIfInBounds t a) lp.tmps) lp.assign lp.body) w:=(by have hy:(hD l (j++xs.toList.map a.eval++[]).toArray).run P w= .ok (.round l lp.fn ((lp.params.zip (j++xs.toList.map a.eval++[]).toArray).foldl (λtmps (t,a)=>tmps.setIfInBounds t a) lp.tmps) lp.assign lp.body) w:=(by simp only[hD,Instr.getLoop,getObj,ff,hB,O,eM,fr,W];simp);have Z:j.toArray++xs.map a.eval=(j++xs.toList.map a.eval++[]).toArray:=(by apply fv.1;simp);simp only[execOp,B,resolve,fx,X,ff,fr,eM,invoke,Z];exact hy);exact Oper.Nh (.kV B) aF u (i.mono fin)
 |_=>exact h.elim
end
section
variable {P:Program}{Q:dl}
theorem Ev.toR (h:Ev P f args res)(Hin:av):iM P f args Hin (λr Ho=>r=res/\Ho=Hin):=by
 refine⟨h.1,λS w z p q d a s=>(h.2 S w z p q d).mono ?_⟩;rintro e w' ⟨v,u,g,rfl,l,j,c,i,t⟩;have m: ∀e∈Hin,e.1<w.heap.size:=λe he=>(a e he).lt;refine⟨v,u,g,res,Hin,zz,gJ,l,j,λb n=>(c b n).imp id .inl,⟨i.os,i.tape,i.output,i.size,λk hk _=>i.block k hk⟩,t.mF (λb _ h=>.inl h),?_,s,?_⟩;intro e he;obtain⟨o,y,hx⟩:=(a e he).holds;refine⟨.inr (bs.2 ⟨e,he,zz⟩),λhh=>?_,o,(i.block _ (m e he)).trans y,hx.mono l⟩;rcases c _ hh with h|h
 exact(a e he).apart h;grind
 intro b e hm;subst e;obtain⟨x,hx,rfl⟩:=bs.1 hm;have:=t.yP.1;have:=m x hx;omega
theorem bO.LQ (h:H'.Sublist H):bO env H D env H' D:=λ_ _ _ S L hs=>⟨S,L,aI.Le.refl _,hs.LQ (λ_ he=>h.subset he) (by
 have:=hs.nodup
 rw[bl,bt]at this
 exact rM h this.1)⟩
theorem bO.perm (h:H.Perm H'):bO env H D env H' D:=λ_ _ _ S L hs=>⟨S,L,aI.Le.refl _,hs.LQ (λ_ he=>h.symm.subset he) (by
 have:=hs.nodup
 rw[bl,bt]at this
 exact(h.map _).nodup_iff.1 this.1)⟩
theorem Sat.YL (hs:Sat C env H D a w S L):Sat {C with F:=[]} env (H++C.F) D a w S L:=
 {hs with heap:=λe he=>(List.mem_append.1 he).elim (hs.heap e) (hs.frame e),frame:=aF,nodup:=by simpa using hs.nodup,aT:=by simpa using hs.aT}
theorem Sat.Y3 (hs:Sat C env (H++R) D a w S L)(b:C.F=[]):Sat {C with F:=R} env H D a w S L:=
 {hs with
  heap:=λe he=>hs.heap e (List.mem_append.2 (.inl he)),frame:=λe he=>hs.heap e (List.mem_append.2 (.inr he))
  nodup:=by have:=hs.nodup;rw[b,List.append_nil]at this;exact this
  aT:=by have:=hs.aT;rw[b,List.append_nil]at this;exact this}
theorem Sat.KH {l:Nat}{x y:dp}(hs:Sat C env H D a w S L)(f:C.F=[(l,x)]){o:Obj}(hy:Holds S y o):Sat {C with F:=[(l,y)]} env H D a {w with heap:=w.heap.setIfInBounds l o} S L:=by have b:=hs.YL;rw[f]at b;have hi:(H++[(l,x)])[H.length]? =some (l,x):=aF;have c:l<w.heap.size:=(b.at_ hi).lt;have d:=b.replace hi (w':={w with heap:=w.heap.setIfInBounds l o}) (by simp [c]) hy aF (λg hg=>bD) zz zz zz;have e:(H++[(l,x)]).set H.length (l,y)=H++[(l,y)]:=aF;rw[e]at d;exact d.Y3 zz
def wD:List Nat->List AV->Env->Env
 |t::ps,p::args,env=>wD ps args (eC env t p)
 |_,_,env=>env
theorem E4 : ∀{ps:List Nat} {args:List AV} {b:List Value} {env:Env} {tmps:Array Value},aS S args b->N<=tmps.size->(∀t,bf S (env t) (tmps.getD t undef))->(∀t∈ps,t<N)->
  N<=((ps.zip b).foldl (λtmps (x:Nat×Value)=>tmps.setIfInBounds x.1 x.2) tmps).size/\ ∀t,bf S (wD ps args env t) (((ps.zip b).foldl (λtmps (x:Nat×Value)=>tmps.setIfInBounds x.1 x.2) tmps).getD t undef)
 |[],args,b,env,tmps,_,a,h,_=>by simp only[List.zip_nil_left,gx];cases args<;>exact⟨a,h⟩
 |p::ps,[],b,env,tmps,f,a,h,_=>by
  simp only[aS]at f
  subst f
  simp only[List.zip_nil_right,gx];exact⟨a,h⟩
 |p::ps,q::args,b,env,tmps,f,a,h,d=>by
  simp only[aS]at f
  obtain⟨c,g,rfl,i,j⟩:=f
  simp only[List.zip_cons_cons,List.foldl_cons,wD]
  refine E4 j (by simpa using a) ?_ (λt l=>d t (by simp [l]))
  intro t
  have k:p<tmps.size:=cb (d p aF) a
  by_cases e:t=p
  ·subst e
   rw[bN]
   have:(tmps.setIfInBounds t c).getD t undef=c:=by simp [cd,k]
   rw[this];exact i
  ·rw[ij _ _ e,pz e]
   exact h t
theorem Sc (ps:Array Nat)(b:List Value)(tmps:Array Value):(ps.zip b.toArray).foldl (λtmps (t,a)=>tmps.setIfInBounds t a) tmps=(ps.toList.zip b).foldl (λtmps (x:Nat×Value)=>tmps.setIfInBounds x.1 x.2) tmps:=by rw[<-Array.foldl_toList];congr 1;simp
end
end Go.Px
