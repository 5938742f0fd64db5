/- Part 4 of the proof of a statement of this seat (a logic of pure contracts; the functions; their contracts). No conditions. -/
import Derived.Test.YtjjmmbcmdheooaaGreatDoorA3
open Array renaming getD_eq_getD_getElem?->ad,replicate->cr
open Bool renaming or_eq_true->be,and_eq_true->bm,or_false->dn,or_true->et,false_or->e4
open Function renaming comp_def->e8
open Go renaming wpOpIn->fb
open Go.Deferred renaming ofValue->eM
open Go.Op renaming equalIn->e7
open Go.Region renaming wanted->cc,ready->ej
open Go.Value renaming oneCell'->ek
open List renaming getElem?_eq_some_iff->ap,all_eq_true->az,getD_eq_getElem?_getD->bn,mem_range->bs,range->bt,getElem?_eq_getElem->bx,getElem?_cons_zero->bA,flatten_cons->cb,range'->cR,range_eq_range'->de,take_succ_cons->dl,eraseIdx_cons_zero->ds,mem_cons->en,getElem?_map->eu,cons_append->eP,countP_cons->eS,length_cons->eT,length_map->eU,map_cons->e5
open Nat renaming eq_of_beq_eq_true->an,beq->bi,zero_add->bk,lt_of_lt_of_le->bI,lt_or_ge->cA,le_of_ble_eq_true->cD,le_refl->dk,lt_succ_self->ea,beq_refl->ec,add_assoc->er,add_comm->ew,add_zero->ey,blt->e9
open Ne renaming symm->e6
open Option.some renaming injEq->cB
namespace Go.Px
variable {i j k n t:Nat}{a:Act}{S:aE}{L:Nat->Option Nat}{H1:Heap}{w:World}{env env':Env}{C:Ctx}{W:List (Nat×AV)}{arr:Array Oper}
def only (f:List Nat)(env:Env):Env:=λt=>bif f.any (bi t)then env t else .any
def bT (W:List (Nat×AV)):List Nat:=W.map (·.1)
def FG (a b:List Nat):Bool:=a.all λx=> !(b.any (bi x))
def Cq (a b:List Nat):Bool:=a.all λx=>b.any (bi x)
theorem any_beq {l:List Nat}{x:Nat}:l.any (bi x)=true↔x∈l:=by simp_all
theorem qT {a b:List Nat}(h:FG a b=true){x:Nat}(ha:x∈a):x ∉ b:=by have:=az.1 h x ha;intro c;rw[any_beq.2 c]at this;cases this
theorem C3 {a b:List Nat}(h:Cq a b=true){x:Nat}(ha:x∈a):x∈b:=any_beq.1 (az.1 h x ha)
theorem gb: ∀(A B:List (Nat×AV)) (env:Env),dG env (A++B)=dG (dG env A) B
 |[],B,env=>rfl
 |(d,p)::A,B,env=>by simp;exact gb A B _
theorem Cl (A B:List (Nat×AV)):bT (A++B)=bT A++bT B:=by simp [bT]
theorem Nw {A B:List (Nat×AV)}(h: ∀x,x∈bT A->x ∉ bT B):dG env (A++B)=dG env (B++A):=by
 funext t;rw[gb,gb];by_cases ha:t∈bT A
 ·have a:=h t ha;rw[iy (W:=B) a,zY (W:=A) ha]
 ·rw[iy (W:=A) ha];by_cases a:t∈bT B
  ·exact zY a
  ·rw[iy (W:=B) a,iy (W:=B) a,iy (W:=A) ha]
def iN (s:Nat->Bool):Nat->List (List (Nat×AV))->List (Nat×AV)
 |_,[]=>[]
 |i,W::Ws=>(if s i then W else[])++iN s (i+1) Ws
theorem nW {s a:Nat->Bool} : ∀{Ws:List (List (Nat×AV))} {i:Nat} {env env':Env},env t=env' t->
  (∀k W,Ws[k]? =some W->s (i+k)=a (i+k)\/t ∉ bT W)->dG env (iN s i Ws) t=dG env' (iN a i Ws) t
 |[],i,env,env',e,_=>e
 |W::Ws,i,env,env',e,h=>by
  simp only[iN,gb]
  refine nW (i:=i+1) ?_ (λk c hk=>by have:=h (k+1) c (by simpa using hk);rwa [Nat.add_assoc,Nat.add_comm 1 k])
  rcases h 0 W rfl with h0|h0
  ·simp only[Nat.add_zero]at h0
   rw[h0]
   split
   ·exact K2 e
   ·exact e
  ·have: ∀(b:Bool) (E:Env),dG E (if b=true then W else[]) t=E t:=by
    intro b E
    cases b
    ·rfl
    ·exact iy h0
   rw[this,this];exact e
theorem rT {s:Nat->Bool}: ∀{Ws:List (List (Nat×AV))} {i:Nat},(∀k,k<Ws.length->s (i+k)=true)->iN s i Ws=Ws.flatten
 |[],_,_=>rfl
 |W::Ws,i,h=>by
  simp only[iN,cb]
  rw[show s i=true from h 0 zj,rT (λk hk=>by rw[er,ew 1 k];exact h (k+1) (by simpa using hk))]
  rfl
theorem ue {s:Nat->Bool}: ∀{Ws:List (List (Nat×AV))} {i:Nat},(∀k,s (i+k)=false)->iN s i Ws=[]
 |[],_,_=>rfl
 |W::Ws,i,h=>by
  simp only[iN]
  rw[show s i=false from h 0,ue (λk=>by rw[er,ew 1 k];exact h (k+1))]
  rfl
theorem Dj : ∀{Ws:List (List (Nat×AV))} {i:Nat},iN (λk=>decide (k<i+n)) i Ws=(Ws.take n).flatten:=by
 induction n with
 |zero=>intro Ws i;rw[ue (λk=>zj)];simp
 |succ n a=>
  intro Ws i;cases Ws with
  |nil=>rfl
  |cons W Ws=>
   have:i<i+(n+1):=zz
   simp only[iN,dl,cb,this,decide_true,if_true];have:=a (Ws:=Ws) (i:=i+1);rw[show i+1+n=i+(n+1)from zz]at this;rw[this]
theorem FL {s:Nat->Bool} : ∀{Ws:List (List (Nat×AV))} {i:Nat} {env:Env},Ws[j]? =some W->s (i+j)=false->
  (∀k a,Ws[k]? =some a->j<k->s (i+k)=true-> ∀x∈bT W,x ∉ bT a)->
  dG env (iN (λk=>s k||bi k (i+j)) i Ws)=dG (dG env (iN s i Ws)) W:=by
 induction j with
 |zero=>
  intro Ws i env c hs hd
  cases Ws with
  |nil=>cases c
  |cons p Ws=>
   simp only[bA,cB]at c
   subst c
   simp only[ey]at hs
   simp only[iN,hs,ey,ec,et,if_true,Bool.false_eq_true,if_false,List.nil_append]
   have e:iN (λk=>s k||bi k i) (i+1) Ws=iN s (i+1) Ws:=by
    have: ∀(Ws:List (List (Nat×AV))) (m:Nat),i<m->iN (λk=>s k||bi k i) m Ws=iN s m Ws:=by
     intro Ws
     induction Ws with
     |nil=>intro m _;rfl
     |cons q Ws l=>
      intro m hm
      simp only[iN]
      have o:bi m i=false:=by
       cases h:bi m i with
       |false=>rfl
       |true=>have:=an h;omega
      simp only[o,dn,l (m+1) zz]
    exact this Ws (i+1) zz
   rw[e,<-gb]
   apply Nw
   intro x hx hm
   have: ∀(d:List (List (Nat×AV))) (m:Nat),x∈bT (iN s m d)-> ∃k a,d[k]? =some a/\s (m+k)=true/\x∈bT a:=by
    intro d
    induction d with
    |nil=>intro m h;simp [iN,bT]at h
    |cons V d l=>
     intro m h
     simp only[iN,Cl,List.mem_append]at h
     rcases h with h|h
     ·cases b:s m with
      |true=>rw[b]at h;exact⟨0,V,rfl,b,h⟩
      |false=>rw[b]at h;simp [bT]at h
     ·obtain⟨k,a,f,n,g⟩:=l (m+1) h
      exact⟨k+1,a,by simpa using f,by rw[<-n];congr 1;omega,g⟩
   obtain⟨k,a,f,n,g⟩:=this Ws (i+1) hm
   exact hd (k+1) a (by simpa using f) zz (by rw[<-n];congr 1;omega) x hx g
 |succ j l=>
  intro Ws i env c hs hd
  cases Ws with
  |nil=>cases c
  |cons p Ws=>
   have o:bi i (i+(j+1))=false:=by
    cases h:bi i (i+(j+1))with
    |false=>rfl
    |true=>have:=an h;omega
   simp only[iN,o,dn,gb]
   have:=l (Ws:=Ws) (i:=i+1) (env:=dG env (if s i=true then p else[])) (by simpa using c) (by rw[<-hs];congr 1;omega)
    (λk a f n g=>hd (k+1) a (by simpa using f) zz (by rw[<-g];congr 1;omega))
   rw[show i+1+j=i+(j+1)from zz]at this
   exact this
def ym (acc:List Nat):List Nat->Nat
 |[]=>0
 |p::ps=>((1 <<< p) ||| acc.getD p 0) ||| ym acc ps
def mU:List Nat->List (List Nat)->List Nat
 |acc,[]=>acc
 |acc,p::ps=>mU (acc++[ym acc p]) ps
theorem zf {acc:List Nat}{s:Nat->Bool}(ha: ∀j,s j=true->(acc.getD j 0).testBit i=true->s i=true): ∀{ps:List Nat},(∀p∈ps,s p=true)->(ym acc ps).testBit i=true->s i=true
 |[],_,h=>by simp [ym]at h
 |p::ps,a,h=>by
  simp only[ym,Nat.testBit_or,be]at h
  rcases h with (h|h)|h
  ·have:i=p:=by
    rw[Nat.testBit_shiftLeft]at h
    simp only[bm,decide_eq_true_eq]at h
    have c:=h.2
    have:i-p=0:=by
     cases b:i-p with
     |zero=>rfl
     |succ q=>rw[b]at c;simp [Nat.testBit_succ]at c
    omega
   subst this
   exact a _ zj
  ·exact ha p (a p zj) h
  ·exact zf ha (λq b=>a q (by simp [b])) h
theorem C0 {s:Nat->Bool} : ∀{ps:List (List Nat)} {acc:List Nat},(∀j,s j=true->(acc.getD j 0).testBit i=true->s i=true)->
  (∀k p,ps[k]? =some p->s (acc.length+k)=true-> ∀q∈p,s q=true)-> ∀j,s j=true->((mU acc ps).getD j 0).testBit i=true->s i=true
 |[],acc,ha,_,j,a,h=>ha j a h
 |p::ps,acc,ha,hc,j,a,h=>by
  simp only[mU]at h
  refine C0 (ps:=ps) (acc:=acc++[ym acc p]) ?_ ?_ j a h
  ·intro j a h
   by_cases b:j<acc.length
   ·rw[List.getD_eq_getElem?_getD,List.getElem?_append_left b,<-List.getD_eq_getElem?_getD]at h
    exact ha j a h
   ·by_cases he:j=acc.length
    ·subst he
     rw[List.getD_eq_getElem?_getD,List.getElem?_append_right (Nat.le_refl _)]at h
     simp only[Nat.sub_self,List.getElem?_cons_zero,Option.getD_some]at h
     exact zf ha (hc 0 p rfl (by simpa using a)) h
    ·rw[List.getD_eq_getElem?_getD,List.getElem?_eq_none (by simp;omega)]at h
     simp at h
  ·intro k q hk hs
   exact hc (k+1) q (by simpa using hk) (by simp only[List.length_append,List.length_cons,List.length_nil]at hs;rw[<-hs];congr 1;omega)
def UL (A:List Nat)(a:List (List Nat×List Nat)):Bool:=
 (bt a.length).all λj=>(bt j).all λi=>(A.getD j 0).testBit i||
   (match a[i]?,a[j]? with
     |some (fi,c),some (b,d)=>FG c b&&FG d fi
     |_,_=>false)
def Wp (A:List Nat)(m n:Nat):Bool:=(bt n).all λj=>e9 j m||(bt j).all λi=>(A.getD j 0).testBit i
def ko:Nat->List (List Nat)->Bool
 |_,[]=>true
 |j,p::ps=>(p.all λi=>e9 i j)&&ko (j+1) ps
def mY (ps:List (List Nat))(a:List (List Nat×List Nat)):Bool:=UL (mU [] ps) a&&Wp (mU [] ps) a.length ps.length&&ko 0 ps
theorem mN: ∀{ps:List (List Nat)} {j:Nat},ko j ps=true-> ∀k p,ps[k]? =some p-> ∀i∈p,i<j+k
 |[],j,_,k,p,h,i,hi=>by simp at h
 |q::ps,j,h,k,p,hk,i,hi=>by
  simp only[ko,bm]at h
  cases k with
  |zero=>
   simp only[bA,cB]at hk
   subst hk
   have:=az.1 h.1 i hi
   exact bI (ea i) (cD this)
  |succ k=>
   have:=mN h.2 k p (by simpa using hk) i hi
   omega
def gB (dst:Option Nat)(k:List Nat):Bool:=match dst with|none=>true|some d=>k.any (bi d)
def jm (P:Program)(r:Option Nat)(N:Nat)(l:aH)(env:Env)(H:Heap)(D:List Nat)(W:List (Nat×AV)):Prop:=
 match l.guard with
 |none=>Q1 P r N l.op l.dst env H D W
 |some (t,b)=>(∃c:Bool,env t= .v (.bool c)/\((c=b/\Q1 P r N l.op l.dst env H D W)\/(c≠b/\ ∃d,l.dst=some d/\W=[(d,.v undef)])))\/
  (∃cs,env t= .v (.tuple cs))/\ ∃d,l.dst=some d/\W=[(d,.v undef)]
def IC (P:Program)(r:Option Nat)(N:Nat)(l:aH)(env:Env)(H H1:Heap)(D:List Nat)(W:List (Nat×AV)):Prop:=
 l.guard=none/\O3 P r N l.op l.dst env H H1 D W
abbrev rM:=List Nat×List Nat×Bool×Bool
inductive AU (P:Program)(r:Option Nat)(N:Nat)(Hs:Bool->Heap)(q:Nat)(D:List Nat):Nat->Env->List (aH×List Nat)->List rM->List aH->Env->Prop where
 |nil {i env ops:_}:AU P r N Hs q D i env ops [] (ops.map (·.1)) env
 |cons {i env l pr rest infos rC env' W:_} (f:List Nat) (k0 k1:Bool) (hi:i≠q) (h0:k0=true->jm P r N l (only f env) (Hs false) D W) (h1:k1=true->jm P r N l (only f env) (Hs true) D W)
  (hk:Cq (bT W) f=true) (hd:gB l.dst (bT W)=true) (k:AU P r N Hs q D (i+1) (dG env W) rest infos rC env'):
  AU P r N Hs q D i env ((l,pr)::rest) ((f,bT W,k0,k1)::infos) rC env'
 |chg {i env l pr rest infos rC env' W:_} (f:List Nat) (hi:i=q) (h:IC P r N l (only f env) (Hs false) (Hs true) D W)
  (hk:Cq (bT W) f=true) (hd:gB l.dst (bT W)=true) (k:AU P r N Hs q D (i+1) (dG env W) rest infos rC env'):
  AU P r N Hs q D i env ((l,pr)::rest) ((f,bT W,true,true)::infos) rC env'
def Mk (A:List Nat)(q:Nat)(a:List rM):Bool:=(bt a.length).all λi=>bi i q||
 (match a[i]? with
   |some (_,_,b,c)=>(b||(A.getD i 0).testBit q)&&(c||(A.getD q 0).testBit i)
   |none=>false)
def qQ (a:List rM):List (List Nat×List Nat):=a.map λx=>(x.1,x.2.1)
def LI (ps:List (List Nat))(q:Nat)(a:List rM):Bool:=mY ps (qQ a)&&Mk (mU [] ps) q a&&e9 q a.length
inductive vE (P:Program)(r:Option Nat)(N:Nat)(H:Heap)(D:List Nat):Env->List (aH×List Nat)->List (List Nat×List Nat)->List aH->Env->Prop where
 |nil {env ops:_}:vE P r N H D env ops [] (ops.map (·.1)) env
 |cons {env l pr rest infos rC env' W:_} (f:List Nat) (h:jm P r N l (only f env) H D W) (hk:Cq (bT W) f=true) (hd:gB l.dst (bT W)=true)
  (k:vE P r N H D (dG env W) rest infos rC env'):vE P r N H D env ((l,pr)::rest) ((f,bT W)::infos) rC env'
section
variable {P:Program}{r:Option Nat}{N:Nat}{Q:cI}{env0:Env}{H:Heap}{D:List Nat}
structure IL (P:Program)(r:Option Nat)(N:Nat)(Hs:Bool->Heap)(q:Nat)(D:List Nat)(i0:Nat)(env:Env)(ops:List (aH×List Nat))(infos:List rM)(rC:List aH)(env':Env)(Ws:List (List (Nat×AV))):Prop where
 len:Ws.length=infos.length
 le:infos.length<=ops.length
 rC:(ops.drop infos.length).map (·.1)=rC
 fin:env'=dG env Ws.flatten
 step: ∀i f k k0 k1,infos[i]? =some (f,k,k0,k1)-> ∃W l pr,Ws[i]? =some W/\ops[i]? =some (l,pr)/\
  (i0+i≠q->(k0=true->jm P r N l (only f (dG env (Ws.take i).flatten)) (Hs false) D W)/\(k1=true->jm P r N l (only f (dG env (Ws.take i).flatten)) (Hs true) D W))/\
  (i0+i=q->IC P r N l (only f (dG env (Ws.take i).flatten)) (Hs false) (Hs true) D W)/\k=bT W/\Cq k f=true/\gB l.dst k=true
theorem AU.facts {Hs:Bool->Heap}{q b:Nat}{ops:List (aH×List Nat)}{a:List rM}{rC:List aH}(h:AU P r N Hs q D b env ops a rC env'): ∃Ws,IL P r N Hs q D b env ops a rC env' Ws:=by
 have go: ∀{b:Nat} {env:Env} {l:aH} {t:List Nat} {rest:List (aH×List Nat)} {a:List rM} {rC:List aH} {env':Env} {W:List (Nat×AV)} {f:List Nat} {c d:Bool} {Ws:List (List (Nat×AV))},
   IL P r N Hs q D (b+1) (dG env W) rest a rC env' Ws->
   (b≠q->(c=true->jm P r N l (only f env) (Hs false) D W)/\(d=true->jm P r N l (only f env) (Hs true) D W))->(b=q->IC P r N l (only f env) (Hs false) (Hs true) D W)->
   Cq (bT W) f=true->gB l.dst (bT W)=true->IL P r N Hs q D b env ((l,t)::rest) ((f,bT W,c,d)::a) rC env' (W::Ws):=by
  rintro b env l t rest a rC env' W f c d Ws ⟨f1,f2,f3,f4,f5⟩ g z hk hd
  refine⟨by simp [f1],by simp;omega,zx,?_,?_⟩
  ·rw[f4,cb,gb]
  ·intro i x k p s hi
   cases i with
   |zero=>
    obtain⟨rfl,rfl,rfl,rfl⟩:=hi
    exact⟨W,l,t,rfl,rfl,g,z,rfl,hk,hd⟩
   |succ i=>
    obtain⟨w,B,u,j,m,v,h4,A⟩:=f5 i x k p s hi
    have e:b+1+i=b+(i+1):=zz
    rw[e]at v h4
    refine⟨w,B,u,by simpa using j,by simpa using m,?_,?_,A⟩
    ·rw[dl,cb,gb]
     exact v
    ·rw[dl,cb,gb]
     exact h4
 induction h with
 |nil=>exact⟨[],rfl,zj,rfl,rfl,zx⟩
 |cons f c d hi y g hk hd _ o=>obtain⟨Ws,n⟩:=o;exact⟨_,go n (λ_=>⟨y,g⟩) (λe=>absurd e hi) hk hd⟩
 |chg f hi h hk hd _ o=>obtain⟨Ws,n⟩:=o;exact⟨_,go n (λe=>absurd hi e) (λ_=>h) hk hd⟩
theorem vE.toG {q:Nat}{ops:List (aH×List Nat)}{a:List (List Nat×List Nat)}{rC:List aH}(h:vE P r N H D env ops a rC env'): ∀b,b+ops.length<=q->
  AU P r N (λ_=>H) q D b env ops (a.map λx=>(x.1,x.2,true,true)) rC env':=by
 induction h with
 |nil=>intro b _;exact .nil
 |cons f h hk hd _ d=>intro b c;simp only[eT]at c;exact .cons f true true zz (λ_=>h) (λ_=>h) hk hd (d (b+1) zz)
theorem Mc {f:List Nat}{e:Env}(h:only f e t≠.any):t∈f/\only f e t=e t:=by grind [only,any_beq]
theorem jm.wpOpIn {l:aH}(hm:td P N arr i l)(g:jm P r N l env0 H D W)(hd:gB l.dst (bT W)=true)
  (m: ∀t,env0 t= .any\/env0 t=env t) (O:C.N=N) (hs:Sat C env H D a w S L) {K:Act->World->Prop} {A:Exit->Act->World->Prop}
  (hK: ∀M w' J B,Sat C (dG env W) H D M w' J B->K M w'):wpOpIn (Fw r) 0 P arr A i K a w:=by
 obtain⟨o,R,h,x,G,hg⟩:=hm.at_
 have E: ∀d,l.dst=some d->d∈W.map (·.1):=by
  intro d e
  rw[e]at hd
  exact any_beq.1 hd
 unfold fb
 simp only[R]
 have df:Q1 P r N l.op l.dst env0 H D W->o.wpIn (Fw r) 0 P a w K A:=by
  intro Q
  refine(Q1.frame m Q E) o h x G C a w S L O hs K A ?_
  rintro env' H' T y w' J B ⟨rfl,rfl,rfl⟩ q _
  rw[<-h]at q ⊢
  exact hK _ _ _ _ q
 unfold jm at g
 rcases hg with⟨hg,k⟩|⟨j,t,b,hg,k,F⟩
 ·rw[hg]at g
  rw[fF k,if_pos rfl]
  exact df g
 ·rw[hg]at g
  have s:cc o (yielded arr a.tmps)=false->(∃d,l.dst=some d/\W=[(d,.v undef)])->(if cc o (yielded arr a.tmps)=true then o.wpIn (Fw r) 0 P a w K A else(∀f,o.about P w a.eval=some f->(Fw r).fn f)/\K (a.put o.dst undef) w):=by
   rintro I ⟨d,z,rfl⟩
   rw[I,if_neg zj]
   refine⟨λ_ _=>trivial,?_⟩
   obtain⟨B,q⟩:=hs.lA (dst:=some d) (λU e=>by cases e;exact O▸x d z) (p:=.v undef) rfl (by simp [aR]:aR S (.v undef) undef)
   rw[h,z]
   exact hK _ _ _ _ q
  rcases g with⟨c,hc,g⟩|⟨⟨cs,hc⟩,g⟩
  ·have n:env t= .v (.bool c):=by
    rcases m t with e|e
    ·rw[e]at hc;cases hc
    ·rw[<-e];exact hc
   rcases g with⟨u,g⟩|⟨u,g⟩
   ·have I:cc o (yielded arr a.tmps)=true:=by simp [cc,k,oO hs F n,u]
    rw[I,if_pos rfl]
    exact df g
   ·exact s (by simp [cc,k,oO hs F n,u]) g
  ·have n:env t= .v (.tuple cs):=by
    rcases m t with e|e
    ·rw[e]at hc;cases hc
    ·rw[<-e];exact hc
   exact s (by simp [cc,k,uB hs F n]) g
theorem IC.wpOpIn {l:aH}(hm:td P N arr i l)(m:IC P r N l env0 H H1 D W)(hd:gB l.dst (bT W)=true)
  (f: ∀t,env0 t= .any\/env0 t=env t) (u:C.N=N) (hs:Sat C env H D a w S L) {K:Act->World->Prop} {p:Exit->Act->World->Prop}
  (hK: ∀s w' q n,Sat C (dG env W) H1 D s w' q n->K s w'):wpOpIn (Fw r) 0 P arr p i K a w:=by
 obtain⟨o,v,b,h,k,hg⟩:=hm.at_
 have g: ∀d,l.dst=some d->d∈W.map (·.1):=by
  intro d e
  rw[e]at hd
  exact any_beq.1 hd
 obtain⟨x,m⟩:=m
 have j:o.guard=none:=zx
 unfold fb
 simp only[v]
 rw[fF j,if_pos rfl]
 refine(O3.frame f m g) o b h k C a w S L u hs K p ?_
 rintro env' H' z y w' q n ⟨rfl,rfl,rfl⟩ c _
 rw[<-b]at c ⊢
 exact hK _ _ _ _ c
theorem gP.get : ∀{is:List Nat} {ls:List aH} {k i:Nat},gP P N arr is ls->is[k]? =some i-> ∃l,ls[k]? =some l/\td P N arr i l
 |[],_,k,i,_,h=>by simp at h
 |i0::is,ls,k,i,hm,h=>by
  obtain⟨l,ls',rfl,a,b⟩:=hm
  cases k with
  |zero=>simp only[bA,cB]at h;subst h;exact⟨l,rfl,a⟩
  |succ k=>exact b.get (by simpa using h)
theorem gP.drop : ∀{is:List Nat} {ls:List aH} (k:Nat),gP P N arr is ls->gP P N arr (is.drop k) (ls.drop k)
 |is,ls,0,h=>by simpa using h
 |[],ls,k+1,h=>by
  simp only[gP]at h
  subst h;simp [gP]
 |i0::is,ls,k+1,hm=>by
  obtain⟨l,ls',rfl,b,a⟩:=hm
  exact gP.drop k a
theorem gP.length : ∀{is:List Nat} {ls:List aH},gP P N arr is ls->ls.length=is.length
 |[],ls,h=>by simp only[gP]at h;subst h;rfl
 |i0::is,ls,hm=>by
  obtain⟨l,ls',rfl,b,a⟩:=hm
  simp [a.length]
theorem yp {p q:Nat->Bool} : ∀{l:List Nat},(∀x,q x=true->p x=true)->i∈l->p i=true->q i=false->l.countP q<l.countP p
 |[],_,h,_,_=>by cases h
 |x::l,a,h,b,c=>by
  have mono: ∀l:List Nat,l.countP q<=l.countP p:=by
   intro l
   induction l with
   |nil=>simp
   |cons y l d=>
    simp only[eS]
    cases hy:q y with
    |true=>rw[a y hy];simp;exact d
    |false=>simp;omega
  simp only[eS]
  rcases en.1 h with rfl|h
  ·rw[b,c];simp;have:=mono l;omega
  ·have:=yp a h b c
   cases hy:q x with
   |true=>rw[a x hy];simp;exact this
   |false=>simp;omega
structure xc (arr:Array Oper)(ps:List (List Nat))(m:Nat):Prop where
 eq:ps=arr.toList.map jL
 back:ko 0 ps=true
 rC:Wp (mU [] ps) m ps.length=true
 le:m<=ps.length
section
variable {ps:List (List Nat)}{m:Nat}
theorem xc.size (h:xc arr ps m):ps.length=arr.size:=by rw[h.eq];simp
theorem xc.get (h:xc arr ps m){o:Oper}(a:arr[j]? =some o):ps[j]? =some (jL o):=by rw[h.eq];simp [a]
theorem yM {o:Oper} :i∈jL o↔ ∃e∈o.after,Region.binds .any e=true/\e.on=i:=by grind [jL,only]
def pJ (ps:List (List Nat))(s:Nat->Bool):Prop:= ∀k p,ps[k]? =some p->s k=true-> ∀q∈p,s q=true
theorem pJ.ND {s:Nat->Bool}(h:pJ ps s)(b:s j=true)(a:((mU [] ps).getD j 0).testBit i=true):s i=true:=
 C0 (acc:=[]) zx (λk p hk hs=>h k p hk zx) j b a
theorem xc.ready (h:xc arr ps m){listed:Array Bool}(f:j∈ej .any arr listed):j<arr.size/\listed.getD j true=false/\ ∃p,ps[j]? =some p/\ ∀q∈p,listed.getD q true=true:=by
 obtain⟨d,o,g,a⟩:=mem_ready.1 f;refine⟨?_,d,jL o,h.get g,?_⟩
 ·grind
 ·intro q i;obtain⟨e,he,c,rfl⟩:=yM.1 i;have:=a e he c;rw[ad]at this ⊢;cases hx:listed[e.on]? with
  |none=>rfl
  |some b=>grind
theorem xc.isReady (h:xc arr ps m){listed:Array Bool}(k:listed.size=arr.size)(c:j<arr.size)(f:listed.getD j true=false)(a: ∀i,i<j->listed.getD i true=true):j∈ej .any arr listed:=by
 refine mem_ready.2 ⟨f,arr[j],by simp [c],λe he d=>?_⟩;have hg:=h.get (j:=j) (o:=arr[j]) (by simp [c]);have g:=mN h.back j _ hg e.on (yM.2 ⟨e,he,d,rfl⟩);have:=a e.on zz;rw[ad]at this ⊢;have b:e.on<listed.size:=zz
 rw[Array.getElem?_eq_getElem b]at this ⊢;simpa using this
theorem pJ.add {s:Nat->Bool}(h:pJ ps s){p:List Nat}(c:ps[j]? =some p)(a: ∀q∈p,s q=true):pJ ps (λk=>s k||bi k j):=by
 intro k d hk hs q b;simp only[be]at hs ⊢;rcases hs with hs|hs
 ·exact .inl (h k d hk hs q b)
 ·have:=an hs;subst this;rw[c]at hk;cases hk;exact .inl (a q b)
theorem xc.rest (h:xc arr ps m){s:Nat->Bool}(hc:pJ ps s)(e:j<arr.size)(hm:m<=j){p:List Nat}(d:ps[j]? =some p)(a: ∀q∈p,s q=true)(hi:i<j):s i=true:=by
 have b:=hc.add d a;have h2:=az.1 h.rC j (bs.2 zx);simp only[be]at h2;rcases h2 with h2|h2
 ·have:j<m:=bI (ea j) (cD h2);omega
 ·have c:=az.1 h2 i (bs.2 hi);have h4:=b.ND (i:=i) (j:=j) zj c;simp only[be]at h4;rcases h4 with h4|h4
  ·exact h4
  ·simp_all
theorem ft {l:Array Bool}(hi:i<l.size):(l.setIfInBounds i true).getD k true=(l.getD k true||bi k i):=by
 by_cases h:k=i
 ·subst h;simp [ad,hi]
 ·have a:bi k i=false:=by
   cases hx:bi k i with
   |false=>rfl
   |true=>exact absurd (an hx) h
  rw[a,dn];exact getD_set_ne true (e6 h)
theorem xc.seq (hd:xc arr ps m){F:Fence}{z:Exit->Act->World->Prop}: ∀(b j:Nat) (listed:Array Bool) (a:Act) (w:World),listed.size=arr.size->m<=j->j<=arr.size->
  (∀k,k<arr.size->(listed.getD k true=true↔k<j))->arr.size<=j+b->wpOpsIn F n P arr z (cR j (arr.size-j)) a w->wpAnyIn F n P .any arr z b listed a w:=by
 intro b
 induction b with
 |zero=>
  intro j listed a w d v s hl D h
  have he:arr.size-j=0:=zz
  rw[he]at h
  refine⟨?_,h⟩
  cases y:ej .any arr listed with
  |nil=>rfl
  |cons x xs=>
   obtain⟨f,c,_⟩:=hd.ready (listed:=listed) (j:=x) (by rw[y];simp)
   rw[(hl x f).2 zz]at c;cases c
 |succ b I=>
  intro j listed a w d v s hl D h
  by_cases r:j<arr.size
  ·have g:j∈ej .any arr listed:=hd.isReady d r (by
    cases hx:listed.getD j true with
    |false=>rfl
    |true=>have:=(hl j r).1 hx;omega) (λi hi=>(hl i zz).2 hi)
   refine⟨λy=>(by rw[y]at g;cases g),λi hi=>?_⟩
   obtain⟨f,c,p,C,h4⟩:=hd.ready hi
   have o:i=j:=by
    have E:j<=i:=by
     rcases cA i j with hh|hh
     ·rw[(hl i f).2 hh]at c;cases c
     ·exact hh
    rcases cA j i with hh|hh
    ·have l:pJ ps (λk=>listed.getD k true):=by
      intro k J hk hs q H
      have u:k<arr.size:=by
       have:=(ap.1 hk).1
       rw[hd.size]at this;exact this
      have G:=(hl k u).1 hs
      have:=mN hd.back k J hk q H
      exact(hl q zz).2 zz
     have:=hd.rest l f zz C h4 hh
     have:=(hl j r).1 this
     omega
    ·omega
   subst o
   have e:cR i (arr.size-i)=i::cR (i+1) (arr.size-(i+1)):=by
    have:arr.size-i=(arr.size-(i+1))+1:=zz
    rw[this,List.range'_succ]
   rw[e,wpOpsIn_cons]at h
   refine wpOpIn_mono (λA w' B=>I (i+1) (listed.setIfInBounds i true) A w' (by simpa using d) zz zz ?_ zz B) h
   intro k hk
   rw[ft zz]
   simp only[be,hl k hk]
   constructor
   ·rintro (h|h)
    ·omega
    ·have:=an h;omega
   ·intro h
    by_cases t:k=i
    ·subst t;exact .inr (ec k)
    ·exact .inl zz
  ·have he:arr.size-j=0:=zz
   rw[he]at h
   refine⟨λ_=>h,λi hi=>?_⟩
   obtain⟨f,c,_⟩:=hd.ready hi
   rw[(hl i f).2 zz]at c;cases c
end
theorem aJ.W3 {Hs:Bool->Heap}{q:Nat}{ops:List (aH×List Nat)}{b:List rM}{rC:List aH}(hm:P.follows .mixedOrders=true)(c4:AU P r N Hs q D 0 env ops b rC env')
  (b4:mY (ops.map (·.2)) (qQ b)=true) (a0:Mk (mU [] (ops.map (·.2))) q b=true) (e3:q<b.length\/(ops.length<=q)) (hH:H=Hs (decide (ops.length<=q))) (hk:aT P r N rC Q env' (Hs true) D):aJ P r N (.iP ops) Q env H D:=by
 intro c hc C a w S L hN hs
 generalize a2:bN.iP ops=lc at hc
 cases hc with
 | @iP id arr ls a1=>
  simp only[bN.iP.injEq]at a2
  obtain⟨Ws,f1,f2,f3,f4,f5⟩:=c4.facts
  simp only[mY,bm]at b4
  obtain⟨⟨b5,a4⟩,b6⟩:=b4
  have b2:ls.length=arr.size:=by rw[a1.length];simp
  have d5:ops.map (·.2)=arr.toList.map jL:=by
   rw[a2,List.map_snd_zip];simp [b2]
  have b1:ops.map (·.1)=ls:=by
   rw[a2,List.map_fst_zip];simp [b2]
  have d4:ops.length=arr.size:=zx
  have c7:(qQ b).length=b.length:=by simp [qQ]
  rw[c7]at a4
  have hd:xc arr (ops.map (·.2)) b.length:=⟨d5,b6,a4,zx⟩
  have a5: ∀(i:Nat) f k J Z,b[i]? =some (f,k,J,Z)->(qQ b)[i]? =some (f,k):=by
   intro i f k J Z h
   simp [qQ,h]
  refine wpIn_region_any hm ?_
  have X: ∀(a:Act) (w:World) (S:aE) (L:Nat->Option Nat),Sat C env' (Hs true) D a w S L->wpOpsIn (Fw r) 0 P arr (vM C Q) (cR b.length (arr.size-b.length)) a w:=by
   intro a w S L hs
   refine hk arr _ ?_ C a w S L hN hs
   have h1:=a1.drop b.length
   rw[de,List.drop_range']at h1
   rw[<-b1,<-List.map_drop,f3]at h1
   simpa using h1
  have E: ∀i j fi ki fj kj,i<j->(qQ b)[i]? =some (fi,ki)->(qQ b)[j]? =some (fj,kj)->((mU [] (ops.map (·.2))).getD j 0).testBit i=true\/((∀x∈ki,x ∉ fj)/\(∀x∈kj,x ∉ fi)):=by
   intro i j fi ki fj kj c9 hi hj
   have d1:=(ap.1 hj).1
   have h1:=az.1 (az.1 b5 j (bs.2 d1)) i (bs.2 c9)
   rw[hi,hj]at h1
   simp only[be,bm]at h1
   rcases h1 with h1|h1
   ·exact .inl h1
   ·exact .inr ⟨λx hx=>qT h1.1 hx,λx hx=>qT h1.2 hx⟩
  have I: ∀listed:Array Bool,listed.size=arr.size->(q<b.length->listed.getD q true=true)->listed.getD q true=true:=zx
  have c8: ∀(i:Nat) f k J Z,b[i]? =some (f,k,J,Z)->i≠q->(J=true\/((mU [] (ops.map (·.2))).getD i 0).testBit q=true)/\(Z=true\/((mU [] (ops.map (·.2))).getD q 0).testBit i=true):=by
   intro i f k J Z h d3
   have h1:=az.1 a0 i (bs.2 (ap.1 h).1)
   rw[h]at h1
   simp only[be,bm]at h1
   rcases h1 with h1|h1
   ·exact absurd (an h1) d3
   ·exact h1
  have key: ∀(o:Nat) (listed:Array Bool) (a:Act) (w:World) (S:aE) (L:Nat->Option Nat),listed.size=arr.size->pJ (ops.map (·.2)) (λk=>listed.getD k true)->
    (∀j,b.length<=j->j<arr.size->listed.getD j true=false)->(bt arr.size).countP (λk=> !listed.getD k true)<=o->
    Sat C (dG env (iN (λk=>listed.getD k true) 0 Ws)) (Hs (listed.getD q true)) D a w S L->wpAnyIn (Fw r) 0 P .any arr (vM C Q) o listed a w:=by
   intro o
   induction o with
   |zero=>
    intro listed a w S L B y V c5 hs
    have F: ∀k,k<arr.size->listed.getD k true=true:=by
     intro k hk
     have h0:(bt arr.size).countP (λk=> !listed.getD k true)=0:=zz
     have:=List.countP_eq_zero.1 h0 k (bs.2 hk)
     simpa using this
    have a1:b.length=arr.size:=by
     rcases cA b.length arr.size with h|h
     ·have:=V b.length (dk _) h
      rw[F _ h]at this;cases this
     ·omega
    rw[rT (λk hk=>by rw[bk];exact F k zz),<-f4,I listed B (λh=>F q zz)]at hs
    exact hd.seq 0 b.length listed a w B (dk _) zz (λk hk=>⟨λ_=>zz,λ_=>F k hk⟩) zz (X a w S L hs)
   |succ o ih=>
    intro listed a w S L B y V c5 hs
    by_cases G: ∀k,k<b.length->listed.getD k true=true
    ·rw[rT (λk hk=>by rw[bk];exact G k zz),<-f4,I listed B (λh=>G q h)]at hs
     refine hd.seq (o+1) b.length listed a w B (dk _) zz (λk hk=>⟨λhh=>?_,λhh=>G k hh⟩) ?_ (X a w S L hs)
     ·rcases cA k b.length with h|h
      ·exact h
      ·rw[V k h hk]at hh;cases hh
     ·have:arr.size-b.length<=(bt arr.size).countP (λk=> !listed.getD k true):=by
       have e:bt arr.size=bt b.length++cR b.length (arr.size-b.length):=by
        rw[de,de]
        have:=List.range'_append_1 (s:=0) (m:=b.length) (n:=arr.size-b.length)
        rw[bk]at this
        rw[this];congr 1;omega
       rw[e,List.countP_append]
       have:(cR b.length (arr.size-b.length)).countP (λk=> !listed.getD k true)=arr.size-b.length:=by
        rw[List.countP_eq_length.2]
        ·simp
        ·intro k hk
         have:=List.mem_range'_1.1 hk
         simp [V k this.1 zz]
       omega
      omega
    ·
     have c6: ∃k,k<b.length/\listed.getD k true=false/\ ∀i,i<k->listed.getD i true=true:=by
      have: ∀n,(∀k,k<n->listed.getD k true=true)\/ ∃k,k<n/\listed.getD k true=false/\ ∀i,i<k->listed.getD i true=true:=by
       intro n
       induction n with
       |zero=>exact .inl (by intro k hk;omega)
       |succ n d9=>
        rcases d9 with h|⟨k,h1,h2,h3⟩
        ·cases K:listed.getD n true with
         |true=>exact .inl (λk hk=>by
          rcases cA k n with hh|hh
          ·exact h k hh
          ·have:k=n:=zz
           subst this;exact K)
         |false=>exact .inr ⟨n,zz,K,h⟩
        ·exact .inr ⟨k,zz,h2,h3⟩
      rcases this b.length with h|h
      ·exact absurd h G
      ·exact h
     obtain⟨J,d',a9,c3⟩:=c6
     have b':=hd.isReady B (j:=J) zz a9 c3
     refine⟨λhr=>(by rw[hr]at b';cases b'),λi hi=>?_⟩
     obtain⟨a6,z,p,hp,v⟩:=hd.ready hi
     have d0:i<b.length:=by
      rcases cA i b.length with h|h
      ·exact h
      ·have:=hd.rest y a6 h hp v (i:=J) zz
       simp only[a9]at this;cases this
     obtain⟨fi,ki,J,Z,A⟩: ∃fi ki J Z,b[i]? =some (fi,ki,J,Z):=⟨_,_,_,_,bx d0⟩
     have T:=a5 _ _ _ _ _ A
     obtain⟨W,l,pr,hW,b7,hq,b8,rfl,d7,R⟩:=f5 i fi ki J Z A
     rw[bk]at hq b8
     have a7:td P N arr i l:=by
      obtain⟨l',h1,h2⟩:=a1.get (k:=i) (i:=i) (by simp [a6])
      rw[<-b1,eu,b7]at h1
      simp only[Option.map_some,cB]at h1
      subst h1;exact h2
     have u: ∀t,only fi (dG env (Ws.take i).flatten) t= .any\/only fi (dG env (Ws.take i).flatten) t=dG env (iN (λk=>listed.getD k true) 0 Ws) t:=by
      intro t
      by_cases a3:only fi (dG env (Ws.take i).flatten) t= .any
      ·exact .inl a3
      ·obtain⟨c2,he⟩:=Mc a3
       refine .inr ?_
       rw[he]
       have e0:(Ws.take i).flatten=iN (λk=>decide (k<0+i)) 0 Ws:=Dj.symm
       rw[e0]
       refine nW rfl (λk W' hk=>?_)
       simp only[bk]
       have M:k<b.length:=by
        have:=(ap.1 hk).1
        omega
       obtain⟨fk,kk,c0,c1,d⟩: ∃fk kk c0 c1,b[k]? =some (fk,kk,c0,c1):=⟨_,_,_,_,bx M⟩
       have g:=a5 _ _ _ _ _ d
       obtain⟨Wk,_,_,O,_,_,_,rfl,_,_⟩:=f5 k fk kk c0 c1 d
       rw[hk]at O;cases O
       rcases Nat.lt_trichotomy k i with hki|hki|hki
       ·rcases E k i fk _ fi _ hki g T with h1|h1
        ·have:=(y.add hp v).ND (i:=k) (j:=i) zj h1
         simp only[be]at this
         rcases this with h|h
         ·exact .inl (by simp [hki,h])
         ·have:=an h;omega
        ·exact .inr (λhx=>h1.1 t hx c2)
       ·subst hki;exact .inl (by simp [z])
       ·rcases E i k fi _ fk _ hki T g with h1|h1
        ·left
         have b3: ¬k<i:=zz
         simp only[b3,decide_false]
         cases K:listed.getD k true with
         |false=>rfl
         |true=>
          have:=y.ND (i:=i) (j:=k) K h1
          simp only[z]at this;cases this
        ·exact .inr (λhx=>h1.2 t hx c2)
     have hK: ∀a' w' S' L',Sat C (dG (dG env (iN (λk=>listed.getD k true) 0 Ws)) W) (Hs ((listed.setIfInBounds i true).getD q true)) D a' w' S' L'->wpAnyIn (Fw r) 0 P .any arr (vM C Q) o (listed.setIfInBounds i true) a' w':=by
      intro a' w' S' L' Y
      have e1:(λk=>(listed.setIfInBounds i true).getD k true)=(λk=>listed.getD k true||bi k (0+i)):=by
       funext k;rw[ft zz,bk]
      refine ih (listed.setIfInBounds i true) a' w' S' L' (by simpa using B) ?_ ?_ ?_ ?_
      ·rw[e1];simp only[bk];exact y.add hp v
      ·intro j h1 h2
       rw[ft zz,V j h1 h2,e4]
       cases K:bi j i with
       |false=>rfl
       |true=>have:=an K;omega
      ·have:=yp (p:=λk=> !listed.getD k true) (q:=λk=> !(listed.setIfInBounds i true).getD k true) (i:=i) (l:=bt arr.size)
        (by intro x hx;rw[ft zz]at hx;simp only[Bool.not_eq_true',Bool.or_eq_false_iff]at hx ⊢;exact hx.1) (bs.2 a6) (by simp only[z,Bool.not_false])
        (by simp only[ft (show i<listed.size from zz),ec,et,Bool.not_true])
       omega
      ·rw[e1,FL hW (by rw[bk];exact z)]
       ·exact Y
       ·intro k W' hk c' M x hx d8
        have b0:k<b.length:=by
         have:=(ap.1 hk).1
         omega
        obtain⟨fk,kk,c0,c1,d⟩: ∃fk kk c0 c1,b[k]? =some (fk,kk,c0,c1):=⟨_,_,_,_,bx b0⟩
        have g:=a5 _ _ _ _ _ d
        obtain⟨Wk,_,_,O,_,_,_,rfl,d6,_⟩:=f5 k fk kk c0 c1 d
        rw[hk]at O;cases O
        rcases E i k fi _ fk _ c' T g with h1|h1
        ·rw[bk]at M
         have:=y.ND (i:=i) (j:=k) M h1
         simp only[z]at this;cases this
        ·exact h1.1 x hx (C3 d6 d8)
     by_cases U:i=q
     ·subst U
      rw[z]at hs
      refine IC.wpOpIn a7 (b8 rfl) R u hN hs (λa' w' S' L' Y=>hK a' w' S' L' ?_)
      rw[ft zz,ec,et]
      exact Y
     ·have a8:(listed.setIfInBounds i true).getD q true=listed.getD q true:=by
       rw[ft zz]
       cases K:bi q i with
       |false=>rw[dn]
       |true=>exact absurd (an K).symm U
      obtain⟨g0,g1⟩:=c8 i fi _ J Z A U
      obtain⟨q0,q1⟩:=hq U
      rw[a8]at hK
      cases K:listed.getD q true with
      |false=>
       rw[K]at hs hK
       rcases g0 with g0|g0
       ·exact jm.wpOpIn a7 (q0 g0) R u hN hs hK
       ·have:=(y.add hp v).ND (i:=q) (j:=i) zj g0
        simp only[K,e4]at this
        exact absurd (an this).symm U
      |true=>
       rw[K]at hs hK
       rcases g1 with g1|g1
       ·exact jm.wpOpIn a7 (q1 g1) R u hN hs hK
       ·have:=y.ND (i:=i) (j:=q) K g1
        simp only[z]at this;cases this
  refine key arr.size (cr arr.size false) a {w with drawn:=w.drawn+1} S L zj ?_ ?_ ?_ ?_
  ·intro k p hk Y q hq
   have d2:k<arr.size:=by
    have:=(ap.1 hk).1
    simp only[eU]at this;omega
   simp [ad,d2]at Y
  ·intro j _ hj
   simp [ad,hj]
  ·have:=List.countP_le_length (p:=λk=> !(cr arr.size false).getD k true) (l:=bt arr.size)
   simpa using this
  ·have e:dG env (iN (λk=>(cr arr.size false).getD k true) 0 Ws)=env:=by
    funext t
    have:dG env (iN (λk=>(cr arr.size false).getD k true) 0 Ws) t=dG env (iN (λ_=>false) 0 Ws) t:=by
     refine nW rfl (λk W hk=>.inl ?_)
     have M:k<arr.size:=by
      have:=(ap.1 hk).1
      omega
     simp [ad,M]
    rw[this,ue (λ_=>rfl)]
    rfl
   have e2:(cr arr.size false).getD q true=decide (ops.length<=q):=by
    rw[d4]
    by_cases b9:q<arr.size
    ·have: ¬arr.size<=q:=zz
     simp [ad,b9]
    ·have:arr.size<=q:=zz
     simp [ad,b9,this]
   rw[e,e2,<-hH]
   exact hs.grow ⟨rfl,rfl,rfl,dk _,λ_ _=>rfl⟩
 |_=>cases a2
theorem aJ.iP {ops:List (aH×List Nat)}{a:List (List Nat×List Nat)}{rC:List aH}(hm:P.follows .mixedOrders=true)(c:vE P r N H D env ops a rC env')
  (d:mY (ops.map (·.2)) a=true) (hk:aT P r N rC Q env' H D):aJ P r N (.iP ops) Q env H D:=by
 have e:qQ (a.map λx=>(x.1,x.2,true,true))=a:=by
  simp [qQ,e8]
 refine aJ.W3 (Hs:=λ_=>H) (q:=ops.length) hm (c.toG 0 zz) zx ?_ (.inr (dk _)) rfl hk
 refine az.2 (λi hi=>?_)
 have b:=bs.1 hi
 rw[eU]at b
 rw[eu,bx b]
 simp
theorem aJ.Z8 {q:Nat}{ops:List (aH×List Nat)}{a:List rM}{rC:List aH}(hm:P.follows .mixedOrders=true)(c:AU P r N (λb=>bif b then H1 else H) q D 0 env ops a rC env')
  (d:LI (ops.map (·.2)) q a=true) (hk:aT P r N rC Q env' H1 D):aJ P r N (.iP ops) Q env H D:=by
 simp only[LI,bm]at d
 obtain⟨⟨f,g⟩,h⟩:=d
 have e:q<a.length:=bI (ea q) (cD h)
 obtain⟨Ws,i⟩:=c.facts
 refine aJ.W3 hm c f g (.inl e) ?_ hk
 have: ¬ops.length<=q:=by have:=i.le;omega
 simp [this]
end
variable {b d kk:Nat}{p q:AV}{ys:List (List AV)}{cs:List AV}{x y:Operand}{ls:List aH}{H':Heap}
section
variable {H:Heap}{D:List Nat}
theorem Sat.fY (hs:Sat C env H D a w S L){T:Nat}(j:env t= .dO T cs): ∃b,Sat C (dK env t (.po b 0)) ((b,.cells T cs)::H) D a w S (gV L t none):=by
 have d:=hs.env t;rw[j]at d;simp only[bF]at d;obtain⟨g,h,hy,i⟩:=d;refine⟨g,?_⟩;have f:=hs.oW (t:=t) (p:=.po g 0) rfl (by simp only[aR];exact hy);refine {f with heap:=?_,nodup:=?_,aI:=?_}
 ·intro e he;rcases en.1 he with rfl|he
  ·exact i
  ·exact hs.heap e he
 ·simp only[eP,e5,List.nodup_cons];exact⟨hs.aI t g h,hs.nodup⟩
 ·intro u b e;simp only[eP,e5,en,not_or];refine⟨λc=>?_,f.aI u b e⟩;simp only[gV]at e;split at e
  ·cases e
  ·rename_i k;subst c;exact k (hs.gk u t b e h)
theorem Sat.qa (hs:Sat C env H D a w S L){T:Nat}(f:env t= .po b 0)(c:H[i]? =some (b,.cells T cs)):
  Sat C (dK env t (.dO T cs)) (H.eraseIdx i) D a w S (gV L t (some b)):=by
 have hy:=hs.rep f rfl
 simp only[aR]at hy
 refine(hs.drop i).oB ?_ ?_
 ·simp only[bF]
  exact⟨b,rfl,hy,hs.at_ c⟩
 ·intro g e
  cases e
  refine⟨λhm=>?_,λu _ e=>hs.aI u b e ?_⟩
  ·obtain⟨e,he,d⟩:=List.mem_map.1 hm
   exact hs.oM c e he d
  ·grind
theorem bB.qa {T:Nat}(c:env t= .po b 0)(a:H[i]? =some (b,.cells T cs)):bB env H D (dK env t (.dO T cs)) (H.eraseIdx i) D:=
 λ_ _ _ _ _ hs=>⟨_,_,aE.Le.refl _,hs.qa c a⟩
theorem bB.jV {T:Nat}(g:env t= .dO T cs):bB env H D (dK env t (.pi cs)) H D:=by intro C a w S L hs;obtain⟨b,h⟩:=hs.fY g;obtain⟨f,e,c,d⟩:=bB.iA (H:=(b,.cells T cs)::H) (D:=D) (i:=0) t (bw _ _ _) rfl C a w S _ h;rw[dX]at d;exact⟨f,e,c,d⟩
end
section
variable {P:Program}{r:Option Nat}{N:Nat}{H:Heap}{D:List Nat}{dst:Option Nat}{K:Env->Heap->List Nat->Prop}{Q:cI}
theorem aJ.fY {x:bN}{T:Nat}(f:env t= .dO T cs)(d: ∀b,aJ P r N x Q (dK env t (.po b 0)) ((b,.cells T cs)::H) D):aJ P r N x Q env H D:=
 λc hc C a w S L e hs=>by obtain⟨b,h⟩:=hs.fY f;exact d b c hc C a w S _ e h
theorem aT.fY {T:Nat}(e:env t= .dO T cs)(c: ∀b,aT P r N ls Q (dK env t (.po b 0)) ((b,.cells T cs)::H) D):aT P r N ls Q env H D:=
 λarr is hm C a w S L d hs=>by obtain⟨b,h⟩:=hs.fY e;exact c b arr is hm C a w S _ d h
theorem aF.fY {l:jM}{T:Nat}(i:env t= .dO T cs)(f: ∀b,aF P r N l dst (dK env t (.po b 0)) ((b,.cells T cs)::H) D K):aF P r N l dst env H D K:=
 λo d hd e C a w S L g hs next Q c=>by
  obtain⟨b,h⟩:=hs.fY i
  exact f b o d hd e C a w S _ g h next Q c
theorem aF.pre {l:jM}{p:List Nat}(h:bB env H D env' H' p)(s:aF P r N l dst env' H' p K):aF P r N l dst env H D K:=
 λo c hd m C a w S L t hs next Q b=>by
  obtain⟨q,u,j,h⟩:=h C a w S L hs
  exact s o c hd m C a w q _ t h next Q (λe h d y w' i g k n f=>b e h d y w' i g k n (j.trans f))
theorem Pw (h:t≠d)(p q:AV):dK (dK env t p) d q=dK (dK env d q) t p:=by grind [eB,bw]
theorem PQ (h:env t=p):dK env t p=env:=by
 funext i;by_cases a:i=t
 ·subst a;rw[bw,h]
 ·rw[eB _ _ a]
theorem aF.abj {T:Nat}(hx:bu env x=q)(c:q.cj=true)(a:(bQ q).all AV.dW=true)
  (k:K (dK env d (.dO T (bQ q))) H D):aF P r N (.box T x) (some d) env H D K:=
 aF.lr (aF.box hx c a (λb=>⟨_,_,_,bB.qa (i:=0) (t:=d) (bw _ _ _) rfl,by rw[dX];exact k⟩))
theorem aF.Yn {T:Nat}{z:List Value}(a:z.all ek=true)(k:K (dK env d (.dO T (z.map .v))) H D):aF P r N (.alloc T z) (some d) env H D K:=
 aF.lr (aF.alloc a (λb=>⟨_,_,_,bB.qa (i:=0) (t:=d) (bw _ _ _) rfl,by rw[dX];exact k⟩))
theorem aF.YF {T:Nat}{z:List Value}(a:z.all ek=true)(k:K (dK env d (.pi (z.map .v))) H D):aF P r N (.alloc T z) (some d) env H D K:=
 aF.lr (aF.alloc a (λb=>⟨_,_,_,bB.iA (i:=0) d (bw _ _ _) rfl,by rw[dX];exact k⟩))
theorem aF.Z6 {T c:Nat}{n:Option Nat}(e:env t= .dO c cs)(f:eX n cs=some p)(a:d≠t)(k:K (dK env d p) H D):aF P r N (.load T (.tmp t) n) (some d) env H D K:=
 aF.fY e (λb=>aF.lr (aF.TB (x:=.tmp t) (i:=0) (off:=0) (bw _ _ _) rfl (by simpa using f)
  ⟨_,_,_,bB.qa (i:=0) (t:=t) (T:=c) (cs:=cs) (by simp only[ct];rw[eB _ _ (e6 a),bw]) rfl,by
    simp only[ct,ds]
    rw[Pw (e6 a),dX,PQ (t:=t) (by rw[eB _ _ (e6 a),e])]
    exact k⟩))
theorem aF.XW {T a:Nat}(g:env t= .dO a cs)(hy: ∀p,bu (dK env t p) y=q)(f:q.cj=true)(d:(bQ q).length=n)(c:(bQ q).all AV.dW=true)
  (e:n<=cs.length) (k:K (dK env t (.dO a (bK cs 0 (bQ q)))) H D):aF P r N (.store T (.tmp t) y n) none env H D K:=
 aF.fY g (λb=>aF.lr (aF.Er (x:=.tmp t) (i:=0) (off:=0) (bw _ _ _) rfl (hy _) f d c zz
  ⟨_,_,_,bB.qa (i:=0) (t:=t) (T:=a) (cs:=bK cs 0 (bQ q)) (bw _ _ _) rfl,by
    simp only[ct,List.set_cons_zero,ds]
    rw[dX]
    exact k⟩))
theorem aF.Ej {T E:Nat}{ps:List (Nat×Operand)}{z:List Value}{q:List AV}(b:gH (rep n (z.map .v)) (ps.map λp=>(p.1*kk,kk,bu env p.2))=some q)
  (a:q.all AV.dW=true) (k:K (dK env d (.sl kk (chunk kk n q))) H D):aF P r N (.iB T n ps E kk z) (some d) env H D K:=
 aF.lr (aF.iB b a ⟨_,_,_,bB.ga (t:=d) (bw _ _ _),by rw[dX];exact k⟩)
theorem aF.NB {T b E bytes:Nat}{z:List Value}(a:env t= .nil)(hy: ∀p,OB kk (bu (dK env t p) y) ys)
  (c:ys.length*bytes<=140737488355328) (e:ys.length<=9223372036854775807)
  (k:K (dK (dK env t .any) d (.aI E kk ys)) H D):aF P r N (.append T b (.tmp t) y E kk bytes z) (some d) env H D K:=
 aF.pre (bB.ln E kk a) (aF.append (es:=[]) (bw _ _ _) (hy _) zx zx (by rw[dX];exact k))
theorem aF.Um {T E bytes:Nat}{l c:Operand}{o kc:IntKind}{z:List Value}(n:Nat){j h:Int}(hl:bu env l= .v (.int o j))(hc:bu env c= .v (.int kc h))(f:j=n)(e:h=n)
  (m:bytes*n<=281474976710656) (a:n<=9223372036854775807) (g:z.all ek=true)
  (k:K (dK env d (.aI E kk (List.replicate n (z.map AV.v)))) H D):aF P r N (.gR T l c E kk bytes z) (some d) env H D K:=
 aF.lr (aF.gR n hl hc f e m a g (λb=>⟨_,_,_,bB.jT (i:=0) (t:=d) (bw _ _ _) rfl,by rw[dX];exact k⟩))
end
variable {T ty:TypeId}{cap off:Nat}{w':World}{f:FuncId}{es:List (List AV)}{ps qs:List AV}{res:AV}
def aE.gZ (w:World):aE:=⟨λb o=>w.cell? ⟨b,o,none⟩,λb=>match w.heap[b]? with|some (.map e c)=>some (e,c)|_=>none⟩
theorem aE.va (w:World):(aE.gZ w).In w:=
 ⟨λ_ _ _ h=>h,λb m h=>by
   simp only[aE.gZ]at h
   split at h
   ·grind
   ·cases h⟩
theorem aE.In.kg (h:S.In w):S.Le (aE.gZ w):=
 ⟨λb o v e=>h.cell b o v e,λb m e=>by simp only[aE.gZ,h.map b m e]⟩
mutual
def AV.flat:AV->Bool
 | .any| .v _| .nil=>true
 | .agg l=>AV.CF l
 | .bZ l=>AV.CF l
 | .Vq _ x=>x.flat
 |_=>false
def AV.CF:List AV->Bool
 |[]=>true
 |a::l=>a.flat&&AV.CF l
end
def AV.sW:AV->Bool
 | .aI _ _ es=>AV.CF es.flatten
 |p=>p.flat
mutual
theorem aR.flat {T:aE}: ∀(a:AV) (y:Value),a.flat=true->aR S a y->aR T a y
 | .any,_,_,_=>by simp only[aR]
 | .v x,y,_,r=>by simp only[aR]at r ⊢;exact r
 | .nil,y,_,r=>by simp only[aR]at r ⊢;exact r
 | .agg l,y,h,r=>by simp only[aR,AV.flat]at r h ⊢;obtain⟨cs,e,r⟩:=r;exact⟨cs,e,aS.flat l cs h r⟩
 | .bZ l,y,h,r=>by simp only[aR,AV.flat]at r h ⊢;obtain⟨cs,e,r⟩:=r;exact⟨cs,e,aS.flat l cs h r⟩
 | .Vq t x,y,h,r=>by simp only[aR,AV.flat]at r h ⊢;obtain⟨c,e,r⟩:=r;exact⟨c,e,aR.flat x c h r⟩
 | .sl _ _,_,h,_=>by simp [AV.flat]at h
 | .pi _,_,h,_=>by simp [AV.flat]at h
 | .po _ _,_,h,_=>by simp [AV.flat]at h
 | .so _ _ _,_,h,_=>by simp [AV.flat]at h
 | .aI _ _ _,_,h,_=>by simp [AV.flat]at h
 | .dO _ _,_,h,_=>by simp [AV.flat]at h
 | .jr _ _ _ _ _,_,h,_=>by simp [AV.flat]at h
 | .lmap _ _,_,h,_=>by simp [AV.flat]at h
 | .mi _,_,h,_=>by simp [AV.flat]at h
 | .mo _,_,h,_=>by simp [AV.flat]at h
 | .fn _ _ _,_,h,_=>by simp [AV.flat]at h
theorem aS.flat {T:aE}: ∀(l:List AV) (cs:List Value),AV.CF l=true->aS S l cs->aS T l cs
 |[],cs,_,r=>by simp only[aS]at r ⊢;exact r
 |a::l,cs,h,r=>by
  simp only[aS,AV.CF,bm]at r h ⊢
  obtain⟨c,b,e,d,f⟩:=r
  exact⟨c,b,e,aR.flat a c h.1 d,aS.flat l b h.2 f⟩
end
theorem bF.flat {B:Nat->Prop}{T:aE}{g:Option Nat}{y:Value}(h:p.sW=true)(r:bF B S w g p y)(n: ∀b,g=some b-> ¬T.has b):bF B T w g p y:=by
 cases p
 case aI E k es=>
  simp only[bF]at r ⊢;rcases r with r|⟨b,cap,hg,hy,a⟩
  ·exact .inl r
  ·obtain⟨o,e,cur,d,f,i,h4,j,l,m⟩:=a.holds;exact .inr ⟨b,cap,hg,hy,a.base,n b hg,o,e,cur,d,f,i,h4,j,aS.flat _ _ h l,m⟩
 case dO=>simp [AV.sW,AV.flat]at h
 case jr=>simp [AV.sW,AV.flat]at h
 case lmap=>simp [AV.sW,AV.flat]at h
 all_goals
  have c:=bF.rep (by simp [AV.bC]) r
  rw[c.1]
  exact bF.dC (by simp [AV.bC]) (aR.flat _ _ h c.2)
section
variable {P:Program}{r:Option Nat}{N:Nat}{H:Heap}{D:List Nat}{dst:Option Nat}{K:Env->Heap->List Nat->Prop}{Q:cI}
theorem aF.eqB {neg:Bool}{a b:Bool}(hx:bu env x= .v (.bool a))(hy:bu env y= .v (.bool b))(e:P.underlying T=some .bool)(k:K (ct env dst (.v (.bool (match neg with|true=>a !=b|false=>a==b)))) H D):
  aF P r N (.nI neg T x y) dst env H D K:=
 aF.pure rfl zj (λo c C f w S L hs=>⟨.bool (match neg with|true=>a !=b|false=>a==b),by
  cases c with
  |nI d h=>
   have he:(Op.equal T (.bool a) (.bool b)).run P w= .ok (a==b) w:=by
    show (e7 (9999+1) T (.bool a) (.bool b)).run P w=_
    rw[e7]
    simp only[Sem.run_bind,underlying,run_program,Result.andThen_ok,e,Sem.run_pure]
   cases neg<;>simp [execOp,d,hs.int hx,hs.int hy,eqGuard,binOp,he,bne],by cases neg<;>simp [aR]⟩) k
def lB (env:Env)(H:Heap)(p q:AV):Prop:= ∀(C:Ctx) (D:List Nat) (a:Act) (w:World) (S:aE) (L:Nat->Option Nat),Sat C env H D a w S L-> ∀v,aR S p v->aR (aE.gZ w) q v
theorem lB.refl (p:AV):lB env H p p:=λ_ _ _ _ _ _ hs a r=>aR.mono hs.sin.kg _ _ r
theorem lB.po {T:Nat}(g:H[i]? =some (b,.cells T cs)):lB env H (.po b off) (.pi (cs.drop off)):=by
 intro C D a w S L hs v r;simp only[aR]at r ⊢;obtain⟨l,d,k,f⟩:=(hs.at_ g).row;refine⟨b,off,r,?_⟩
 have e:eO (aE.gZ w) cs b 0:=mO (aS.mono hs.sin.kg _ _ k) f (λj c h=>by
  show w.cell? ⟨b,0+j,none⟩=some c
  rw[bk,cell_of_row w b _ _ _ _ d];simpa using h)
 simpa using e.drop off
theorem T7 (hs:Sat C env H D a w S L): ∀{ps qs:List AV} {b:List Value},fN (lB env H) ps qs->aS S ps b->aS (aE.gZ w) qs b
 |[],[],b,_,r=>by simp only[aS]at r ⊢;exact r
 |p::ps,q::qs,b,h,r=>by
  simp only[aS]at r ⊢
  obtain⟨c,d,e,f,g⟩:=r
  exact⟨c,d,e,h.1 C D a w S L hs c f,T7 hs h.2 g⟩
 |[],_::_,_,h,_=>h.elim
 |_::_,[],_,h,_=>h.elim
theorem Sat.K3 (hs:Sat C env H D a w S L)(hd: ∀d,dst=some d->d<C.N){k:aE}{g:Option Nat}{v:Value}(n:p.sW=true)
  (l:RowKit.Below w.heap.size w w') (f:bF (λb=>w.heap.size<=b) k w' g p v): ∃j,Sat C (ct env dst p) H D (a.put dst v) w' S j:=by
 have i:=hs.grow l
 have h:bF C.A S w' g p v:=(f.flat n (λb e hh=>by
  subst e
  have:=f.wR.1
  have:=hs.sin.lt hh
  omega)).C8 (λb c=>hs.fresh c)
 cases dst with
 |none=>exact⟨L,i⟩
 |some d=>
  refine⟨_,i.lP (d:=d) (g:=g) (bI (hd d rfl) hs.size) h ?_⟩
  intro b e
  subst e
  have m:=f.wR.1
  refine⟨λhm=>absurd (hs.qk hm) zz,λt _ e=>absurd (hs.FA e) zz⟩
theorem aF.Wq {args:List Operand}(n:Ev P f qs res)(u:args.map (bu env)=ps)(y:ps.all (λp=> !p.bC)=true)(l:fN (lB env H) ps qs)(c:res.sW=true)
  (k:K (ct env dst res) H D):aF P r N (.call f args ty) dst env H D K:=by
 intro o m hd t C a w S L A hs next Q i
 have s: ∀p∈ps,p.bC=false:=λp R=>zx
 have b:=T7 hs l (hs.sj args u s)
 cases t with
 |call q E I B=>
  rename_i xs T fn
  refine Oper.kr (.call q E I B) zj (f:=f) (args:=xs.map a.eval) (w':=w) ?_ ?_
  ·simp [execOp,q,resolve,eM,Act.eval,invoke,dI n.1]
  ·have h:=n.2 (aE.gZ w) w _ (hs.gl.mono hs.sin.kg) (aE.va w) b
   have e:(List.map a.eval xs.toList).toArray=xs.map a.eval:=by rw[<-Array.toList_map]
   rw[e]at h
   refine h.mono ?_
   rintro e w' ⟨v,O,g,rfl,G,F,z,j,J⟩
   obtain⟨M,x⟩:=hs.K3 (dst:=dst) (λd e=>A▸hd d e) c j J
   exact⟨v,rfl,by rw[m];exact i _ _ _ _ _ _ _ k x (aE.Le.refl _)⟩
theorem aF.SU {args:List Operand}{first b:List AV}(hx:bu env x= .fn (.func f) first b)(n:Ev P f qs res)(A:args.map (bu env)=ps)(F:ps.all (λp=> !p.bC)=true)
  (l:fN (lB env H) (first++ps++b) qs) (h:res.sW=true) (k:K (ct env dst res) H D):aF P r N (.fP x args ty) dst env H D K:=by
 intro o m hd z C a w S L J hs next Q i
 have y: ∀p∈ps,p.bC=false:=λp V=>zx
 have s:=hs.cY x hx rfl
 simp only[aR]at s
 obtain⟨I,cs,E,u,t⟩:=s
 have c:=T7 hs l ((u.append (hs.sj args A y)).append t)
 cases z with
 |fP q=>
  rename_i xs W
  refine Oper.kr (.fP q) zj (f:=f) (args:=(I++xs.toList.map a.eval++cs).toArray) (w':=w) ?_ ?_
  ·simp [execOp,q,resolve,eM,E,invoke,dI n.1]
  ·refine(n.2 (aE.gZ w) w _ (hs.gl.mono hs.sin.kg) (aE.va w) c).mono ?_
   rintro e w' ⟨v,U,g,rfl,O,M,G,j,R⟩
   obtain⟨T,B⟩:=hs.K3 (dst:=dst) (λd e=>J▸hd d e) h j R
   exact⟨v,rfl,by rw[m];exact i _ _ _ _ _ _ _ k B (aE.Le.refl _)⟩
theorem Sat.VX (hs:Sat C env H D a w S L){T:Nat}(k:env t= .aI T kk es): ∃h cap,∃f,Sat C (dK env t (.jr T kk es h cap)) H D a w S f:=by
 have d:=hs.env t;rw[k]at d;simp only[bF]at d;have hg: ∀b,L t=some b->b ∉ (H++C.F).map (·.1)/\ ∀u,u≠t->L u≠some b:=λb e=>⟨hs.aI t b e,λu l i=>l (hs.gk u t b i e)⟩;rcases d with⟨hy,he,c⟩|⟨g,cap,c,hy,j⟩
 ·exact⟨none,0,_,hs.oB (g:=L t) (by simp only[bF];exact⟨by rw[hy,he];rfl,.inl ⟨hy,he,c⟩⟩) hg⟩
 ·exact⟨some ⟨g,0,none⟩,cap,_,hs.oB (g:=L t) (by simp only[bF];exact⟨hy,.inr ⟨g,cap,c,hy,j⟩⟩) hg⟩
theorem aJ.VX {x:bN}(t:Nat){T:Nat}(g:env t= .aI T kk es)(h: ∀b cap,aJ P r N x Q (dK env t (.jr T kk es b cap)) H D):aJ P r N x Q env H D:=
 λc hc C a w S L f hs=>by obtain⟨b,cap,d,e⟩:=hs.VX g;exact h b cap c hc C a w S d f e
theorem bB.XP {T:Nat}{d:Option Addr}(h:env t= .jr T kk es d cap):bB env H D (dK env t (.aI T kk es)) H D:=by intro C a w S L hs;have c:=hs.env t;rw[h]at c;simp only[bF]at c;exact⟨S,_,aE.Le.refl S,hs.oB (g:=L t) (by simp only[bF];exact c.2) (λb e=>⟨hs.aI t b e,λu i f=>i (hs.gk u t b f e)⟩)⟩
theorem bB.Rs {u T:Nat}{j:Option Addr}(i:t≠u)(r:env u= .jr T kk es j cap)(q:env t= .v (.slice j n cap))(o:n=es.length):bB env H D (dK (dK env u .any) t (.aI T kk es)) H D:=by
 intro C a w S L hs;have d:=hs.env u;rw[r]at d;simp only[bF]at d;obtain⟨l,m⟩:=d;have k:=hs.rep q rfl;simp only[aR]at k;have e:a.tmps.getD t undef=a.tmps.getD u undef:=by rw[k,l,o]
 have f:=hs.oW (t:=u) (p:=.any) rfl (by simp [aR]);refine⟨S,_,aE.Le.refl S,f.oB (t:=t) (g:=L u) (by rw[e];simp only[bF];exact m) ?_⟩;intro b eb;refine⟨hs.aI u b eb,λv s c=>?_⟩;simp only[gV]at c;split at c
 ·cases c
 ·rename_i h;exact h (hs.gk v u b c eb)
theorem aF.abl {T:Nat}{f:Option Addr}(j:env t= .jr T kk es f cap)(k:K (dK env d (.v (.slice f es.length cap))) H D):aF P r N (.rF (.tmp t)) (some d) env H D K:=by
 intro o c hd e C a w S L i hs next Q b
 have g:=hs.env t;rw[j]at g;simp only[bF]at g;have h:=hs.put (d:=d) (bI (i▸hd d rfl) hs.size) (p:=.v (.slice f es.length cap)) (y:=a.tmps.getD t undef) rfl (by simp only[aR];exact g.1);exact Oper.bO e zj (Ft e) (by rw[c];exact b _ _ _ _ _ _ _ k h (aE.Le.refl _))
theorem aF.T6 {T ty u E bytes:Nat}{z:List Value}{b:Option Addr}(a:t≠u)(g:env u= .jr E kk es b cap)(f:env t= .v (.slice b n cap))(e:n=es.length)
  (hy:OB kk (bu (dK (dK env u .any) t (.aI E kk es)) y) ys) (c:(es.length+ys.length)*bytes<=140737488355328) (hm:es.length+ys.length<=9223372036854775807)
  (k:K (dK (dK (dK env u .any) t .any) d (.aI E kk (es++ys))) H D):aF P r N (.append T ty (.tmp t) y E kk bytes z) (some d) env H D K:=
 aF.pre (bB.Rs a g f e) (aF.append (bw _ _ _) hy c hm (by rw[dX];exact k))
end
end Go.Px
