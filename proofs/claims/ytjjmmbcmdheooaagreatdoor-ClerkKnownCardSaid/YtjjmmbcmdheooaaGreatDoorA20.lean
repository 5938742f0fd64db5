/- Part 20 of the proof of a statement of this seat (a logic of pure contracts; the functions; their contracts). No conditions. -/
import Derived.Test.YtjjmmbcmdheooaaGreatDoorA19
open And renaming intro->fu
open Array.mk renaming injEq->ff
open Bool renaming not_eq_true->dn,or_eq_true->ec
open Classical renaming not_not->cr
open Go.Lit renaming int->ho
open Go.Program renaming keyLits->e9
open Go.Proofs.Tryz renaming prog->ad,underlying245->ey,underlying415->eM,underlying3->e3
open Go.Value renaming formed->fy,cells->gx
open Go.Value.agg renaming injEq->fe
open Go.Value.int renaming injEq->c7
open Int renaming toNat_natCast->bi,natCast_inj->cD,natCast_nonneg->c8,ediv_le_self->e2,ediv_nonneg->e4,le_of_lt->fv,pow_pos->fD
open List renaming nil_sublist->an,range->az,length_cons->be,length_append->bk,length_nil->bm,append_assoc->bx,append_nil->bA,length_map->cb,range_succ->cc,mem_of_getElem?->cB,map_append->cR,mem_singleton->de,getElem?_eq_some_iff->dk,foldl_append->dl,length_eq_zero_iff->ds,length_filter_le->ej,perm_append_comm->ek,count_le_length->en,mem_append_left->er,mem_range->et,length_range->eS,mem_map->eT,nodup_append->e0,foldl_cons->e5,mem_append->e6,nil_append->e7,foldl_nil->fs
open List.Nodup renaming length_le_of_subset->cA,sublist->hf
open List.Perm renaming refl->fj,swap->fk
open List.Sublist renaming refl->eP
open List.cons renaming injEq->bI
open Nat renaming pow_le_pow_right->ap,le_refl->bs,le_trans->ea,pow_lt_pow_right->eu,lt_of_lt_of_le->ew,or_lt_two_pow->e1,two_pow_pos->e8,add_zero->fx,zero_le->gg
namespace Go.Px
open Go.Proofs Go.MapKept
section
variable (d:kK) (os:List (List AV)) (es:List (Value×AV)) (l bt bn:Nat)
def Tq:AV:=.fn (.func 374) [] [.pi [Cf d os es],.pi [Yv l],.po bt 0,.po bn 0,.pi [.fn (.func 373) [Cf d os es] []]]
abbrev TT (a:Nat->Nat):Heap:=[(bt,.cells 415 (iz a)),(bn,.cells 482 [Tq d os es l bt bn])]
end
def Yt (l:Nat){X M:Type}(f:X->List Nat->J×X)(W:J->X->M->Heap)(x0:X)(L:List (List Nat)):Prop:=
 ∀a p b,L=a++p::b->(aQ f a x0).1= .go-> ∀g:M,zX ad l [.agg (iz (aM p)),I (dc p:Nat)] (W .go (aQ f a x0).2 g)
  (λres Ho=> ∃c:M,res=B (f (aQ f a x0).2 p).1.on/\Ho=W (f (aQ f a x0).2 p).1 (f (aQ f a x0).2 p).2 c)
def TL (d:kK)(os:List (List AV))(es:List (Value×AV))(l bt bn:Nat){X M:Type}(W:J->X->M->Heap)(p:List Nat)(res:J×X)(r:AV)(Ho:Heap):Prop:=
 ∃(a:Nat->Nat) (b:M),r=B res.1.on/\Ho=TT d os es l bt bn a++W res.1 res.2 b/\(res.1= .go->a=aM p)
section
variable {d:kK} (ok:d.OK) {os:List (List AV)} {es:List (Value×AV)} (K:qC d es) (l bt bn:Nat) {X M:Type} (f:X->List Nat->J×X) (W:J->X->M->Heap) (x0:X)
theorem Lu {p:List Nat}{res:J×X}{env:Env}{a:Nat->Nat}{g:M}(h:env 11=B res.1.on)(ha:res.1= .go->a=aM p):wM ad [.tmp 11] (TL d os es l bt bn W p res) .ret env (TT d os es l bt bn a++W res.1 res.2 g) []:=
 ⟨.inr rfl,_,_,_,rfl,.one (.tmp h rfl),⟨a,g,rfl,rfl,ha⟩,eP _⟩
abbrev tA5 (d:kK)(os:List (List AV))(es:List (Value×AV))(l bt bn:Nat)(p:List Nat):List AV:=[I p.length,I (mJ p:Nat),I (dc p:Nat),.pi [Cf d os es],.pi [Yv l],.po bt 0,.po bn 0,.pi [.fn (.func 373) [Cf d os es] []]]
abbrev Y5 (d:kK)(os:List (List AV))(es:List (Value×AV))(l bt bn:Nat)(p:List Nat)(rest:List (Nat×AV):=[]):List (Nat×AV):=(0,I p.length)::(1,I (mJ p:Nat))::(2,I (dc p:Nat))::(3,.pi [Cf d os es])::(4,.pi [Yv l])::(5,.po bt 0)::(6,.po bn 0)::(7,.pi [.fn (.func 373) [Cf d os es] []])::rest
include ok K
theorem Pk {L:List (List Nat)}(hy:Yt l f W x0 L): ∀(m:Nat) (p:List Nat) (b Z:List (List Nat)),p.length+m=d.hs.length->(∀k∈p,k<=d.cs.length)->L=b++cK (jC d) m p++Z->(aQ f b x0).1= .go->
  ∀g:M,il ad 374 (tA5 d os es l bt bn p) (TT d os es l bt bn (aM p)++W .go (aQ f b x0).2 g) (TL d os es l bt bn W p (aQ f (b++cK (jC d) m p) x0)):=by
 have h4:=ok.h4
 have c4:=ok.c4
 intro m
 induction m with
 |zero=>
  intro p b Z hl hp hL F g
  rw[fx]at hl
  have b2:=hy b p Z (by rw[hL];simp [cK]) F g
  have df:aQ f (b++cK (jC d) 0 p) x0=f (aQ f b x0).2 p:=by
   rw[sG F];exact A3
  rw[df]
  refine bq agL.ok<|aC rfl<|aJ.scope (aa (aa ?_))
  refine cC rfl<|ax rfl zx<|aa (av ?_)
  refine lz [.at 0] 3 rfl rfl ⟨rfl,trivial⟩<|aG (cd ek)<|ai (bP (Hin:=W .go (aQ f b x0).2 g) (H0:=TT d os es l bt bn (aM p)) rfl (show Pn ad (.yield l) [] _ _ _ from⟨rfl,b2⟩) rfl rfl (aK _) rfl ?_)
  rintro r2 b4 ⟨g',rfl,rfl⟩
  refine aG (cd ek)<|eZ rfl ?_
  exact ab (Lu l bt bn W rfl (λ_=>rfl))
 |succ m ih=>
  intro p b Z hl hp hL F g
  have b6:((d.hs.map qh.enc).length:Int)=d.hs.length:=zj
  have b0:((d.cs.map qh.enc).length:Int)=d.cs.length:=zj
  have T:p.length<4:=zz
  have c0:mJ p<2^4:=ew (PI hp) (ap zz c4)
  have b5:dc p<=p.length:=en
  rw[SY]at hL ⊢
  generalize a9:tch d m p=ch at hL
  have z: ∀(k:Nat) (w P:List (List Nat)),k<=d.cs.length->L=w++cK (jC d) m (p++[k])++P->(aQ f w x0).1= .go-> ∀g:M,il ad 374 [I (p.length+1),I (mJ (p++[k]):Nat),I (dc (p++[k]):Nat),.pi [Cf d os es],.pi [Yv l],.po bt 0,.po bn 0,.pi [.fn (.func 373) [Cf d os es] []]]
    (TT d os es l bt bn (aM (p++[k]))++W .go (aQ f w x0).2 g) (TL d os es l bt bn W (p++[k]) (aQ f (w++cK (jC d) m (p++[k])) x0)):=by
   intro k w P hk a6 a3 g
   have h1:((p++[k]).length:Int)=p.length+1:=zj
   have:=ih (p++[k]) w P zx (λx hx=>zx) a6 a3 g
   unfold tA5 at this
   rw[h1]at this
   exact this
  refine bq agL.ok<|aC rfl<|aJ.scope (aa (aa ?_))
  refine cC rfl<|aD rfl zx<|aa (aa ?_)
  refine W5 [.gI 0] rfl ⟨⟨zz,zz⟩,⟨rfl,rfl,rfl,rfl,zx⟩,trivial⟩<|ae (aj (ar (H':=TT d os es l bt bn (aM (p++[0]))++W .go (aQ f b x0).2 g) ?_) (ao (l:=Y5 d os es l bt bn p) ⟨rfl,rfl,rfl,rfl,rfl,rfl,rfl,rfl,trivial⟩)) ?_
  ·show (bt,cP.cells _ (bK (iz (aM p)) (0+p.length*1) [I (0:Nat)]))::_=_
   rw[xQ _ _ T,Fs rfl (λ_ _=>rfl)]
   rfl
  obtain⟨r0,b9⟩:=kC ch (k:=0) (n:=d.cs.length) zz
  have U:=z 0 b ((az d.cs.length).flatMap ch++Z) zz zx F g
  rw[Bj,if_pos rfl,wZ,if_pos rfl]at U
  refine aa (av ?_)
  refine lz [.at 1] 6 rfl rfl ⟨rfl,⟨zz,zz⟩,⟨zz,zz⟩,trivial⟩<|ai (bP (Hin:=TT d os es l bt bn (aM (p++[0]))++W .go (aQ f b x0).2 g) (H0:=[]) rfl (show il ad 374 _ _ _ from U) rfl rfl (aK _) zj ?_)
  rintro res a0 ⟨a',g',rfl,rfl,S⟩
  refine eZ rfl ?_
  generalize R:aQ f (b++cK (jC d) m (p++[0])) x0=R0 at S
  cases hj:R0.1.on with
  |false=>
   have u:R0.1≠.go:=λe=>by rw[e]at hj;cases hj
   refine ax rfl rfl<|ae (ar (bA _))<|aC rfl ?_
   have v:aQ f (b++(cK (jC d) m (p++[0])++(az d.cs.length).flatMap ch)) x0=R0:=by
    rw[<-bx,nN (by rw[R];exact u),R]
   rw[v]
   refine ab (Lu l bt bn W ?_ (λe=>absurd e u))
   show B false=B _
   rw[hj]
  |true=>
  have J:=NQ.1 hj
  refine aD rfl rfl<|ae (aj (ar (H':=TT d os es l bt bn a'++W .go R0.2 g') zx) (ao (l:=Y5 d os es l bt bn p) ⟨rfl,rfl,rfl,rfl,rfl,rfl,rfl,rfl,trivial⟩)) ?_
  have a7: ∀i,i≠p.length->a' i=aM p i:=by
   intro i hi
   rw[S J,jB]
   by_cases e:i<p.length
   ·rw[if_pos e]
   ·rw[if_neg e,if_neg hi,mv p e]
  clear S U
  have a1: ∀n,b++(cK (jC d) m (p++[0])++(az (n+1)).flatMap ch)=b++(cK (jC d) m (p++[0])++(az n).flatMap ch)++ch n:=by
   intro n
   rw[me];simp only[bx]
  have Q:(aQ f (b++(cK (jC d) m (p++[0])++(az 0).flatMap ch)) x0)=R0:=by
   rw[<-R];simp
  have v: ∀n,n<=d.cs.length->(aQ f (b++(cK (jC d) m (p++[0])++(az n).flatMap ch)) x0).1≠.go->aQ f (b++(cK (jC d) m (p++[0])++(az d.cs.length).flatMap ch)) x0=aQ f (b++(cK (jC d) m (p++[0])++(az n).flatMap ch)) x0:=by
   intro n hn u
   obtain⟨r,N⟩:=kC ch (k:=n) (n:=d.cs.length) hn
   rw[N,<-bx (cK (jC d) m (p++[0])),<-bx b,nN u]
  have E: ∀n,n<d.cs.length->ch n=cK (jC d) m (p++[n+1])-> ∃r,L=b++(cK (jC d) m (p++[0])++(az n).flatMap ch)++cK (jC d) m (p++[n+1])++r:=by
   intro n hn o
   obtain⟨r,N⟩:=kC ch (k:=n+1) (n:=d.cs.length) hn
   rw[me,o]at N
   exact⟨r++Z,by rw[hL,N];simp only[bx]⟩
  generalize hS:cK (jC d) m (p++[0])=S0 at a1 Q v E
  let q:Nat->List (List Nat):=λn=>b++(S0++(az n).flatMap ch)
  refine aa (aJ.label ?_)
  refine aa (aa ?_)
  refine cC rfl<|aJ.gK (Y:=(Nat->Nat)×M) (λa=>(aQ f (q d.cs.length) x0).1= .go/\ ∀i,i≠p.length->a.1 i=aM p i) (λ_=>el (Y5 d os es l bt bn p)) (λa=>TT d os es l bt bn a.1++W .go (aQ f (q d.cs.length) x0).2 a.2) (λ_=>[]) ?_ ?_
  ·refine br (X:=Nat×(Nat->Nat)×M) (λy=>y.1<=d.cs.length/\(aQ f (q y.1) x0).1= .go/\ ∀i,i≠p.length->y.2.1 i=aM p i)
    (λy=>el (Y5 d os es l bt bn p [(39,lE d.cs),(40,I d.cs.length),(41,I y.1)])) (λy=>TT d os es l bt bn y.2.1++W .go (aQ f (q y.1) x0).2 y.2.2) (λ_=>[]) (λy=>d.cs.length-y.1) (0,a',g') ⟨gg _,by show (aQ f (b++(S0++_)) x0).1=_;rw[Q];exact J,a7⟩
    (aj (ar (by show _=TT d os es l bt bn a'++W .go (aQ f (b++(S0++_)) x0).2 g';rw[Q])) (ao ⟨rfl,rfl,rfl,rfl,rfl,rfl,rfl,rfl,rfl,by show I _=I _;rw[b0],rfl,trivial⟩)) ?_
   rintro⟨n,a,g⟩ ⟨hn,t,ha⟩
   simp only at hn t ha ⊢
   refine aC rfl<|aa (ag rfl (λhc=>?_) (λhc=>?_))
   ·simp only[nL]at hc
    have C:=PY ok (os:=os) K (h:=p.length) (c:=n) zz hc
    have H:cN (mJ p:Nat) n=p.contains (n+1):=by rw[lM _ _ zz,bi,De]
    have o:ch n=if (!p.contains (n+1)&&sX d p.length n)=true then cK (jC d) m (p++[n+1])else[]:=by rw[<-a9];rfl
    have A:q (n+1)=q n++ch n:=a1 n
    have b1:=E n hc
    have hq:(0:Int)<=(mJ p:Nat)/2^((n:Nat):Int).toNat:=e4 zz (fv (fD zz))
    have b8:((mJ p:Nat):Int)/2^((n:Nat):Int).toNat<=(mJ p:Nat):=e2 _ zz
    generalize sX d p.length n=fb at C o
    generalize b':p.contains (n+1)=ub at H o
    refine af (aa (au ?_))
    refine aC rfl<|aa (aJ.En (Y:=Unit) (λ_=>True) (λ_=>el (Y5 d os es l bt bn p [(39,lE d.cs),(40,I d.cs.length),(41,I n),(12,I n),(55,B (!(!ub&&fb)))])) (λ_=>TT d os es l bt bn a++W .go (aQ f (q n) x0).2 g) (λ_=>[]) ?_ ?_)
    ·have hb:=H
     unfold cN at hb
     cases ub with
     |true=>
      refine js [(49,true)] [] rfl (by(and_intros);(all_goals first|exact zk _|((first|exact hb|omega)))) ?_
      exact⟨(),trivial,eL⟩
     |false=>
      refine js [(49,false)] [.ret (B fb)] rfl (by(repeat' (with_reducible apply fu));(all_goals first|exact zk _|((first|exact hb|exact C|omega)))) ?_
      exact⟨(),trivial,ao ⟨rfl,rfl,rfl,rfl,rfl,rfl,rfl,rfl,rfl,rfl,rfl,rfl,by show B _=B _;cases fb<;>rfl,trivial⟩⟩
    intro _ _
    cases s:(!ub&&fb)with
    |false=>
     rw[s,if_neg zq]at o
     rw[o,bA]at A
     refine ax rfl rfl (ay ?_)
     refine dS rfl ⟨zz,trivial⟩ ?_
     refine⟨(n+1,a,g),⟨by simp only;omega,by simp only;rw[A];exact t,ha⟩,by simp only;omega,aj (ar (by simp only;rw[A])) eL⟩
    |true=>
     rw[s,if_pos rfl]at o
     obtain⟨r,N⟩:=b1 o
     rw[o]at A
     have j:=z (n+1) (q n) r zz N t g
     have b3:ub=false:=by cases ub with
      |false=>rfl
      |true=>simp at s
     rw[Bj,if_neg zz,wZ,if_neg zz,Nat.add_sub_cancel,fx,<-A]at j
     refine aD rfl rfl<|lV [.gI 0] rfl ⟨⟨zz,zz⟩,⟨zz,zz⟩,⟨rfl,rfl,rfl,rfl,by show 0+((p.length:Nat):Int).toNat*1+1<=4;omega⟩,trivial⟩<|ae (aj (ar (H':=TT d os es l bt bn (aM (p++[n+1]))++W .go (aQ f (q n) x0).2 g) ?_) (ao (l:=Y5 d os es l bt bn p [(39,lE d.cs),(40,I d.cs.length),(41,I n),(12,I n)]) ⟨rfl,rfl,rfl,rfl,rfl,rfl,rfl,rfl,rfl,rfl,rfl,rfl,trivial⟩)) ?_
     ·show (bt,cP.cells _ (bK (iz a) (0+p.length*1) [I (((n+1:Nat)):Int)]))::_=_
      rw[xQ _ _ T,Fs rfl ha]
      rfl
     have b7:(2:Nat)^n<=8:=by
      have:=ap (n:=2) zz (show n<=3 from zz)
      omega
     have V:(1:Int)*2^((n:Nat):Int).toNat=((2^n:Nat):Int):=zj
     have a4:(0:Int)<=1*2^((n:Nat):Int).toNat:=by rw[V];exact c8 _
     have O:(1:Int)*2^((n:Nat):Int).toNat<9223372036854775808:=by rw[V];omega
     refine aa (xh [] [.at 1] rfl ⟨rfl,⟨zz,zz⟩,⟨zz,zz,zz,O⟩,⟨⟨zz,zz⟩,a4,O⟩,trivial⟩ ?_)
     have eU:((((mJ p:Nat):Int).toNat ||| ((1:Int)*2^((n:Nat):Int).toNat).toNat:Nat):Int)=((mJ p ||| 2^n:Nat):Int):=by rw[V,bi,bi]
     rw[<-eU]at j
     refine ai (bP (Hin:=TT d os es l bt bn (aM (p++[n+1]))++W .go (aQ f (q n) x0).2 g) (H0:=[]) rfl (show il ad 374 _ _ _ from j) rfl rfl (aK _) zj ?_)
     rintro res a0 ⟨a2,g2,rfl,rfl,a8⟩
     refine eZ rfl ?_
     cases G:(aQ f (q (n+1)) x0).1.on with
     |false=>
      have u:(aQ f (q (n+1)) x0).1≠.go:=λe=>by rw[e]at G;cases G
      refine ax rfl rfl<|ae (ar (bA _))<|aC rfl ?_
      rw[v (n+1) hc u]
      refine ab (Lu l bt bn W ?_ (λe=>absurd e u))
      show B false=B _
      rw[<-G]
     |true=>
      have D:=NQ.1 G
      refine aD rfl rfl<|dS rfl ⟨zz,trivial⟩ ?_
      refine⟨(n+1,a2,g2),⟨by simp only;omega,D,λi hi=>?_⟩,by simp only;omega,aj (ar ?_) eL⟩
      ·simp only
       rw[a8 D,jB]
       by_cases e:i<p.length
       ·rw[if_pos e]
       ·rw[if_neg e,if_neg hi,mv p e]
      ·simp only
       rw[D,bA]
   ·simp only[nL]at hc
    have e:n=d.cs.length:=zz
    subst e
    exact ay ⟨(a,g),⟨t,ha⟩,eL⟩
  ·rintro⟨a,g⟩ ⟨t,ha⟩
   refine lV [.gI 0] rfl ⟨⟨zz,zz⟩,⟨rfl,rfl,rfl,rfl,by show 0+((p.length:Nat):Int).toNat*1+1<=4;omega⟩,trivial⟩<|ae (ar (H':=TT d os es l bt bn (aM p)++W .go (aQ f (q d.cs.length) x0).2 g) ?_) ?_
   ·show (bt,cP.cells _ (bK (iz a) (0+p.length*1) [I (0:Nat)]))::_=_
    rw[xQ _ _ T,Io rfl ha]
    rfl
   refine aC rfl ?_
   have N: ∀env:Env,env 11=B true->wM ad [.tmp 11] (TL d os es l bt bn W p (aQ f (q d.cs.length) x0)) .ret env (TT d os es l bt bn (aM p)++W .go (aQ f (q d.cs.length) x0).2 g) []:=by
    intro env a5
    have:=Lu (d:=d) (os:=os) (es:=es) l bt bn W (p:=p) (res:=aQ f (q d.cs.length) x0) (env:=env) (a:=aM p) (g:=g) (by rw[t,a5];rfl) (λ_=>rfl)
    rwa [t]at this
   exact ab (N _ rfl)
end
theorem KU (d:kK)(os:List (List AV))(es:List (Value×AV)):Ev ad 346 [Cf d os es] (.fn (.func 372) [] [.pi [Cf d os es]]):=by refine ak afm.ok<|bc [.bW] rfl ⟨⟨rfl,rfl⟩,trivial⟩<|aC rfl<|ab (aB ?_);rfl
section
variable {d:kK} (ok:d.OK) {os:List (List AV)} {es:List (Value×AV)} (K:qC d es) (l:Nat) {X M:Type} (f:X->List Nat->J×X) (W:J->X->M->Heap) (x0:X)
include ok K
theorem FQ (hy:Yt l f W x0 (dp d))(g:M):il ad 372 [Yv l,.pi [Cf d os es]] (W .go x0 g) (λ_ Ho=> ∃b:M,Ho=W (aQ f (dp d) x0).1 (aQ f (dp d) x0).2 b):=by
 refine bq agW.ok<|bc [.bW] rfl ⟨⟨rfl,rfl⟩,trivial⟩<|bc [.aI] rfl ⟨rfl,trivial⟩<|bM (t:=3) rfl λa=>bc [.aI] rfl ⟨rfl,⟨rfl,rfl,rfl,bs 1⟩,trivial⟩<|ae (aq (t:=4) rfl)<|bc [.aI] rfl ⟨rfl,trivial⟩<|bM (t:=5) rfl λbn=>lV [.gI 0] rfl ⟨⟨rfl,rfl,rfl,rfl,bs 1⟩,trivial⟩<|ae (aj (ar (H':=(bn,.cells 482 [Tq d os es l a bn])::(a,.cells 415 (iz (aM [])))::W .go x0 g) rfl) (cd (H':=TT d os es l a bn (aM [])++W .go x0 g) (fk _ _ _)))<|av<|lz [.at 1] 1 rfl rfl ⟨rfl,trivial⟩ ?_;have hs:dp d=cK (jC d) d.hs.length []:=rfl
 refine ai (bP (Hin:=TT d os es l a bn (aM [])++W .go x0 g) (H0:=[]) rfl
  (show il ad 374 _ _ _ from Pk ok K l a bn f W x0 hy d.hs.length [] [] [] zj (λk hk=>by cases hk) (by rw[hs];simp) rfl g) rfl rfl (aK _) zj ?_)
 rintro res c ⟨e,b,rfl,rfl,_⟩;refine bh ?_;rw[e7,<-hs]
 exact⟨.inl rfl,_,.bZ [],W (aQ f (dp d) x0).1 (aQ f (dp d) x0).2 b,rfl,.many zq trivial,⟨b,rfl⟩,zx⟩
end
theorem gh {d:kK}{t:List Nat}(h:t∈dp d):t.length=d.hs.length:=by have:=yd _ _ _ _ h;simpa using this
theorem qG {d:kK}{t:List Nat}(h:t∈dp d): ∀k∈t,k<=d.cs.length:=
 xz _ (λk=>k<=d.cs.length) (λ_ _ hk=>Wf hk) _ _ (λk hk=>by cases hk) _ h
theorem LN {n:Nat}{p q:List Nat}(a:p.length=n)(b:q.length=n)(h: ∀i,i<n->aM p i=aM q i):p=q:=by
 apply List.ext_getElem?;intro k;by_cases hk:k<n
 ·rw[qY (p:=p) zz,qY (p:=q) zz,h k hk]
 ·grind
theorem DK {n:Nat}(h4:n<=4){p q:List Nat}(e:p.length=n)(f:q.length=n)(h:iz (aM p)=iz (aM q)):p=q:=by
 refine LN e f ?_;simp only[iz,bI,AV.v.injEq,c7,true_and,cD,and_true]at h;obtain⟨a,b,c,d⟩:=h;intro i hi;match i with
 |0=>exact a
 |1=>exact b
 |2=>exact c
 |3=>exact d
 |i+4=>omega
section
theorem aJ.Ud {d:kK}(ok:d.OK){os:List (List AV)}{es:List (Value×AV)}(K:qC d es){N:Nat}{X M:Type}(f:X->List Nat->J×X)(U:X->M->Heap)(x0:X)(A:M){env:Env}{H H0:Heap}{D:List Nat}{Q:cI}{fo:Operand}{ps:List Nat}{la G:bN}(env0:Env)
  (hx:bu env fo= .fn (.func 372) [] [.pi [Cf d os es]]) (T:H=U x0 A++H0) (R: ∀u,env0 u= .any\/(env0 u=env u/\(env u).bC=false)) (x: ∀u∈ps,u<N) (w:ps.length=2)
  (c: ∀l a p b (m:M),dp d=a++p::b->(aQ f a x0).1= .go->
    aJ ad (some l) N la (λe env' H' C=>e= .normal/\aJ ad (some l) N G (λe _ H' _=>e=(f (aQ f a x0).2 p).1.ex/\ ∃h:M,(U (f (aQ f a x0).2 p).2 h).Sublist H') env' H' C) (ri ps [.agg (iz (aM p)),I (dc p:Nat)] env0) (U (aQ f a x0).2 m) [])
  (k: ∀(h:M) L,Q (aQ f (dp d) x0).1.ex env ((L,.iV)::(U (aQ f (dp d) x0).2 h++H0)) (L::D)):aJ ad none N (.wP fo ps la G) Q env H D:=by
 refine aJ.CD (X:=X×M) (HS:=λy=>U y.1 y.2) (H0:=H0) (x0,A)
  (λj y=>j=(aQ f (dp d) x0).1/\y.1=(aQ f (dp d) x0).2)
  (λy args=> ∃a p b,dp d=a++p::b/\(aQ f a x0).1= .go/\y.1=(aQ f a x0).2/\args=[.agg (iz (aM p)),I (dc p:Nat)])
  (λy args j B=> ∀p,p.length=d.hs.length->args=[.agg (iz (aM p)),I (dc p:Nat)]->j=(f y.1 p).1/\B.1=(f y.1 p).2)
  env0 hx T R x ?_ ?_ ?_
 ·rintro l ⟨z,m⟩ args ⟨a,p,b,i,g,F,rfl⟩
  simp only at F ⊢
  subst F
  refine⟨by simp [w],(c l a p b m i g).mono ?_⟩
  rintro e env' H' C ⟨rfl,W⟩
  refine⟨rfl,W.mono ?_⟩
  rintro e s P O ⟨rfl,h,o⟩
  refine⟨_,(_,h),rfl,λY v he=>?_,o⟩
  simp only[bI,AV.agg.injEq]at he
  rw[DK ok.h4 (gh (t:=p) (by rw[i];simp)) v zx]
  exact⟨rfl,rfl⟩
 ·intro l lo S
  have n:Yt l f (λj y m=>(l,lo j)::U y m) x0 (dp d):=by
   intro a p b i g m
   refine zX.perm (S ((aQ f a x0).2,m) _ ⟨a,p,b,i,g,rfl,rfl⟩) (fj _) ?_
   rintro r Ho ⟨j,B,V,rfl,rfl⟩
   obtain⟨q,E⟩:=V p (gh (by rw[i];simp)) rfl
   simp only at q E
   refine⟨_,fj _,B.2,by rw[q],?_⟩
   rw[q,E]
  refine(FQ ok K l f _ x0 n A).mono ?_
  rintro r Ho ⟨h,rfl⟩
  exact⟨_,((aQ f (dp d) x0).2,h),⟨rfl,rfl⟩,rfl⟩
 ·grind
end
theorem vm (ext:List Nat->List Nat)(b:Nat)(h: ∀p,(ext p).length<=b): ∀(m:Nat) (p:List Nat),(cK ext m p).length<=b^m
 |0,p=>by simp [cK]
 |m+1,p=>by
  have key: ∀l:List Nat,(l.flatMap λk=>cK ext m (p++[k])).length<=l.length*b^m:=by
   intro l
   induction l with
   |nil=>simp
   |cons k l a=>
    rw[List.flatMap_cons,bk,be,Nat.succ_mul]
    have:=vm ext b h m (p++[k])
    omega
  refine ea (key (ext p)) ?_
  rw[Nat.pow_succ,Nat.mul_comm (b^m)]
  exact Nat.mul_le_mul_right _ (h p)
theorem wQ {d:kK}(ok:d.OK):(dp d).length<=625:=by
 have h4:=ok.h4;have c4:=ok.c4;refine ea (vm (jC d) 5 (λp=>?_) d.hs.length []) ?_
 ·unfold jC;rw[be,cb];have:=ej (λc=> !p.contains (c+1)&&sX d p.length c) (az d.cs.length);rw[eS]at this;omega
 ·exact ap zz h4
abbrev zb (x:List (List Nat)×Nat)(t:List Nat):J×(List (List Nat)×Nat):=(.go,oU x t)
theorem wJ {X:Type}(f:X->List Nat->X): ∀(L:List (List Nat)) (x:X),aQ (λx t=>(J.go,f x t)) L x=(.go,L.foldl f x)
 |[],_=>rfl
 |t::L,x=>by
  simp only[aQ]
  exact wJ f L (f x t)
structure Di (n:Nat)(L:List (List Nat))(x:List (List Nat)×Nat):Prop where
 nil:x.1=[]->x.2=n+1
 le:x.2<=n+1
 mem: ∀t∈x.1,t∈L
 len:x.1.length<=L.length
theorem AS {n:Nat}{L:List (List Nat)}{x:List (List Nat)×Nat}(h:Di n L x)(t:List Nat)(c:dc t<=n):Di n (L++[t]) (oU x t):=by
 unfold oU;by_cases a:dc t<x.2
 ·rw[if_pos a];exact⟨(λe=>by cases e),zx,(λs hs=>zx),zj⟩
 ·rw[if_neg a];by_cases b:dc t=x.2/\x.1.getLast? ≠some t
  ·rw[if_pos b];refine⟨(λe=>by simp at e),h.le,λs hs=>?_,by simp only[bk,List.length_singleton];have:=h.len;omega⟩;rcases e6.1 hs with hs|hs
   ·exact er _ (h.mem s hs)
   ·simp only[de]at hs;subst hs;simp
  ·rw[if_neg b];exact⟨h.nil,h.le,λs hs=>er _ (h.mem s hs),by rw[bk];have:=h.len;omega⟩
theorem oC (n:Nat): ∀(L a:List (List Nat)) (x:List (List Nat)×Nat),Di n a x->(∀t∈L,t.length=n)->Di n (a++L) (L.foldl oU x)
 |[],a,x,h,_=>by rw[bA];exact h
 |t::L,a,x,h,hl=>by
  have:=oC n L (a++[t]) (oU x t) (AS h t (by rw[<-hl t zj];exact en)) (λs hs=>hl s (by simp [hs]))
  simpa using this
theorem oD (n:Nat):Di n [] ([],n+1):=⟨λ_=>rfl,bs _,(λt a=>by cases a),zj⟩
abbrev Mv (p:List Nat):Value:=.agg #[.int .i64 (aM p 0:Nat),.int .i64 (aM p 1:Nat),.int .i64 (aM p 2:Nat),.int .i64 (aM p 3:Nat)]
theorem ET {p:List Nat}{n:Nat}(h: ∀k∈p,k<=n)(i:Nat):aM p i<=n:=by
 unfold aM;cases e:p[i]? with
 |none=>simp
 |some k=>exact h k (cB e)
theorem WO {p:List Nat}(h: ∀k∈p,k<=4):bJ ad 5 415 (Mv p):=by
 have b:ad.cellsOf 415=4:=zw
 have c:ad.cellsOf 3=1:=zw
 have a: ∀i,(ho .i64 (aM p i:Nat)).wf=true:=λi=>nj zz (by have:=ET h i;omega);refine⟨?_,[.int .i64 (aM p 0:Nat),.int .i64 (aM p 1:Nat),.int .i64 (aM p 2:Nat),.int .i64 (aM p 3:Nat)],?_⟩
 ·simp [fy,eM,b]
 ·simp [gx,e9,eM,e3,b,c,a 0,a 1,a 2,a 3,cc]
theorem UW {t:Nat}{a b:Operand}{env:Env}{H:Heap}{p q:List Nat}(ha:bu env a= .agg (iz (aM p)))(h:bu env b= .agg (iz (aM q)))(l: ∀k∈p,k<=4)(o: ∀k∈q,k<=4){n:Nat}(h4:n<=4)(i:p.length=n)(j:q.length=n):
  ∀(r:Option Nat) (N:Nat) (D:List Nat),Q1 ad r N (.nI true 415 a b) (some t) env H D [(t,B (!decide (p=q)))]:=by
 intro r N D
 exact aF.nI (neg:=true) (m:=5) (DD:=5) zq zw zw zw zw (u:=Mv p) (v:=Mv q) (by rw[ha];rfl) (by rw[h];rfl) (WO l) (WO o) (decide (p=q)) (by
  rw[decide_eq_true_iff]
  constructor
  ·grind
  ·intro e
   refine DK h4 i j ?_
   simp only[Mv,fe,ff,bI,c7,true_and,cD,and_true]at e
   obtain⟨c,d,f,g⟩:=e
   simp only[iz,c,d,f,g]) ⟨rfl,rfl,rfl⟩
theorem J4 (b:Nat):Ev ad 284 [.po b 0] (.fn (.func 333) [] [.pi [.po b 0]]):=by refine ak agO.ok<|bc [.bW] rfl ⟨⟨rfl,rfl⟩,trivial⟩<|aC rfl<|ab (aB ?_);rfl
theorem GN {m:iX}(ok:m.OK){came b g l:Nat}{lo:cP}(c:came<9223372036854775808)(hy:YM m came b g l lo (aY m came)):
  il ad 333 [Yv l,.pi [.po b 0]] ((l,lo)::LB m came b g []) (λ_ Ho=>Ho=(l,lo)::LB m came b g (aY m came)):=by
 refine bq ad7.ok<|bc [.bW] rfl ⟨⟨rfl,rfl⟩,trivial⟩<|bc [.aI] rfl ⟨rfl,trivial⟩<|bM (t:=3) rfl λa=>bc [.aI] rfl ⟨rfl,trivial⟩<|bM (t:=4) rfl λbn=>lV [.gI 0] rfl ⟨⟨rfl,rfl,rfl,rfl,bs 1⟩,trivial⟩<|ae (aj (ar (H':=(bn,.cells 172 [J7 b l a bn])::(a,.cells 245 (dh (aM [])))::(l,lo)::LB m came b g []) rfl) (cd (H':=MH m came b g l a bn lo (aM []) []) (fk _ _ _)))<|av<|lz [.at 1] 1 rfl rfl ⟨rfl,trivial⟩ ?_
 have hs:aY m came=cK (xu m came) m.su.length []:=rfl
 refine ai (bP (Hin:=MH m came b g l a bn lo (aM []) []) (H0:=[]) rfl
  (show il ad 334 _ _ _ from RV ok c hy m.su.length [] [] [] zj (by rw[hs];simp)) rfl rfl (aK _) zj ?_)
 rintro res d ⟨rfl,rfl⟩
 refine bh ?_
 rw[e7,<-hs]
 exact⟨.inl rfl,_,.bZ [],(l,lo)::LB m came b g (aY m came),rfl,.many zq trivial,rfl,zx⟩
theorem kF {m:iX}{came:Nat}{t:List Nat}(h:t∈aY m came):t.length=m.su.length:=by have:=yd _ _ _ _ h;simpa using this
theorem oF {m:iX}{came:Nat}{t:List Nat}(h:t∈aY m came): ∀k∈t,k<m.cl.length:=
 xz _ (λk=>k<m.cl.length) (λ_ _ hk=>TV hk) _ _ (λk hk=>by cases hk) _ h
theorem IX (m:iX)(came:Nat)(p:List Nat):(xu m came p).Nodup:=hf List.filter_sublist List.nodup_range
theorem Cc (m:iX)(came:Nat):(aY m came).Nodup:=by have:=(yA (xu m came) (IX m came) m.su.length).1;rwa [LP]at this
theorem NL {n:Nat}(g:n<=5){p q:List Nat}(e:p.length=n)(f:q.length=n)(h:dh (aM p)=dh (aM q)):p=q:=by refine LN e f ?_;simp only[dh,bI,AV.v.injEq,c7,true_and,cD,and_true]at h;obtain⟨a,b,c,d,h4⟩:=h;intro i hi;exact Z2 (C:=λi=>aM p i=aM q i) a b c d h4 zz
theorem Dw {n:Nat}(g:n<=5){p q:List Nat}(h:p.length=n)(i:q.length=n)(e:vJ p=vJ q):p=q:=by refine NL g h i ?_;simp only[vJ,fe,ff,bI,c7,true_and,cD,and_true]at e;obtain⟨a,b,c,d,f⟩:=e;simp only[dh,a,b,c,d,f]
theorem Je {p:List Nat}{n:Nat}(h: ∀k∈p,k<n){i:Nat}(hi:i<p.length):aM p i<n:=
 h _ (cB (qY hi))
theorem Mo {p:List Nat}(h: ∀k∈p,k<=4):bJ ad 6 245 (vJ p):=by
 have b:ad.cellsOf 245=5:=zw
 have c:ad.cellsOf 3=1:=zw
 have a: ∀i,(ho .i64 (aM p i:Nat)).wf=true:=λi=>nj zz (by have:=ET h i;omega);refine⟨?_,[.int .i64 (aM p 0:Nat),.int .i64 (aM p 1:Nat),.int .i64 (aM p 2:Nat),.int .i64 (aM p 3:Nat),.int .i64 (aM p 4:Nat)],?_⟩
 ·simp [fy,ey,b]
 ·simp [gx,e9,ey,e3,b,c,a 0,a 1,a 2,a 3,a 4,cc]
theorem Ut:gO ad 245 (bJ ad 6 245):=gO.wide (m:=6) zq zw zw zw
def rb (m:iX)(more n:Nat):Nat:=(az n).foldl (λs i=>match m.wo[i]? with|some w=>if w.ca=true then s ||| 2^i else s|none=>s) more
theorem I7 {m:iX}{more n:Nat}{w:vA}(h:m.wo[n]? =some w):rb m more (n+1)=if w.ca=true then rb m more n ||| 2^n else rb m more n:=by unfold rb;rw[cc,dl,e5,fs,h]
theorem Bz {m:iX}{more:Nat}(hm:more<2^6): ∀n:Nat,n<=6->rb m more n<2^6
 |0,_=>hm
 |n+1,h=>by
  have a:=Bz (m:=m) hm n zz
  unfold rb at a ⊢
  rw[cc,dl,e5,fs]
  split
  ·split
   ·exact e1 a (eu zz zz)
   ·exact a
  ·exact a
theorem H7 (x:List (List Nat))(p:List Nat)(i:Nat):da (x++[p]) i=da x i ||| 2^aM p i:=by unfold da;rw[dl];rfl
theorem D0 {n:Nat}{x:List (List Nat)}{i:Nat}(h: ∀p∈x,aM p i<n):da x i<2^n:=by
 have key: ∀(x:List (List Nat)) (s:Nat),s<2^n->(∀p∈x,aM p i<n)->x.foldl (λs t=>s ||| 2^aM t i) s<2^n:=by
  intro x;induction x with
  |nil=>grind
  |cons p x b=>intro s hs h;exact b _ (e1 hs (eu zz (h p zj))) (λq a=>h q (by simp [a]))
 exact key x 0 (e8 n) h
abbrev jv (m:iX)(came:Nat)(g:Nat)(e:Nat->Nat):List AV:=m.enc++I came::.mo g::dh e
theorem Q8 (m:iX)(came g:Nat)(f:Nat->Nat)(v:Int):bK (jv m came g f) (0+4) [I v]=m.enc++I v::.mo g::dh f:=rfl
theorem Nz (m:iX)(came g:Nat)(f:Nat->Nat){k:Nat}(h:k<5):eX none ((jv m came g f).drop (6+k*1))=some (I (f k:Nat)):=
 Z2 (C:=λk=>eX none ((jv m came g f).drop (6+k*1))=some (I (f k:Nat))) rfl rfl rfl rfl rfl h
theorem NU (m:iX)(came g:Nat)(f:Nat->Nat)(v:Nat){k:Nat}(h:k<5):bK (jv m came g f) (6+k*1) [I (v:Nat)]=jv m came g (λj=>if j=k then v else f j):=
 Z2 (C:=λk=>bK (jv m came g f) (6+k*1) [I (v:Nat)]=jv m came g (λj=>if j=k then v else f j)) rfl rfl rfl rfl rfl h
theorem We {m:iX}{came:Nat}(s5:m.su.length<=5){x:List (List Nat)}{p:List Nat}{r:List (List Nat)}(c:aY m came=x++p::r):Av (x.map (IB m)) (vJ p) none:=by have a:=Cc m came;rw[c]at a;have f:p.length=m.su.length:=kF (came:=came) (by rw[c];simp);refine .none λe he=>?_;obtain⟨q,g,rfl⟩:=eT.1 he;intro d;have b:q.length=m.su.length:=kF (came:=came) zx;have:=Dw s5 b f d;subst this;rw[e0]at a;exact a.2.2 q g q zj rfl
theorem SI {m:iX}(ok:m.OK)(more:Nat)(hm:more<2^6):il ad 213 [.agg m.enc,I more] [] (λr _=>r=lp m (cT m more) (.mi ((aY m (cT m more)).map (IB m))::dh (B9 m (aY m (cT m more))))):=by
 have s5:=ok.s5;have c4:=ok.c4;have w6:=ok.w6;have V:((m.su.map nz.enc).length:Int)=m.su.length:=zj
 have W:((m.wo.map vA.enc).length:Int)=m.wo.length:=zj
 refine bq afW.ok<|bc [.bW] rfl ⟨⟨rfl,rfl⟩,trivial⟩<|aa (av ?_);refine kL 2 rfl rfl<|ai (aF.sU (λg=>?_));refine lz [.aI] 2 rfl rfl ⟨⟨rfl,rfl⟩,trivial⟩<|aT.fY (t:=14) rfl (λb=>?_);refine Sc [.aI] rfl ⟨rfl,⟨rfl,rfl,rfl,bs 1⟩,trivial⟩<|ae (aq (t:=5) rfl)<|ae (ar (H':=[(b,.cells 248 (jv m (rb m more 0) g (λ_=>0))),(g,.map [])]) rfl)<|aa (aa ?_);refine cC rfl<|bE True (el [(2,.pi m.enc),(5,.pi [.po b 0])]) [(b,.cells 248 (jv m (cT m more) g (λ_=>0))),(g,.map [])] [] ?_ ?_
 ·refine br (λk:Nat=>k<=m.wo.length) (λk=>el [(2,.pi m.enc),(5,.pi [.po b 0]),(16,oT m.wo),(17,I m.wo.length),(18,I k)]) (λk=>[(b,.cells 248 (jv m (rb m more k) g (λ_=>0))),(g,.map [])]) (λ_=>[]) (λk=>m.wo.length-k) 0 zz
   (ao ⟨rfl,rfl,rfl,by show I _=I _;simp,rfl,trivial⟩) ?_
  intro k hk;refine aC rfl<|aa (ag rfl (λhc=>?_) (λhc=>?_))
  ·simp only[nL]at hc;obtain⟨w,hx⟩:=aL hc;have S:=Bz (m:=m) hm k zz;have f:=I7 (more:=more) hx;refine af (aa (au ?_));refine bc [.cells w.enc,.aI] rfl ⟨⟨zz,by simp [hx]⟩,rfl,⟨rfl,rfl,rfl,zq⟩,trivial⟩<|ae (aq (t:=7) rfl)<|aa<|cC rfl ?_;cases M:w.ca with
   |false=>rw[M,if_neg zq]at f;refine aD rfl rfl<|dS rfl ⟨zz,trivial⟩ ?_;exact⟨k+1,hc,zz,aj (ar (by rw[f])) eL⟩
   |true=>
    rw[M,if_pos rfl]at f;have H:(2:Nat)^k<=32:=by have:=ap (n:=2) zz (show k<=5 from zz);omega
    have a:(1:Int)*2^((k:Nat):Int).toNat=((2^k:Nat):Int):=zj
    have c:(0:Int)<=1*2^((k:Nat):Int).toNat:=by rw[a];exact c8 _
    have d:(1:Int)*2^((k:Nat):Int).toNat<9223372036854775808:=by rw[a];omega
    refine ax rfl rfl<|xh [] [.at 0] rfl (by(and_intros);(all_goals first|exact zk _|((first|exact c|exact d))))<|aT.hd (gs:=[]) (hs:=[.gI 0]) rfl ⟨⟨rfl,rfl,rfl,rfl,by show 0+4+1<=11;decide⟩,trivial⟩<|dS rfl ⟨zz,trivial⟩ ?_;refine⟨k+1,hc,zz,aj (ar ?_) eL⟩;have D:((((rb m more k:Nat):Int).toNat ||| ((1:Int)*2^((k:Nat):Int).toNat).toNat:Nat):Int)=((rb m more k ||| 2^k:Nat):Int):=by rw[a,bi,bi]
    show [(b,cP.cells _ (bK (jv m (rb m more k) g (λ_=>0)) (0+4) [I ((((rb m more k:Nat):Int).toNat ||| ((1:Int)*2^((k:Nat):Int).toNat).toNat:Nat):Int)])),_]=_;rw[Q8,f,D]
  ·simp only[nL]at hc;have e:k=m.wo.length:=zz
   subst e;exact ay ⟨(),trivial,eL⟩
 ·intro _ _;have E:cT m more<2^6:=Bz hm m.wo.length w6;generalize cT m more=came at E;refine aa (aa ?_);refine iO [.ret (.fn (.func 333) [] [.pi [.po b 0]])] rfl ⟨J4 b,trivial⟩<|au<|aJ.wP (X:=List (List Nat)) (HS:=LB m came b g) (H0:=[]) [] (λx=>x=aY m came) (λx args N=> ∃p r,aY m came=x++p::r/\args=[.agg (dh (aM p))]/\N=x++[p]) (el [(2,.pi m.enc),(5,.pi [.po b 0])]) rfl ?_ (qP ⟨rfl,rfl,trivial⟩ rfl) zq ?_ ?_ ?_
  ·have P:B9 m []=λ_=>0:=by funext i;unfold B9 da;split<;>rfl
   show _=[(b,_),(g,_)];rw[P];rfl
  ·rintro l x args N ⟨p,r,y,rfl,rfl⟩;refine⟨rfl,?_⟩;have L:p∈aY m came:=by rw[y];simp
   have U:=kF L;have u:=oF L;have s: ∀i,i<m.su.length->aM p i<4:=λi hi=>by have:=Je u (i:=i) zz;omega
   have z:=Xz ok came (.mo g::dh (B9 m x)) (aM p) s;refine iO [.aI] rfl ⟨rfl,⟨rfl,rfl,rfl,bs 5⟩,trivial⟩ ?_;refine⟨rfl,?_⟩;refine ae (aq (t:=8) rfl)<|gm [(2,.pi m.enc),(5,.pi [.po b 0]),(8,.pi (dh (aM p)))]<|au<|aa (xh [] [.at 0,.Fq [lp m came (.mo g::dh (B9 m x)),.agg (dh (aM p))] (.agg (xX (uv m (aM p) m.su.length)))] rfl ⟨rfl,⟨z,rfl,.po (i:=0) rfl,.refl _,trivial⟩,trivial⟩ ?_);have G: ∀e∈x.map (IB m),bJ ad 6 245 e.1:=by intro e he;obtain⟨q,J,rfl⟩:=eT.1 he;exact Mo (λk hk=>by have:=oF (m:=m) (came:=came) (t:=q) (by rw[y];simp [J]) k hk;omega)
   refine ai (aF.iI (n:=1) Ut rfl rfl (kv:=vJ p) rfl (Mo (λk hk=>by have:=u k hk;omega)) G (We s5 y) rfl rfl ?_);refine bh ?_;let h:Nat->Nat->Nat:=λn i=>if i<n then B9 m (x++[p]) i else B9 m x i
   refine ae (aj (ar (H':=[(b,.cells 248 (jv m came g (h 0))),(g,.map ((x++[p]).map (IB m)))]) ?_) (ao (l:=[(2,.pi m.enc),(5,.pi [.po b 0]),(8,.pi (dh (aM p)))]) ⟨rfl,rfl,rfl,trivial⟩)) ?_
   ·show [_,(g,cP.map (km (x.map (IB m)) _ _ none))]=_;rw[cR];rfl
   refine aC rfl<|au<|br (λk:Nat=>k<=m.su.length) (λk=>el [(5,.pi [.po b 0]),(8,.pi (dh (aM p))),(48,I m.su.length),(49,I k)]) (λk=>[(b,.cells 248 (jv m came g (h k))),(g,.map ((x++[p]).map (IB m)))]) (λ_=>[]) (λk=>m.su.length-k) 0 zz
    (ao ⟨rfl,rfl,by show I _=I _;simp,rfl,trivial⟩) ?_
   intro k hk;refine aC rfl<|aa (ag rfl (λhc=>?_) (λhc=>?_))
   ·simp only[nL]at hc;have F:h k k=da x k:=by show (if k<k then _ else B9 m x k)=_;rw[if_neg zz];unfold B9;rw[if_pos hc]
    have R:da x k<2^4:=D0 (λq J=>by
     have B:q∈aY m came:=by rw[y];simp [J]
     have:=Je (oF B) (i:=k) (by rw[kF B];exact hc)
     omega)
    have T:=s k hc;have H:(2:Nat)^aM p k<=8:=by have:=ap (n:=2) zz (show aM p k<=3 from zz);omega
    have a:(1:Int)*2^((aM p k:Nat):Int).toNat=((2^aM p k:Nat):Int):=zj
    have c:(0:Int)<=1*2^((aM p k:Nat):Int).toNat:=by rw[a];exact c8 _
    have d:(1:Int)*2^((aM p k:Nat):Int).toNat<9223372036854775808:=by rw[a];omega
    have o:=Nz m came g (h k) (k:=k) zz;rw[F]at o;have A:=nM (aM p) (k:=k) zz;refine af (aa (au ?_));refine aC rfl<|xh [] [.O1 0 (I (da x k:Nat)),.pre [I (aM p k:Nat)]] rfl (by(and_intros);(all_goals first|exact zk _|((first|exact c|exact d|exact o|exact A))))<|aT.hd (gs:=[]) (hs:=[.gI 0]) rfl ⟨⟨rfl,rfl,rfl,rfl,by show 6+((k:Nat):Int).toNat*1+1<=11;omega⟩,trivial⟩<|dS rfl ⟨zz,trivial⟩ ?_;refine⟨k+1,hc,zz,aj (ar ?_) eL⟩;have D:((((da x k:Nat):Int).toNat ||| ((1:Int)*2^((aM p k:Nat):Int).toNat).toNat:Nat):Int)=((da (x++[p]) k:Nat):Int):=by rw[a,bi,bi,H7]
    show [(b,cP.cells _ (bK (jv m came g (h k)) (6+k*1) [I ((((da x k:Nat):Int).toNat ||| ((1:Int)*2^((aM p k:Nat):Int).toNat).toNat:Nat):Int)])),_]=_;rw[D,NU _ _ _ _ _ zz]
    have C:(λj=>if j=k then da (x++[p]) k else h k j)=h (k+1):=by
     funext j;show _=if j<k+1 then _ else _
     by_cases e:j=k
     ·subst e;rw[if_pos rfl,if_pos zz];unfold B9;rw[if_pos hc]
     ·rw[if_neg e];show (if j<k then _ else _)=_;by_cases v:j<k
      ·rw[if_pos v,if_pos zz]
      ·rw[if_neg v,if_neg zz]
    rw[C]
   ·simp only[nL]at hc;have e:k=m.su.length:=zz
    subst e
    have C:h m.su.length=B9 m (x++[p]):=by
     funext j;show (if j<m.su.length then _ else _)=_;by_cases v:j<m.su.length
     ·rw[if_pos v]
     ·rw[if_neg v];unfold B9;rw[if_neg v,if_neg v]
    rw[C];exact ay ⟨rfl,eP _⟩
  ·intro l lo Q;refine(GN ok zz (λK p O y=>Q K _ (K++[p]) ⟨p,O,y,rfl,rfl⟩)).mono ?_;rintro r Ho rfl;exact⟨_,rfl,rfl⟩
  ·rintro _ Y rfl;show aJ _ _ _ _ _ _ _ _;refine ae (ar (H':=[(Y,.iV),(b,.cells 248 (jv m came g (B9 m (aY m came)))),(g,.map ((aY m came).map (IB m)))]) zj)<|aC rfl<|gm [(4,.po b 0)]<|ae (bB.iA (i:=1) 4 rfl rfl)<|ae (aj (ao (l:=[(4,.pi (jv m came g (B9 m (aY m came))))]) ⟨rfl,trivial⟩) (bB.lN (i:=1) (t:=4) (b:=g) (es:=(aY m came).map (IB m)) rfl rfl))<|ae (ao (l:=[(4,lp m came (.mi ((aY m came).map (IB m))::dh (B9 m (aY m came))))]) ⟨by show AV.pi _=_;simp [Cn],trivial⟩) ?_;exact ab ⟨.inr rfl,_,_,[],⟨0,rfl,rfl⟩,.one (.tmp rfl rfl),rfl,an _⟩
theorem nK {f:Nat->Int}{n a:Nat}(h:(cL f n a).2=0):n<=a/\ ∀j,j<n->f j=0:=by grind [cL,eQ]
theorem pq {lo hi v:Int}(h:ah lo hi [v]=false):lo<=v/\v<=hi:=by have:=mt cF.2 (by rw[h];decide: ¬ah lo hi [v]=true);omega
theorem JX {m:iX}(g:m.wf)(h:(eK m).2.2=0):m.OK:=by
 unfold eK at h;by_cases f:(cL (eA m.cl) m.cl.length 4).2≠0
 ·grind
 rw[if_neg f]at h;by_cases d:(cL (vr m) m.su.length 5).2≠0
 ·grind
 rw[if_neg d]at h;by_cases e:(cL (wF m) m.wo.length 6).2≠0
 ·grind
 rw[if_neg e]at h;by_cases h4:(cL (vY m) m.pa.length 5).2≠0
 ·grind
 obtain⟨n1,f1⟩:=nK (cr.1 f);obtain⟨j,f2⟩:=nK (cr.1 d);obtain⟨k,f3⟩:=nK (cr.1 e);obtain⟨n4,f4⟩:=nK (cr.1 h4);have c: ∀{α:Type} {l:List α} {x:α},x∈l-> ∃i,i<l.length/\l[i]? =some x:=by intro α l x hx;obtain⟨i,hi⟩:=List.mem_iff_getElem?.1 hx;exact⟨i,(dk.1 hi).1,hi⟩
 refine⟨g,n1,j,k,n4,?_,?_,?_⟩
 ·intro x hx;obtain⟨i,hi,hx⟩:=c hx;have:=f2 i hi;unfold vr at this;rw[hx]at this;simp only at this;split at this
  ·cases this
  split at this
  ·cases this
  split at this
  ·cases this
  rename_i a;simp only[ec,not_or,dn]at a;have:=pq a.1;have:=pq a.2;omega
 ·intro w hx;obtain⟨i,hi,hx⟩:=c hx;have:=f3 i hi;unfold wF at this;rw[hx]at this;simp only at this;by_cases a:ah 0 3 [w.sa]=true
  ·grind
  rw[if_neg a]at this;by_cases b:(ah 0 ((m.su.length:Int)-1) [w.su]||ah 0 ((if 2<=w.sa then(m.su.length:Int)else m.cl.length)-1) [w.of]||ah (-1) ((m.wo.length:Int)-1) [w.ba])=true
  ·grind
  simp only[ec,not_or,dn]at a b;have:=pq a;have d:=pq b.1.1;have e:=pq b.1.2;have:=pq b.2;refine⟨zz,zz,zz,zz,zz,λh=>?_,λh=>?_,zz,zz⟩
  ·grind
  ·grind
 ·intro p hx;obtain⟨i,hi,hx⟩:=c hx;have:=f4 i hi;unfold vY at this;rw[hx]at this;simp only at this;split at this
  ·cases this
  rename_i a;simp only[ec,not_or,dn]at a;have:=pq a.1;have:=pq a.2;omega
abbrev Y2 (m:iX):AV:=lp m (cT m 0) (.mi ((aY m (cT m 0)).map (IB m))::dh (B9 m (aY m (cT m 0))))
theorem yc {m:iX}(g:m.wf)(below:Int)(h:0<=below)(b:below<=9223372036854775807)(l:List Int):il ad 139 [.agg m.enc,I below,ints l] [] (λr _=>(gQ m below l=0/\r= .bZ [Y2 m,I 0])\/(gQ m below l≠0/\r= .bZ [.v (.pointer none),I (gQ m below l)])):=by
 have hc:=CW m g;have f:=ij 0 (below-1) l;have a:gQ m below l=if (eK m).2.2≠0 then(eK m).2.2 else if ah 0 (below-1) l=true then 4 else if (aY m (cT m 0)).isEmpty=true then 8 else 0:=rfl
 refine bq aer.ok<|bc [.bW] rfl ⟨⟨rfl,rfl⟩,trivial⟩<|bc [.ret (.bZ [I (eK m).1,I (eK m).2.1,I (eK m).2.2])] rfl ⟨hc,trivial⟩ ?_;generalize ah 0 (below-1) l=bb at f a;refine cX ((eK m).2.2=0/\bb=false) (el [(3,.pi m.enc)]) [] [] ?_ ?_
 ·refine aC rfl ?_;by_cases b:(eK m).2.2=0
  case neg=>rw[if_pos b]at a;refine ax rfl zx<|aC rfl ?_;exact ab ⟨.inr rfl,_,.bZ [.v (.pointer none),I (eK m).2.2],[],rfl,.many zq ⟨.tmp rfl rfl,.tmp rfl rfl,trivial⟩,.inr ⟨zx,by rw[a]⟩,an _⟩
  rw[if_neg (by simp [b])]at a;refine cJ rfl (by rw[b];rfl)<|bc [.ret (B bb)] rfl ⟨⟨zz,zz⟩,f,trivial⟩ ?_;cases bb with
  |true=>rw[if_pos rfl]at a;refine ax rfl rfl<|aC rfl ?_;exact ab ⟨.inr rfl,_,.bZ [.v (.pointer none),I 4],[],rfl,.many zq ⟨.tmp rfl rfl,.tmp rfl rfl,trivial⟩,.inr ⟨by rw[a];decide,by rw[a]⟩,an _⟩
  |false=>exact aD rfl rfl ⟨(),⟨b,rfl⟩,eL⟩
 ·rintro _ ⟨b,rfl⟩;rw[if_neg (by simp [b]),if_neg zq]at a;refine aa (av ?_);refine kL 1 rfl rfl<|ai (bU (Hin:=[]) (H0:=[]) (SI (JX g b) 0 zq) rfl rfl (aK _) rfl ?_);rintro r Ho rfl;refine aG (du (H':=[]) (an _))<|eZ rfl<|aa (aa (av ?_));refine kL 4 rfl rfl<|ai (aF.aau rfl ?_);refine eZ rfl ?_;have d:(((aY m (cT m 0)).map (IB m)).length:Int)=(aY m (cT m 0)).length:=zj
  cases c:(aY m (cT m 0)).isEmpty with
  |true=>rw[c,if_pos rfl]at a;refine ax rfl (by rw[beq_iff_eq,d,List.isEmpty_iff.1 c];rfl)<|aC rfl ?_;exact ab ⟨.inr rfl,_,.bZ [.v (.pointer none),I 8],[],rfl,.many zq ⟨.tmp rfl rfl,.tmp rfl rfl,trivial⟩,.inr ⟨by rw[a];decide,by rw[a]⟩,an _⟩
  |false=>rw[c,if_neg zq]at a;refine aD rfl (by rw[beq_eq_false_iff_ne,d];intro e;rw[List.isEmpty_eq_false_iff]at c;exact c (ds.1 zz))<|aC rfl ?_;exact ab ⟨.inr rfl,_,.bZ [Y2 m,I 0],[],rfl,.many zq ⟨.tmp rfl rfl,.tmp rfl rfl,trivial⟩,.inl ⟨a,rfl⟩,an _⟩
theorem tq {m:iX}(a:m.wf){below:Int}{l:List Int}(h:gQ m below l=0):m.OK/\ah 0 (below-1) l=false/\aY m (cT m 0)≠[]:=by grind [gQ,eK,ah,JX]
theorem O5 {m:iX}{i:Nat}{L:List (List Nat)}(h:L≠[]):0<da L i:=by
 obtain⟨p,a,rfl⟩: ∃p a,L=p::a:=by cases L with|nil=>exact absurd rfl h|cons p a=>exact⟨p,a,rfl⟩
 have key: ∀(x:List (List Nat)) (s:Nat),0<s->0<x.foldl (λs t=>s ||| 2^aM t i) s:=by
  intro x;induction x with
  |nil=>grind
  |cons q x b=>grind
 exact key a _ (ew (e8 _) Nat.right_le_or)
theorem Ug {m:iX}(came:Nat)(es:List (Value×AV))(e:Nat->Nat)(i:Nat)(hi:i<5)(a:0<e i)(b:e i<2^60):Ev ad 317 [lp m came (.mi es::dh e),I i] (B (te (e i))):=by
 refine ak agb.ok<|aC rfl<|vj [] [.pre [I (e i:Nat)],.pre [I (e i:Nat)]] rfl (by(and_intros);(all_goals first|exact zk _|((exact nM e hi))))<|ab (aB ?_);show B _=B _;refine congrArg B ?_;unfold te;rw[Bool.eq_iff_iff,beq_iff_eq,beq_iff_eq];have:(((e i:Nat):Int)-1).toNat=e i-1:=zz
 rw[this];simp
theorem Ip (set:Int)(n:Nat)(a:0<=set)(f:set<9223372036854775808)(g:n<=60):Ev ad 318 [I set,I n] (.aI 3 1 ((cM set n).map λx=>[I x])):=by
 refine ak afI.ok<|aC rfl<|aa (aa ?_);refine cC rfl<|bE True (el [(4,.aI 3 1 ((cM set n).map λx=>[I x]))]) [] [] ?_ ?_
 ·refine dE (λk:Nat=>k<=n) (λk=>el [(0,I set),(4,.aI 3 1 ((cM set k).map λx=>[I x])),(6,I n),(7,I k)]) (λk=>n-k) 0 zz
   (aj (bB.ln (t:=4) 3 1 rfl) eL) ?_
  intro k hk;refine aC rfl<|aa (ag rfl (λhc=>?_) (λhc=>?_))
  ·simp only[nL]at hc;have d:0<=set/2^((k:Nat):Int).toNat:=e4 a (fv (fD zz));have e:set/2^((k:Nat):Int).toNat<=set:=e2 _ a;refine af (aa (au ?_));refine aC rfl<|aa<|dS rfl ⟨⟨a,zz,zz⟩,⟨⟨d,zz⟩,zz,zz⟩,trivial⟩<|ag (b:=cN set k) rfl (λc=>?_) (λc=>?_)
   ·have hl:=nG set k;refine iO [.bW] rfl ⟨rfl,⟨by simp only[cb,chunk,be,bm];omega,by simp only[cb,chunk,be,bm];omega⟩,trivial⟩<|dS rfl ⟨zz,trivial⟩ ?_;refine⟨k+1,hc,zz,ao ⟨rfl,?_,rfl,rfl,trivial⟩⟩;show AV.aI 3 1 _=AV.aI 3 1 _;rw[ia,c,cR];rfl
   ·refine af<|dS rfl ⟨zz,trivial⟩ ?_;refine⟨k+1,hc,zz,ao ⟨rfl,?_,rfl,rfl,trivial⟩⟩;show AV.aI 3 1 _=AV.aI 3 1 _;rw[ia,c];simp
  ·simp only[nL]at hc;have:k=n:=zz
   subst this;exact ay ⟨(),trivial,eL⟩
 ·intro _ _;refine aC rfl ?_;exact ab (fh (.inr rfl) (.aI rfl rfl))
theorem A7 {m:iX}(ok:m.OK){came:Nat}(a:aY m came≠[]){i:Nat}(hi:i<m.su.length):B9 m (aY m came) i=da (aY m came) i/\0<da (aY m came) i/\da (aY m came) i<2^m.cl.length:=by refine⟨by unfold B9;rw[if_pos hi],O5 (m:=m) a,D0 λp b=>Je (oF b) (by rw[kF b];exact hi)⟩
theorem GL {m:iX}(ok:m.OK)(a:aY m (cT m 0)≠[]){i:Nat}(hi:i<m.su.length):Ev ad 317 [Y2 m,I i] (B (te (da (aY m (cT m 0)) i))):=by obtain⟨c,b,d⟩:=A7 ok a hi;have s5:=ok.s5;have:=ap (n:=2) zz ok.c4;rw[<-c]at b d ⊢;exact Ug (cT m 0) ((aY m (cT m 0)).map (IB m)) _ i zz b zz
def yC (L:List (List Nat))(n:Nat):List Int:=((az n).filter λi=> !te (da L i)).map λ(i:Nat)=>(i:Int)
theorem KG (L:List (List Nat))(n:Nat):yC L (n+1)=yC L n++(if te (da L n)=true then[]else[(n:Int)]):=by unfold yC;rw[cc,List.filter_append,cR];cases h:te (da L n)<;>simp [h]
theorem Pc (L:List (List Nat))(n:Nat):(yC L n).length<=n:=by grind [yC]
theorem T5 {m:iX}(ok:m.OK)(f:aY m (cT m 0)≠[]):Ev ad 321 [Y2 m] (.aI 3 1 ((CC m (aY m (cT m 0))).map λx=>[I x])):=by
 have g:((m.su.map nz.enc).length:Int)=m.su.length:=zj
 have s5:=ok.s5;have h:=λ(i:Nat) (hi:i<m.su.length)=>GL ok f hi;have l:CC m (aY m (cT m 0))=yC (aY m (cT m 0)) m.su.length:=rfl;rw[l];have b:=KG (aY m (cT m 0));have c:=Pc (aY m (cT m 0));have a:yC (aY m (cT m 0)) 0=[]:=rfl;generalize yC (aY m (cT m 0))=hk at b c a;refine ak aeI.ok<|aC rfl<|aa (aa ?_);refine cC rfl<|bE True (el [(2,.aI 3 1 ((hk m.su.length).map λx=>[I x]))]) [] [] ?_ ?_
 ·refine dE (λk:Nat=>k<=m.su.length) (λk=>el [(0,Y2 m),(2,.aI 3 1 ((hk k).map λx=>[I x])),(9,I m.su.length),(10,I k)]) (λk=>m.su.length-k) 0 zz
   (aj (bB.ln (t:=2) 3 1 rfl) (ao ⟨rfl,by rw[a];rfl,by show I _=I _;rw[g],rfl,trivial⟩)) ?_
  intro k n;refine aC rfl<|aa (ag rfl (λhc=>?_) (λhc=>?_))
  ·simp only[nL]at hc;have hs:=h k hc;have d:=b k;have hl:=c k;generalize te (da (aY m (cT m 0)) k)=j at hs d;refine af (aa (au ?_));refine aC rfl<|aa<|iO [.ret (B j)] rfl ⟨hs,trivial⟩ ?_;cases j with
   |true=>refine aD rfl rfl<|dS rfl ⟨zz,trivial⟩ ?_;refine⟨k+1,hc,zz,ao ⟨rfl,?_,rfl,rfl,trivial⟩⟩;show AV.aI 3 1 _=AV.aI 3 1 _;rw[d];simp
   |false=>refine ax rfl rfl<|iO [.bW] rfl ⟨rfl,⟨by simp only[cb,chunk,be,bm];omega,by simp only[cb,chunk,be,bm];omega⟩,trivial⟩<|dS rfl ⟨zz,trivial⟩ ?_;refine⟨k+1,hc,zz,ao ⟨rfl,?_,rfl,rfl,trivial⟩⟩;show AV.aI 3 1 _=AV.aI 3 1 _;rw[d,cR];rfl
  ·simp only[nL]at hc;have e:k=m.su.length:=zz
   subst e;exact ay ⟨(),trivial,eL⟩
 ·intro _ _;refine aC rfl ?_;exact ab (fh (.inr rfl) (.aI rfl rfl))
theorem QD {m:iX}(d:m.wf):Ev ad 250 [.agg m.enc] (.bZ [ints (oP m).1,I (oP m).2]):=by
 have e:=yc d 0 zq zq [];have a:oP m=if gQ m 0 []≠0 then([],gQ m 0 [])else(CC m (aY m (cT m 0)),0):=rfl
 refine ak ae5.ok<|bc [.bW] rfl ⟨⟨rfl,rfl⟩,trivial⟩<|aa (av ?_);refine kL 1 rfl rfl<|ai (bU (Hin:=[]) (H0:=[]) e rfl rfl (.cons (.cons (.jD (.refl _)))) rfl ?_);rintro r Ho f;rcases f with⟨b,rfl⟩|⟨b,rfl⟩
 case inr=>
  rw[if_pos b]at a;refine aG (du (H':=[]) (an _))<|eZ rfl<|aa (aa ?_);refine cC rfl<|ax rfl (by simp_all)<|aC rfl<|ae (bB.jD (t:=2) 1 rfl)<|ab (dm ?_ ?_)
  ·rw[a];rfl
  ·rw[a];rfl
 rw[if_neg (by rw[b];decide)]at a;obtain⟨ok,-,c⟩:=tq d b;refine aG (du (H':=[]) (an _))<|eZ rfl<|aa (aa ?_);refine cC rfl<|aD rfl rfl<|bc [.ret (ints (CC m (aY m (cT m 0))))] rfl ⟨dN (T5 ok c),trivial⟩<|ab (dm ?_ ?_)
 ·rw[a];rfl
 ·rw[a];rfl
theorem Vl {m:iX}(x:m.wf)(b:Int):Ev ad 248 [.agg m.enc,I b] (.bZ [I (pz m b).1,I (pz m b).2]):=by
 have q:((m.su.map nz.enc).length:Int)=m.su.length:=zj
 have D:=x.sn;have z:=yc x m.su.length zz zz [b]
 have c:pz m b=if gQ m m.su.length [b]≠0 then(0,gQ m m.su.length [b])
  else if te (da (aY m (cT m 0)) b.toNat)=false then(0,9)
  else((cM (da (aY m (cT m 0)) b.toNat:Nat) m.cl.length).headD 0,0):=rfl
 refine ak acI.ok<|bc [.bW] rfl ⟨⟨rfl,rfl⟩,trivial⟩<|aa (av ?_);refine lz [.bW] 6 rfl rfl ⟨rfl,trivial⟩ ?_;rw[<-q]at z;refine ai (bU (Hin:=[]) (H0:=[]) z rfl rfl (aK _) rfl ?_);rw[q];rintro r Ho C;rcases C with⟨t,rfl⟩|⟨t,rfl⟩
 case inr=>
  rw[if_pos t]at c;refine aG (du (H':=[]) (an _))<|eZ rfl<|cX False (el []) [] [] ?_ (λ_ h=>h.elim);refine aC rfl<|ax rfl zx<|aC rfl<|ab (dm ?_ ?_)
  ·rw[c];rfl
  ·rw[c];rfl
 rw[if_neg (by rw[t];decide)]at c;obtain⟨ok,u,p⟩:=tq x t;have w:=pq u;obtain⟨i,rfl⟩:=Int.eq_ofNat_of_zero_le w.1;have hi:i<m.su.length:=zz
 obtain⟨v1,F,G⟩:=A7 ok p hi;have j:=GL ok p hi;have c4:=ok.c4;have s5:=ok.s5;have A:=ap (n:=2) zz c4;have v:((m.cl.map λs=>[bg s]).length:Int)=m.cl.length:=zj
 have d:=dN (Ip (da (aY m (cT m 0)) i:Nat) m.cl.length zz zz zz);have g:[I (da (aY m (cT m 0)) i:Nat)]<+:(dh (B9 m (aY m (cT m 0)))).drop (i*1):=by rw[<-v1];exact nM _ zz
 obtain⟨n,k,o⟩:=uX (s:=(da (aY m (cT m 0)) i:Nat)) (n:=m.cl.length) zz zx
 have f: ∃a l,cM (da (aY m (cT m 0)) i:Nat) m.cl.length=a::l:=by
  cases e:cM (da (aY m (cT m 0)) i:Nat) m.cl.length with
  |cons a l=>grind
  |nil=>have:(n:Int)∈cM (da (aY m (cT m 0)) i:Nat) m.cl.length:=eT.2 ⟨n,List.mem_filter.2 ⟨et.2 k,o⟩,rfl⟩;rw[e]at this;cases this
 obtain⟨a,E,f⟩:=f;rw[bi]at c;rw[f]at c d;rw[<-v]at d;clear f o k;generalize da (aY m (cT m 0)) i=ev at j c d g v1 F G;generalize te ev=y at j c;refine aG (du (H':=[]) (an _))<|eZ rfl<|cX (y=true) (el [(1,I i),(2,.pi m.enc),(6,Y2 m)]) [] [] ?_ ?_
 ·refine aC rfl<|cJ rfl rfl<|bc [.ret (B y)] rfl ⟨j,trivial⟩ ?_;cases y with
  |false=>
   rw[if_pos rfl]at c;refine ax rfl rfl<|aC rfl<|ab (dm ?_ ?_)
   ·rw[c];rfl
   ·rw[c];rfl
  |true=>exact aD rfl rfl ⟨(),rfl,eL⟩
 ·rintro _ rfl;rw[if_neg zq]at c;refine vj [] [.pre [I (ev:Nat)],.ret (ints (a::E)),.cells [I a]] rfl (by(repeat' (with_reducible apply fu));(all_goals first|exact zk _|((first|exact d|exact g|rfl))))<|ab (dm ?_ ?_)
  ·rw[c];rfl
  ·rw[c];rfl
theorem Ue {t:Nat}{a b:Operand}{env:Env}{H:Heap}{p q:List Nat}(ha:bu env a= .agg (dh (aM p)))(d:bu env b= .agg (dh (aM q)))(h: ∀k∈p,k<=4)(i: ∀k∈q,k<=4){n:Nat}(c:n<=5)(f:p.length=n)(g:q.length=n):
  ∀(r:Option Nat) (N:Nat) (D:List Nat),Q1 ad r N (.nI true 245 a b) (some t) env H D [(t,B (!decide (p=q)))]:=by
 intro r N D
 exact aF.nI (neg:=true) (m:=6) (DD:=6) zq zw zw zw zw (u:=vJ p) (v:=vJ q) (by rw[ha];rfl) (by rw[d];rfl) (Mo h) (Mo i) (decide (p=q)) (by
  rw[decide_eq_true_iff]
  constructor
  ·grind
  ·intro e;exact Dw c f g e) ⟨rfl,rfl,rfl⟩
theorem Nu {m:iX}(hw:m.wf):Ev ad 72 [.agg m.enc] (.bZ [.any,.any,I (gQ m 0 [])]):=by
 have hE:=yc hw 0 zq zq [];have G:((m.su.map nz.enc).length:Int)=m.su.length:=zj
 refine ak S72.ok<|bc [.bW] rfl ⟨⟨rfl,rfl⟩,trivial⟩<|aa (av ?_);refine kL 1 rfl rfl<|ai (bU (Hin:=[]) (H0:=[]) hE rfl rfl (.cons (.cons (.jD (.refl _)))) rfl ?_);rintro r Ho hr;rcases hr with⟨N,rfl⟩|⟨N,rfl⟩;case inr=>refine aG (du (H':=[]) (an _))<|eZ rfl<|aa (aa ?_);refine cC rfl<|ax rfl zx<|aC rfl<|gm [(4,I (gQ m 0 []))] ?_;exact ab (fh (.inr rfl) (.many zq ⟨.tmp rfl rfl,.tmp rfl rfl,.tmp rfl rfl,trivial⟩))
 rw[N];obtain⟨ok,-,a0⟩:=tq hw N;have s5:=ok.s5;have c4:=ok.c4;refine aG (du (H':=[]) (an _))<|eZ rfl<|aa (aa ?_);refine cC rfl<|aD rfl rfl ?_;have o:=λt (h:t∈aY m (cT m 0))=>kF h;have w:=λt (h:t∈aY m (cT m 0))=>oF h;have F:(aY m (cT m 0)).length<=4^5:=by refine ea (vm (xu m (cT m 0)) 4 (λp=>?_) m.su.length []) (ap zz s5);have:=ej (λc=>Oi m p.length c&&Bq m (cT m 0) (aM (p++[c])) p.length) (az m.cl.length);rw[eS]at this;exact ea this c4
 generalize aY m (cT m 0)=T at o w F;refine bc [.aI] rfl ⟨rfl,trivial⟩<|bM (t:=6) rfl λA=>aa (aa (av ?_));refine kL 4 rfl rfl<|ai (aF.xM rfl (λK mi=>?_));refine eZ rfl<|aJ.gK (Y:=List Nat×List Nat) (λ_=>True) (λy=>el [(1,.pi m.enc),(3,I y.2.length),(6,.po A 0)]) (λy=>[(A,.cells 245 (dh (aM y.1)))]) (λ_=>[]) ?_ ?_
 ·refine br (X:=List Nat×List Nat) (λy=>y.1.Nodup/\(∀j∈y.1,j<T.length)/\(y.1≠[]->y.2∈T)) (λy=>el [(1,.pi m.enc),(3,I y.1.length),(6,.po A 0),(20,.po K 0)])
   (λy=>[(K,.ra mi (T.map (IB m)) y.1),(A,.cells 245 (dh (aM y.2)))]) (λ_=>[]) (λy=>T.length-y.1.length) ([],[]) ⟨zj,zj,λh=>absurd rfl h⟩ eL ?_
  rintro⟨seen,d⟩ ⟨Q,s,f⟩;simp only at Q s f ⊢;have Z:seen.length<=T.length:=by have hs:=cA (l₂:=az T.length) Q (λj E=>et.2 (s j E));simpa using hs
  refine aa (av (ai (aF.Wm (i:=0) rfl rfl (λj kv p E he=>?_) (λV=>?_))))
  ·have C:=he;rw[List.getElem?_map,Option.map_eq_some_iff]at C;obtain⟨q,W,v⟩:=C;unfold IB at v;simp only[Prod.mk.injEq]at v;obtain⟨rfl,rfl⟩:=v;have P:=(dk.1 W).1;have z:=cB W;have x:(seen++[j]).Nodup:=by rw[e0];exact⟨Q,zj,by intro a ha c hc e;simp only[de]at hc;subst hc e;exact E ha⟩
   have g: ∀i∈seen++[j],i<T.length:=by
    intro i hi;rcases e6.1 hi with hi|hi
    ·exact s i hi
    ·simp only[de]at hi;subst hi;exact P
   have J:(seen++[j]).length<=T.length:=by have hs:=cA (l₂:=az T.length) x (λj E=>et.2 (g j E));simpa using hs
   simp only[bk,be,bm]at J;refine eZ rfl<|aa (ag (b:=true) rfl (λ_=>af ?_) (λh=>by cases h));refine au (aa (av (ai (aF.entry (i:=0) rfl rfl he ?_))));refine Sc [.aI] rfl ⟨rfl,⟨rfl,rfl,rfl,zq⟩,trivial⟩<|ae (aq (t:=7) rfl)<|FD rfl ⟨zz,trivial⟩<|aJ.En (Y:=Bool) (λc=>c=true\/d∈T) (λc=>el [(1,.pi m.enc),(3,I (seen.length+1)),(6,.po A 0),(7,.pi (dh (aM q))),(20,.po K 0),(39,B c)]) (λ_=>[(K,.ra mi (T.map (IB m)) (seen++[j])),(A,.cells 245 (dh (aM d)))]) (λ_=>[]) ?_ ?_
   ·by_cases O:seen=[]
    ·subst O;refine rE [(29,true)] [] rfl (by(and_intros);(all_goals first|exact zk _|((rfl)))) ?_;exact⟨true,.inl rfl,eL⟩
    ·have L:=f O;have S:((((seen.length:Nat):Int)+1)==1)=false:=by rw[beq_eq_false_iff_ne];have:seen.length≠0:=λe=>O (ds.1 e);omega
     have D:=λ(env:Env) (H:Heap) (ha:bu env (tm 30)= .agg (dh (aM d))) (hc:bu env (tm 31)= .agg (dh (aM q)))=>Ue (t:=32) (H:=H) ha hc (λk hk=>by have:=w _ L k hk;omega) (λk hk=>by have:=w _ z k hk;omega) s5 (o _ L) (o _ z);by_cases U:d=q
     ·have M:(!decide (d=q))=false:=by simp [U]
      refine rE [(29,false),(33,false)] [.at 1,.op (B (!decide (d=q)))] rfl (by(and_intros);(all_goals first|exact zk _|((first|exact S|exact M|exact D _ _ rfl rfl)))) ?_;exact⟨false,.inr L,eL⟩
     ·have M:(!decide (d=q))=true:=by simp [U]
      have u:=BY [(aM q 0:Int),aM q 1,aM q 2,aM q 3,aM q 4] [(aM d 0:Int),aM d 1,aM d 2,aM d 3,aM d 4];generalize cmpL [(aM q 0:Int),aM q 1,aM q 2,aM q 3,aM q 4] [(aM d 0:Int),aM d 1,aM d 2,aM d 3,aM d 4]=R at u;refine rE [(29,false),(33,true)] [.at 1,.op (B (!decide (d=q))),.Fq [ints [(aM q 0:Int),aM q 1,aM q 2,aM q 3,aM q 4],ints [(aM d 0:Int),aM d 1,aM d 2,aM d 3,aM d 4]] (I R)] rfl (by(repeat' (with_reducible apply fu));(all_goals first|exact zk _|((first|exact S|exact M|exact D _ _ rfl rfl|exact u|exact bs 5|exact gg _|decide|exact⟨.refl _,lB.slc (i:=1) (n:=5) (kk:=1) (cs:=dh (aM d)) rfl (bs 5) zq,trivial⟩)))) ?_;exact⟨decide (R<0),.inr L,eL⟩
   rintro c hc;cases c with
   |true=>refine ax rfl rfl<|W5 [.gI 1] rfl ⟨⟨rfl,rfl,rfl,rfl,bs 5⟩,trivial⟩ ?_;exact⟨(seen++[j],q),⟨x,g,λ_=>z⟩,by simp only[bk,be,bm];omega,aj (ar rfl) (ao ⟨rfl,by show I _=I _;simp,rfl,rfl,trivial⟩)⟩
   |false=>exact aD rfl rfl ⟨(seen++[j],d),⟨x,g,λ_=>hc.elim (λh=>by cases h) id⟩,by simp only[bk,be,bm];omega,ao ⟨rfl,by show I _=I _;simp,rfl,rfl,trivial⟩⟩
  ·refine eZ rfl<|aa (cJ rfl rfl ?_);exact ay ⟨(d,seen),trivial,aj (du (List.sublist_cons_self _ _)) eL⟩
 ·rintro⟨d,k⟩ _;refine ae (bB.iA (i:=0) 6 rfl rfl)<|ae (aj (ar (H':=[]) rfl) (ao (l:=[(1,.pi m.enc),(3,I k.length),(6,.pi (dh (aM d)))]) ⟨rfl,rfl,rfl,trivial⟩))<|aa (av ?_);refine kL 3 rfl rfl<|ai (aF.gR m.su.length rfl rfl G G zz zz rfl (λb=>?_));refine eZ rfl<|aa (av ?_);refine OF 2 rfl rfl ⟨⟨⟨trivial,trivial⟩,⟨bs 5,zq⟩,zq,zq⟩,trivial⟩<|ai (aF.LD (i:=0) (ys:=[[I (aM d 0:Nat)],[I (aM d 1:Nat)],[I (aM d 2:Nat)],[I (aM d 3:Nat)],[I (aM d 4:Nat)]]) rfl rfl rfl ?_);refine eZ rfl<|aC rfl<|ae (aj (du (H':=[]) (an _)) (ao (l:=[(4,I 0)]) ⟨rfl,trivial⟩)) ?_;exact ab (fh (.inr rfl) (.many zq ⟨.tmp rfl rfl,.tmp rfl rfl,.tmp rfl rfl,trivial⟩))
end Go.Px
