/- Part 17 of the proof of a statement of this seat (a logic of pure contracts; the functions; their contracts). No conditions. -/
import Derived.Test.YtjjmmbcmdheooaaGreatDoorA16
open And renaming intro->cb
open Array.mk renaming injEq->cR
open Bool renaming eq_false_iff->bx
open Decidable renaming not_not->cA
open Go.Proofs.Tryz renaming prog->an
open Go.Value.agg renaming injEq->cD
open Go.Value.int renaming injEq->b7
open List renaming range->ad,perm_middle->ap,append_assoc->a6,perm_append_comm->a8,append_nil->bi,sublist_cons_self->bk,length_singleton->bm,length_append->bt,sublist_append_left->bA,filter_cons_of_pos->bI,mem_filter->b0,mem_of_getLast?->b1,flatMap_append->b4,length_map->b6
open List.Pairwise renaming imp_of_mem->b9,filter->cr,imp->cB
open List.Perm renaming swap->b8
open List.Sublist renaming refl->az,append->b3
open List.cons renaming injEq->bs
open Nat renaming le_refl->a7,eq_of_beq_eq_true->be,beq->cc
namespace Go.Px
open Go.Proofs Go.MapKept
abbrev Zt (t:aX)(g1 g2:Nat)(p:List Nat)(r:AV)(Ho:Heap):Prop:=abH t p r/\ ∃a:MS t,Ho=a.heap g1 g2
theorem XA {t:aX}{g1 g2 a:Nat}{p:List Nat}{env:Env}{m:MS t}{b:List Sp}(h4:env 4= .po a 0)(c:env 5=B (!bX (eh t p 6)))(d:bX (eh t p 6)=false->b=eh t p 6):
  wM an [.cell 4 370,.tmp 5] (Zt t g1 g2 p) .ret env ((a,.cells 370 (eN b))::m.heap g1 g2) []:=
 ⟨.inr rfl,_,.bZ [.agg (eN b),B (!bX (eh t p 6))],m.heap g1 g2,rfl,
   .many zq (show fN (ja an env _) [.cell 4 370,.tmp 5] [.agg (eN b),B (!bX (eh t p 6))]from
    ⟨.dw (n:=some 12) (i:=0) (cs:=eN b) h4 rfl zw rfl,.tmp c rfl,trivial⟩),⟨⟨b,rfl,d⟩,m,rfl⟩,bk _ _⟩
set_option maxHeartbeats 1000000 in
theorem PZ {t:aX}(h:t.OK)(but:Int)(g1 g2:Nat){p:List Nat}(hg:BC t.ms.length p)(P:EJ t p)(m:MS t):
  il an 280 [tp t but g1 g2,.agg (bY p)] (m.heap g1 g2) (Zt t g1 g2 p):=by
 obtain⟨G,g⟩:=sR h.Ax hg
 obtain⟨o,K⟩:=Ei m.k (pZ p)
 have F:((t.ms.map eY.enc).length:Int)=t.ms.length:=zj
 have a0:=h.Ax
 have wp:=Mj G
 refine bq aeN.ok<|bc [.bW,.aI] rfl ⟨⟨rfl,rfl⟩,rfl,trivial⟩ ?_
 have E: ∀(env:Env) (H:Heap),bu env (tm 20)= .mo g2->H[1]? =some (g2,.map m.k)->valOf (bu env (tm 21))=some (pZ p)-> ∀(r:Option Nat) (N:Nat) (D:List Nat),
   Q1 an r N (.lookup 365 (tm 20) (tm 21) true 240 370 [.int .i64 0,.int .i64 0,.int .i64 0,.int .i64 0,.int .i64 0,.int .i64 0,.int .i64 0,.int .i64 0,.int .i64 0,.int .i64 0,.int .i64 0,.int .i64 0]) (some 22) env H D [(22,oh true (cv (.agg #[.int .i64 0,.int .i64 0,.int .i64 0,.int .i64 0,.int .i64 0,.int .i64 0,.int .i64 0,.int .i64 0,.int .i64 0,.int .i64 0,.int .i64 0,.int .i64 0])) o)]:=by
  intro env H h1 h2 h3 r N D
  exact aF.nD (n:=1) hKP ZM h1 h2 h3 wp (λe he=>(m.hk.ok e he).key) K ⟨rfl,rfl,rfl⟩
 rcases A6 K m.hk with rfl|⟨j,v,rfl,q,hq,R,Q,rfl⟩
 case inr=>
  have e:=By h.Ax hg.len hq.len R
  subst e
  refine aa (aa ?_)
  refine rE [] [.op (.bZ [.agg (eN (eh t p 6)),B true])] rfl ⟨E _ _ rfl rfl rfl,⟨rfl,rfl,rfl,a7 12⟩,trivial⟩<|aC rfl<|ax rfl rfl<|FD rfl ⟨⟨rfl,rfl,rfl,a7 12⟩,trivial⟩<|bM (t:=4) rfl λa=>ae (ar (H':=(a,.cells 370 (eN (eh t p 6)))::m.heap g1 g2) rfl)<|ab (XA rfl ?_ (λ_=>rfl))
  show B true=B _
  rw[Q];rfl
 refine aa (aa ?_)
 refine rE [] [.op (.bZ [.agg ([Value.int .i64 0,.int .i64 0,.int .i64 0,.int .i64 0,.int .i64 0,.int .i64 0,.int .i64 0,.int .i64 0,.int .i64 0,.int .i64 0,.int .i64 0,.int .i64 0].map .v),B false])] rfl ⟨E _ _ rfl rfl rfl,⟨rfl,rfl,rfl,a7 12⟩,trivial⟩<|aC rfl<|aD rfl rfl<|bM (t:=4) rfl λa=>ae (aj (ar (H':=(a,.cells 370 (TF λ_=>(0,0)))::m.heap g1 g2) rfl) (ao (l:=[(0,tp t but g1 g2),(3,.pi (bY p)),(4,.po a 0)]) ⟨rfl,rfl,rfl,trivial⟩))<|aa (aa ?_)
 refine cC rfl<|bE True (el [(0,tp t but g1 g2),(3,.pi (bY p)),(4,.po a 0)]) ((a,.cells 370 (TF λ_=>(0,199)))::m.heap g1 g2) [] ?_ ?_
 ·refine br (λk:Nat=>k<=6) (λk=>el [(0,tp t but g1 g2),(3,.pi (bY p)),(4,.po a 0),(27,I k)]) (λk=>(a,.cells 370 (TF λj=>if j<k then(0,199)else(0,0)))::m.heap g1 g2) (λ_=>[]) (λk=>6-k) 0 zz
   eL ?_
  intro k hk
  refine aC rfl<|aa (ag rfl (λhc=>?_) (λhc=>?_))
  ·simp only[decide_eq_true_eq]at hc
   refine af (aa (au ?_))
   refine aC rfl<|W5 [.gI 0] rfl ⟨⟨zz,zz⟩,⟨rfl,rfl,rfl,rfl,?_⟩,trivial⟩ ?_
   ·show 0+((k:Nat):Int).toNat*2+2<=12
    omega
   refine dS rfl ⟨zz,trivial⟩ ?_
   refine⟨k+1,zz,zz,aj (ar ?_) eL⟩
   show (a,cP.cells _ (bK (TF λj=>if j<k then(0,199)else(0,0)) (0+k*2) (oK (0,199))))::_=_
   rw[Ez _ _ zz]
   have e:(λj=>if j=k then((0,199):Sp)else if j<k then(0,199)else(0,0))=λj=>if j<k+1 then(0,199)else(0,0):=by
    funext j
    by_cases V:j=k
    ·rw[if_pos V,if_pos zz]
    ·rw[if_neg V]
     by_cases W:j<k
     ·rw[if_pos W,if_pos zz]
     ·rw[if_neg W,if_neg zz]
   rw[e]
  ·simp only[decide_eq_false_iff_not]at hc
   have e:k=6:=zz
   subst e
   exact ay ⟨(),trivial,aj (ar rfl) eL⟩
 intro _ _
 refine aa (aa ?_)
 refine cC rfl<|bE True (el [(0,tp t but g1 g2),(3,.pi (bY p)),(4,.po a 0)]) ((a,.cells 370 (eN (nh t p 6)))::m.heap g1 g2) [] ?_ ?_
 ·refine br (λk:Nat=>k<=t.ms.length) (λk=>el [(0,tp t but g1 g2),(3,.pi (bY p)),(4,.po a 0),(38,nk t.ms),(39,I t.ms.length),(40,I k)]) (λk=>(a,.cells 370 (TF (fW t p k)))::m.heap g1 g2) (λ_=>[]) (λk=>t.ms.length-k) 0 zz
   (aj (ar rfl) (ao ⟨rfl,rfl,rfl,rfl,by show I _=I _;rw[F],rfl,trivial⟩)) ?_
  intro k hk
  refine aC rfl<|aa (ag rfl (λhc=>?_) (λhc=>?_))
  ·simp only[nL]at hc
   obtain⟨x,hx⟩:=aL hc
   have J:=g k
   have l1:=mQ (aM p) (k:=k) zz
   have l2:=EM (fW t p k) J
   have i:fW t p (k+1)=λj=>if j=aM p k then(max (fW t p k (aM p k)).1 x.lo,min (fW t p k (aM p k)).2 x.hi)else fW t p k j:=by
    funext w
    rw[pb,aX.oV hx]
    by_cases e:w=aM p k
    ·rw[if_pos e,if_pos e.symm,e]
    ·rw[if_neg e,if_neg (λh=>e h.symm)]
   generalize S:aM p k=v1 at*
   generalize a1:fW t p k v1=s1 at*
   refine af (aa (au ?_))
   refine bc [.cells x.enc,.aI] rfl ⟨⟨zz,by simp [hx]⟩,rfl,⟨rfl,rfl,rfl,zq⟩,trivial⟩<|ae (aq (t:=8) rfl)<|gm [(0,tp t but g1 g2),(3,.pi (bY p)),(4,.po a 0),(7,I (k:Nat)),(8,.pi x.enc),(38,nk t.ms),(39,I t.ms.length),(40,I k)]<|bc [.pre [I (v1:Nat)],.O1 0 (.agg (oK s1)),.aI] rfl (by(and_intros);(all_goals first|exact zk _|((first|exact l1|exact l2|rfl|decide))))<|ae (aq (t:=9) rfl)<|gm [(0,tp t but g1 g2),(3,.pi (bY p)),(4,.po a 0),(7,I (k:Nat)),(8,.pi x.enc),(9,.pi (oK s1)),(38,nk t.ms),(39,I t.ms.length),(40,I k)]<|xh [] [.pre [I (v1:Nat)]] rfl ⟨⟨⟨zz,zz⟩,l1⟩,⟨zz,zz⟩,trivial⟩<|aT.hd (gs:=[]) (hs:=[.gI 0]) rfl ⟨⟨rfl,rfl,rfl,rfl,?_⟩,trivial⟩ ?_
   ·show 0+((v1:Nat):Int).toNat*2+2<=12
    omega
   refine dS rfl ⟨zz,trivial⟩ ?_
   refine⟨k+1,hc,zz,aj (ar ?_) eL⟩
   show (a,cP.cells _ (bK (TF (fW t p k)) (0+v1*2) (oK (max s1.1 x.lo,min s1.2 x.hi))))::_=_
   rw[Ez _ _ J,i]
  ·simp only[nL]at hc
   have e:k=t.ms.length:=zz
   subst e
   exact ay ⟨(),trivial,aj (ar rfl) eL⟩
 intro _ _
 refine aC rfl<|aa (aa ?_)
 refine cC rfl<|aJ.gK (Y:=List Sp) (λb=>eh t p 6=b/\bX b=false) (λ_=>el [(0,tp t but g1 g2),(3,.pi (bY p)),(4,.po a 0)]) (λb=>(a,.cells 370 (eN b))::m.heap g1 g2) (λ_=>[]) ?_ ?_
 ·refine br (X:=List Sp×Bool) (λx=>UG t p x.1 x.2) (λx=>el [(0,tp t but g1 g2),(3,.pi (bY p)),(4,.po a 0),(10,.fn (.func 330) [.po a 0] []),(11,B x.2)]) (λx=>(a,.cells 370 (eN x.1))::m.heap g1 g2) (λ_=>[]) (λx=>if x.2=true then width x.1+1 else 0) (nh t p 6,true) ⟨QZ h p,λ_=>rfl,λh=>by cases h⟩
   eL ?_
  rintro⟨b,more⟩ hi
  simp only at hi ⊢
  refine aa (aa ?_)
  refine cC rfl ?_
  cases more with
  |false=>
   refine ag (b:=false) rfl (λh=>by cases h) (λ_=>ay ⟨b,hi.end_ rfl,eL⟩)
  |true=>
  refine ag (b:=true) rfl (λ_=>af ?_) (λh=>by cases h)
  refine au<|aC rfl<|aa (aa ?_)
  refine cC rfl ?_
  obtain⟨n1,n2⟩:=hi.next h hg P
  have A:=hi.bb
  refine bE True (el [(0,tp t but g1 g2),(3,.pi (bY p)),(4,.po a 0),(10,.fn (.func 330) [.po a 0] []),(11,B (aW (kids t.ms p) (b,false)).2)]) ((a,.cells 370 (eN (aW (kids t.ms p) (b,false)).1))::m.heap g1 g2) [] ?_ ?_
  ·refine br (λk:Nat=>k<=t.ms.length/\BB (199+60*k) (aW (lD t.ms p k) (b,false)).1) (λk=>el [(0,tp t but g1 g2),(3,.pi (bY p)),(4,.po a 0),(10,.fn (.func 330) [.po a 0] []),(11,B (aW (lD t.ms p k) (b,false)).2),(74,nk t.ms),(75,I t.ms.length),(76,I k)]) (λk=>(a,.cells 370 (eN (aW (lD t.ms p k) (b,false)).1))::m.heap g1 g2) (λ_=>[]) (λk=>t.ms.length-k) 0 ⟨zz,by simpa [lD,aW]using A⟩
    (ao ⟨rfl,rfl,rfl,rfl,rfl,rfl,by show I _=I _;rw[F],rfl,trivial⟩) ?_
   rintro k ⟨hk,y⟩
   refine aC rfl<|aa (ag rfl (λhc=>?_) (λhc=>?_))
   ·simp only[nL]at hc
    obtain⟨x,hx⟩:=aL hc
    have ox:=h.TJ k x hx
    have q0:=ox.Ce
    have q1:=ox.Ca
    have J:=g k
    have p2:=g x.par.toNat
    have l1:=mQ (aM p) (k:=k) zz
    have l2:=mQ (aM p) (k:=x.par.toNat) zz
    refine af (aa (au ?_))
    refine bc [.cells x.enc,.aI] rfl ⟨⟨zz,by simp [hx]⟩,rfl,⟨rfl,rfl,rfl,zq⟩,trivial⟩<|ae (aq (t:=13) rfl)<|gm [(0,tp t but g1 g2),(3,.pi (bY p)),(4,.po a 0),(10,.fn (.func 330) [.po a 0] []),(11,B (aW (lD t.ms p k) (b,false)).2),(12,I (k:Nat)),(13,.pi x.enc),(74,nk t.ms),(75,I t.ms.length),(76,I k)] ?_
    by_cases f:x.par= -1
    ·have hz:(x.par != -1)=false:=by rw[f];rfl
     refine vj [(84,false)] [] rfl (by(and_intros);(all_goals first|exact zk _|((rfl))))<|aD rfl rfl<|dS rfl ⟨zz,trivial⟩ ?_
     have u:=Se (p:=p) hx f
     refine⟨k+1,⟨hc,?_⟩,zz,aj (ar ?_) (ao ⟨rfl,rfl,rfl,rfl,?_,rfl,rfl,rfl,trivial⟩)⟩
     ·rw[u]
      exact⟨y.len,λj=>FN zz (y.bd j)⟩
     ·rw[u]
     ·rw[u];rfl
    ·have hz:(x.par != -1)=true:=by rw[bne_iff_ne];exact f
     have u:=ON (p:=p) hx f
     have s:aW (lD t.ms p (k+1)) (b,false)=(fZ (aW (lD t.ms p k) (b,false)).1 (aM p x.par.toNat) (aM p k),(aW (lD t.ms p k) (b,false)).2||kU (aW (lD t.ms p k) (b,false)).1 (aM p x.par.toNat) (aM p k)):=by
      rw[u,rJ]
      rfl
     have z:BB (199+60*((k+1:Nat):Int)) (fZ (aW (lD t.ms p k) (b,false)).1 (aM p x.par.toNat) (aM p k)):=by
      have:=y.step zz p2 J
      rw[show (199+60*((k+1:Nat):Int))=199+60*(k:Int)+60 from zz]
      exact this
     generalize (aW (lD t.ms p k) (b,false)).1=L at*
     generalize (aW (lD t.ms p k) (b,false)).2=mk at*
     generalize aM p x.par.toNat=T at*
     generalize S:aM p k=v1 at*
     have M:BB 900000 L:=⟨y.len,λj=>FN zz (y.bd j)⟩
     refine aa (xh [(84,true)] [.pre [I (T:Nat)],.pre [I (v1:Nat)]] rfl (by(and_intros);(all_goals first|(with_reducible exact trivial)|(with_reducible rfl)|(with_reducible assumption)|omega|exact l1|exact l2)) ?_)
     refine aT.yes (congrArg B hz) (bP (Hin:=[(a,.cells 370 (eN L))]) (H0:=m.heap g1 g2) rfl (show il an 330 [.po a 0,I (T:Nat),I (v1:Nat)] _ _ from Ou M a p2 J) rfl rfl (aK _) rfl ?_)
     rintro res U ⟨rfl,rfl⟩
     refine Zb [(84,true)] [] rfl (by(and_intros);(all_goals first|exact zk _|((rfl))))<|ag (b:=kU L T v1) rfl (λhm=>?_) (λhm=>af ?_)
     ·refine cC rfl<|dS rfl ⟨zz,trivial⟩ ?_
      refine⟨k+1,⟨hc,by rw[s];exact z⟩,zz,aj (ar (by rw[s];rfl)) (ao ⟨rfl,rfl,rfl,rfl,?_,rfl,rfl,rfl,trivial⟩)⟩
      show B true=B _
      rw[s,hm,Bool.or_true]
     ·refine dS rfl ⟨zz,trivial⟩ ?_
      refine⟨k+1,⟨hc,by rw[s];exact z⟩,zz,aj (ar (by rw[s];rfl)) (ao ⟨rfl,rfl,rfl,rfl,?_,rfl,rfl,rfl,trivial⟩)⟩
      show B mk=B _
      rw[s,hm,Bool.or_false]
   ·simp only[nL]at hc
    have e:k=t.ms.length:=zz
    subst e
    exact ay ⟨(),trivial,eL⟩
  intro _ _
  have C:(aW (kids t.ms p) (b,false)).1.length=6:=by rw[iR];exact A.len
  generalize (aW (kids t.ms p) (b,false)).1=b2 at*
  generalize (aW (kids t.ms p) (b,false)).2=m2 at*
  refine bc [.at 0] rfl ⟨rfl,trivial⟩<|au<|br (λk:Nat=>k<=6/\ ∀j,j<k->(cu b2 j).1<=(cu b2 j).2) (λk=>el [(0,tp t but g1 g2),(3,.pi (bY p)),(4,.po a 0),(10,.fn (.func 330) [.po a 0] []),(11,B m2),(96,.agg (eN b2)),(97,I k)]) (λ_=>(a,.cells 370 (eN b2))::m.heap g1 g2) (λ_=>[]) (λk=>6-k) 0 ⟨zz,zx⟩
   eL ?_
  rintro k ⟨hk,f⟩
  refine aC rfl<|aa (ag rfl (λhc=>?_) (λhc=>?_))
  ·simp only[decide_eq_true_eq]at hc
   refine af (aa (au ?_))
   refine bc [.idx (.agg (oK (cu b2 k))),.aI] rfl ⟨⟨⟨zz,zz⟩,N6 (cu b2) zz⟩,rfl,⟨rfl,rfl,rfl,zq⟩,trivial⟩<|ae (aq (t:=15) rfl)<|aC rfl<|ag (b:=decide ((cu b2 k).1>(cu b2 k).2)) rfl (λhd=>?_) (λhd=>af ?_)
   ·rw[decide_eq_true_iff]at hd
    have he:bX b2=true:=by
     cases hb:bX b2 with
     |true=>rfl
     |false=>have:=(yD C).1 hb k zz;omega
    refine lV [.at 0,.gI 0] rfl ⟨rfl,⟨rfl,rfl,rfl,rfl,a7 12⟩,trivial⟩<|ab (XA (m:=m) (b:=b2) rfl ?_ (λZ=>by rw[n1 he]at Z;cases Z))
    show B false=B _
    rw[n1 he];rfl
   ·rw[decide_eq_false_iff_not]at hd
    refine dS rfl ⟨zz,trivial⟩ ?_
    refine⟨k+1,⟨zz,λj hj=>?_⟩,zz,eL⟩
    by_cases e:j=k
    ·rw[e];omega
    ·exact f j zz
  ·simp only[decide_eq_false_iff_not]at hc
   have he:bX b2=false:=(yD C).2 (λj hj=>f j zz)
   obtain⟨i1,i2⟩:=n2 he
   refine ay ⟨(b2,m2),i1,?_,eL⟩
   simp only[if_true]
   split
   ·have:=i2 zy
    omega
   ·omega
 rintro b ⟨d,O⟩
 refine aa (xh [] [.at 0] rfl ⟨rfl,trivial⟩ ?_)
 refine ai (aF.iI (n:=2) hKP rfl rfl rfl wp (λe he=>(m.hk.ok e he).key) K rfl rfl ?_)
 refine bh ?_
 have w2:xO (GK t) (km m.k (pZ p) (.agg (eN b)) none):=xO.put K (m.hk.Ki _) ⟨p,G,rfl,zx,by rw[d]⟩
 refine ae (ar (H':=(a,.cells 370 (eN b))::(⟨m.c,_,m.hc,w2⟩:MS t).heap g1 g2) rfl)<|lV [.at 0,.gI 0] rfl ⟨rfl,⟨rfl,rfl,rfl,rfl,a7 12⟩,trivial⟩<|ab (XA (m:=⟨m.c,_,m.hc,w2⟩) (b:=b) rfl ?_ (λ_=>d.symm))
 show B true=B _
 rw[d,O];rfl
abbrev ig (t:aX):Nat->Nat->Bool:=λj i=>uu t j i !=0
abbrev Yv (l:Nat):AV:=.fn (.yield l) [] []
def W6 (t:aX)(but:Int)(g1 g2 l bp bn:Nat):AV:=.fn (.func 279) [] [.pi [tp t but g1 g2],.po bp 0,.pi [Yv l],.po bn 0]
abbrev NT (t:aX)(but:Int)(g1 g2 l bp bn:Nat)(a:Nat->Nat):Heap:=[(bp,.cells 240 (mR a)),(bn,.cells 368 [W6 t but g1 g2 l bp bn])]
theorem mv (p:List Nat){i:Nat}(h: ¬i<p.length):aM p i=0:=by unfold aM;rw[List.getElem?_eq_none zz];rfl
theorem V3 {t:aX}(h:t.OK){p:List Nat}(hl:p.length=t.ms.length)(f:jw (ig t) p=true):EJ t p:=by
 intro i hi d e;have a:=(CL hl).1 f;have c:=h.at hi;have g:=c.Ce;have j:=c.Ca;have k:=c.own;by_cases b:(t.m i).par.toNat<i
 ·have:=(pX.1 (a i hi _ b e)).2.2.2.2;omega
 ·have:=(pX.1 (a (t.m i).par.toNat zz i zz e.symm)).2.2.2.1;omega
def xv (t:aX)(last:List Nat->Bool)(m:Nat)(p:List Nat)(k:Nat):List (List Nat):=
 if (ad p.length).all (λj=> !(p[j]? ==some k&&ig t j p.length))=true then rU (ig t) last m (p++[k])else[]
theorem N9 (t:aX)(last:List Nat->Bool)(m:Nat)(p:List Nat):rU (ig t) last (m+1) p=(ad (gw p+1)).flatMap (xv t last m p):=rfl
theorem me {α:Type}(g:Nat->List α)(n:Nat):(ad (n+1)).flatMap g=(ad n).flatMap g++g n:=by rw[List.range_succ,b4];simp
theorem kC {α:Type}(g:Nat->List α){k n:Nat}(h:k<=n): ∃r,(ad n).flatMap g=(ad k).flatMap g++r:=by obtain⟨d,rfl⟩: ∃d,n=k+d:=⟨n-k,zz⟩;rw[List.range_add,b4];exact⟨_,rfl⟩
theorem P7 {t:aX}{last:List Nat->Bool}{m:Nat}{p:List Nat}{k:Nat}(h: ∀j,j<p.length-> ¬(aM p j=k/\uu t j p.length≠0)):xv t last m p k=rU (ig t) last m (p++[k])/\(ad p.length).all (λj=> !(p[j]? ==some k&&ig t j p.length))=true:=by
 have e:(ad p.length).all (λj=> !(p[j]? ==some k&&ig t j p.length))=true:=by
  rw[List.all_eq_true];intro j a;rw[List.mem_range]at a;have:=h j a;rw[qY a,Bool.not_eq_true',Bool.and_eq_false_iff];by_cases e:aM p j=k
  ·grind
  ·left;simp [e]
 unfold xv;exact⟨by rw[if_pos e],e⟩
theorem Qp {t:aX}{last:List Nat->Bool}{m:Nat}{p:List Nat}{k j:Nat}(c:j<p.length)(a:aM p j=k)(b:uu t j p.length≠0):xv t last m p k=[]:=by grind [xv,qY]
theorem Wt (A B:Nat×cP)(u w:Heap):(u++(A::B::w)).Perm ((u++w)++[A,B]):=by rw[a6];exact(a8 (l₁:=[A,B]) (l₂:=w)).append_left u
section
variable {t:aX} (h:t.OK) (but:Int) (g1 g2 l bp bn:Nat) {X:Type} (f:X->List Nat->J×X) (W:J->X->Heap) (x0:X)
def Zc (t:aX)(g1 g2 l:Nat){X:Type}(f:X->List Nat->J×X)(W:J->X->Heap)(x0:X)(L:List (List Nat)):Prop:=
 ∀a p b,L=a++p::b->(aQ f a x0).1= .go-> ∀m:MS t,zX an l [.agg (bY p),I (gw p:Nat)] (m.heap g1 g2++W .go (aQ f a x0).2)
  (λres Ho=> ∃c:MS t,res=B (f (aQ f a x0).2 p).1.on/\Ho=c.heap g1 g2++W (f (aQ f a x0).2 p).1 (f (aQ f a x0).2 p).2)
def Q3 (t:aX)(but:Int)(g1 g2 l bp bn:Nat){X:Type}(W:J->X->Heap)(p:List Nat)(res:J×X)(r:AV)(Ho:Heap):Prop:=
 ∃(b:MS t) (a:Nat->Nat),r=B res.1.on/\Ho=b.heap g1 g2++(NT t but g1 g2 l bp bn a++W res.1 res.2)/\(res.1= .go->a=aM p)
theorem TU {t:aX}{but:Int}{g1 g2 l bp bn:Nat}{X:Type}{W:J->X->Heap}{p:List Nat}{res:J×X}{env:Env}{m:MS t}{a:Nat->Nat}(b:env 8=B res.1.on)(ha:res.1= .go->a=aM p):
  wM an [.tmp 8] (Q3 t but g1 g2 l bp bn W p res) .ret env (m.heap g1 g2++(NT t but g1 g2 l bp bn a++W res.1 res.2)) []:=
 ⟨.inr rfl,_,_,_,rfl,.one (.tmp b rfl),⟨m,a,rfl,rfl,ha⟩,az _⟩
include h
theorem OM {L:List (List Nat)}(hy:Zc t g1 g2 l f W x0 L){p:List Nat}{c q:List (List Nat)}(hl:p.length=t.ms.length)(hg:BC t.ms.length p)(A:jw (ig t) p=true)(r:L=c++rU (ig t) (iJ t) 0 p++q)
  (g:(aQ f c x0).1= .go) (m:MS t):il an 279 [I (p.length:Nat),I (gw p:Nat),.pi [tp t but g1 g2],.po bp 0,.pi [Yv l],.po bn 0] (m.heap g1 g2++(NT t but g1 g2 l bp bn (aM p)++W .go (aQ f c x0).2))
    (Q3 t but g1 g2 l bp bn W p (aQ f (c++rU (ig t) (iJ t) 0 p) x0)):=by
 have v:((t.ms.map eY.enc).length:Int)=t.ms.length:=zj
 have u:=V3 h hl A
 obtain⟨C,w⟩:=sR h.Ax hg
 have s:=Hb h but g1 g2 (p:=p) w
 have d:(iJ t p=false/\aQ f (c++rU (ig t) (iJ t) 0 p) x0=aQ f c x0)\/(iJ t p=true/\L=c++p::q/\aQ f (c++rU (ig t) (iJ t) 0 p) x0=f (aQ f c x0).2 p):=by
  simp only[rU]at r ⊢
  cases n:iJ t p with
  |false=>grind
  |true=>
   right
   rw[n,if_pos rfl]at r
   rw[if_pos rfl,sG g,A3]
   exact⟨rfl,by rw[r];simp,rfl⟩
 have i:iJ t p=(!bX (eh t p 6)&&ES t p):=rfl
 generalize aQ f (c++rU (ig t) (iJ t) 0 p) x0=res at d
 have stop:iJ t p=false-> ∀(env:Env) (m:MS t),env 8=B true->wM an [.tmp 8] (Q3 t but g1 g2 l bp bn W p res) .ret env (m.heap g1 g2++(NT t but g1 g2 l bp bn (aM p)++W .go (aQ f c x0).2)) []:=by
  intro E env m z
  rcases d with⟨_,e⟩|⟨e,_⟩
  ·subst e
   have:=TU (t:=t) (but:=but) (g1:=g1) (g2:=g2) (l:=l) (bp:=bp) (bn:=bn) (W:=W) (p:=p) (res:=aQ f c x0) (env:=env) (m:=m) (a:=aM p) (by rw[z,g];rfl) (λ_=>rfl)
   rw[g]at this
   exact this
  ·grind
 refine bq aeg.ok<|aC rfl<|aJ.scope (aa (aa ?_))
 refine cC rfl<|ag (b:=true) (by show B _=B _;refine congrArg B ?_;rw[beq_iff_eq,v];omega) (λ_=>?_) (λh=>by cases h)
 refine aa (aa (av ?_))
 refine lz [.at 2] 2 rfl rfl ⟨rfl,trivial⟩<|ai (bU (Hin:=m.heap g1 g2) (H0:=NT t but g1 g2 l bp bn (aM p)++W .go (aQ f c x0).2) (PZ h but g1 g2 hg u m) rfl rfl (aK _) rfl ?_)
 rintro G x ⟨⟨b,rfl,n⟩,o,rfl⟩
 refine Sc [.aI] rfl ⟨rfl,⟨rfl,rfl,rfl,a7 12⟩,trivial⟩<|gm [(0,I (p.length:Nat)),(1,I (gw p:Nat)),(2,.pi [tp t but g1 g2]),(3,.po bp 0),(4,.pi [Yv l]),(5,.po bn 0),(10,B (!bX (eh t p 6)))]<|dZ True (el [(0,I (p.length:Nat)),(1,I (gw p:Nat)),(2,.pi [tp t but g1 g2]),(3,.po bp 0),(4,.pi [Yv l]),(5,.po bn 0),(34,B (!iJ t p))]) (o.heap g1 g2++(NT t but g1 g2 l bp bn (aM p)++W .go (aQ f c x0).2)) [] ?_ ?_
 ·rw[i]
  cases D:bX (eh t p 6)with
  |true=>
   refine js [(29,true)] [] rfl (by(and_intros);(all_goals first|exact zk _|((rfl)))) ?_
   exact⟨(),trivial,eL⟩
  |false=>
   refine js [(29,false)] [.at 2,.ret (B (ES t p))] rfl (by(repeat' (with_reducible apply cb));(all_goals first|exact zk _|((first|rfl|exact s)))) ?_
   exact⟨(),trivial,eL⟩
 intro _ _
 refine ag (b:= !iJ t p) rfl (λn=>?_) (λn=>af ?_)
 ·have j:iJ t p=false:=zx
  refine aC rfl ?_
  exact ab (stop j _ o rfl)
 ·have j:iJ t p=true:=zx
  rcases d with⟨e,_⟩|⟨_,eL,e⟩
  ·grind
  have k:=hy c p q eL g o
  rw[<-e]at k
  refine aa (av ?_)
  refine lz [.at 2] 3 rfl rfl ⟨rfl,trivial⟩<|aG (cd (Wt _ _ _ _))<|ai (bP (Hin:=o.heap g1 g2++W .go (aQ f c x0).2) (H0:=NT t but g1 g2 l bp bn (aM p)) rfl (show Pn an (.yield l) [] _ _ _ from⟨rfl,k⟩) rfl rfl (aK _) rfl ?_)
  rintro H y ⟨F,rfl,rfl⟩
  refine aG (cd (Wt _ _ _ _).symm)<|eZ rfl ?_
  exact ab (TU rfl (λ_=>rfl))
end
theorem Xh {t:aX}{but:Int}{g1 g2 l bp bn:Nat}{X:Type}{W:J->X->Heap}{p:List Nat}{res:J×X}{env:Env}{m:MS t}(b:env 8=B true)(hg:res.1= .go):
  wM an [.tmp 8] (Q3 t but g1 g2 l bp bn W p res) .ret env (m.heap g1 g2++(NT t but g1 g2 l bp bn (aM p)++W .go res.2)) []:=by
 have:=TU (t:=t) (but:=but) (g1:=g1) (g2:=g2) (l:=l) (bp:=bp) (bn:=bn) (W:=W) (p:=p) (res:=res) (env:=env) (m:=m) (a:=aM p) (by rw[b,hg];rfl) (λ_=>rfl)
 rw[hg]at this
 exact this
section
variable {t:aX} (h:t.OK) (but:Int) (g1 g2 l bp bn:Nat) {X:Type} (f:X->List Nat->J×X) (W:J->X->Heap) (x0:X)
include h
theorem Tp {L:List (List Nat)}(hy:Zc t g1 g2 l f W x0 L): ∀(z:Nat) (p:List Nat) (g T:List (List Nat)),p.length+z=t.ms.length->BC p.length p->jw (ig t) p=true->L=g++rU (ig t) (iJ t) z p++T->
  (aQ f g x0).1= .go-> ∀m:MS t,il an 279 [I (p.length:Nat),I (gw p:Nat),.pi [tp t but g1 g2],.po bp 0,.pi [Yv l],.po bn 0] (m.heap g1 g2++(NT t but g1 g2 l bp bn (aM p)++W .go (aQ f g x0).2))
    (Q3 t but g1 g2 l bp bn W p (aQ f (g++rU (ig t) (iJ t) z p) x0)):=by
 intro z
 induction z with
 |zero=>
  intro p g T hl hg hp O G m
  rw[Nat.add_zero]at hl
  exact OM h but g1 g2 l bp bn f W x0 hy hl zx hp O G m
 |succ z ih=>
  intro p g T hl hg hp O G m
  have a0:((t.ms.map eY.enc).length:Int)=t.ms.length:=zj
  have a2:=h.Ax
  have a1:=hg.le
  have Q:p.length<6:=zz
  rw[N9]at O ⊢
  generalize Z:xv t (iJ t) z p=ch at O
  have C:=λk=>P7 (t:=t) (last:=iJ t) (m:=z) (p:=p) (k:=k)
  have A:=λk j=>Qp (t:=t) (last:=iJ t) (m:=z) (p:=p) (k:=k) (j:=j)
  rw[Z]at C A
  refine bq aeg.ok<|aC rfl<|aJ.scope (aa (aa ?_))
  refine cC rfl<|ag (b:=false) (by show B _=B _;refine congrArg B ?_;rw[beq_eq_false_iff_ne,a0];omega) (λh=>by cases h) (λ_=>af ?_)
  refine aa (aJ.label ?_)
  refine aa (aa ?_)
  refine dS rfl ⟨⟨zz,zz⟩,trivial⟩ ?_
  let E0:List (Nat×AV):=[(0,I (p.length:Nat)),(1,I (gw p:Nat)),(2,.pi [tp t but g1 g2]),(3,.po bp 0),(4,.pi [Yv l]),(5,.po bn 0)]
  refine aJ.gK (Y:=MS t×(Nat->Nat)) (λy=>(aQ f (g++(ad (gw p+1)).flatMap ch) x0).1= .go/\ ∀i,i≠p.length->y.2 i=aM p i) (λ_=>el [(0,I (p.length:Nat)),(1,I (gw p:Nat)),(2,.pi [tp t but g1 g2]),(3,.po bp 0),(4,.pi [Yv l]),(5,.po bn 0)])
   (λy=>y.1.heap g1 g2++(NT t but g1 g2 l bp bn y.2++W .go (aQ f (g++(ad (gw p+1)).flatMap ch) x0).2)) (λ_=>[]) ?_ ?_
  ·refine br (X:=Nat×MS t×(Nat->Nat)) (λy=>y.1<=gw p+1/\(aQ f (g++(ad y.1).flatMap ch) x0).1= .go/\ ∀i,i≠p.length->y.2.2 i=aM p i)
    (λy=>el [(0,I (p.length:Nat)),(1,I (gw p:Nat)),(2,.pi [tp t but g1 g2]),(3,.po bp 0),(4,.pi [Yv l]),(5,.po bn 0),(40,I (gw p+1:Nat)),(41,I y.1)])
    (λy=>y.2.1.heap g1 g2++(NT t but g1 g2 l bp bn y.2.2++W .go (aQ f (g++(ad y.1).flatMap ch) x0).2)) (λ_=>[]) (λy=>gw p+1-y.1) (0,m,aM p) ⟨zj,by simpa using G,λ_ _=>rfl⟩
    (aj (ar zj) eL) ?_
   rintro⟨n,m,a⟩ ⟨hn,o,ha⟩
   simp only at hn o ha ⊢
   refine aC rfl<|aa (ag rfl (λhc=>?_) (λhc=>?_))
   ·simp only[nL]at hc
    have d:=me ch n
    refine af (aa (au ?_))
    refine aC rfl<|aa (aa ?_)
    refine cC rfl<|aJ.gK (Y:=MS t) (λ_=> ∀j,j<p.length-> ¬(aM p j=n/\uu t j p.length≠0)) (λ_=>el [(0,I (p.length:Nat)),(1,I (gw p:Nat)),(2,.pi [tp t but g1 g2]),(3,.po bp 0),(4,.pi [Yv l]),(5,.po bn 0),(11,I n),(40,I (gw p+1:Nat)),(41,I n)])
     (λm=>m.heap g1 g2++(NT t but g1 g2 l bp bn a++W .go (aQ f (g++(ad n).flatMap ch) x0).2)) (λ_=>[]) ?_ ?_
    ·refine br (X:=Nat×MS t) (λy=>y.1<=p.length/\ ∀j,j<y.1-> ¬(aM p j=n/\uu t j p.length≠0)) (λy=>el [(0,I (p.length:Nat)),(1,I (gw p:Nat)),(2,.pi [tp t but g1 g2]),(3,.po bp 0),(4,.pi [Yv l]),(5,.po bn 0),(11,I n),(40,I (gw p+1:Nat)),(41,I n),(44,I (p.length:Nat)),(45,I y.1)])
      (λy=>y.2.heap g1 g2++(NT t but g1 g2 l bp bn a++W .go (aQ f (g++(ad n).flatMap ch) x0).2)) (λ_=>[]) (λy=>p.length-y.1) (0,m) ⟨zj,by intro j u;simp at u⟩
      eL ?_
     rintro⟨k,m⟩ ⟨hk,J⟩
     simp only at hk J ⊢
     refine aC rfl<|aa (ag rfl (λhd=>?_) (λhd=>?_))
     ·simp only[nL]at hd
      have l1:=BF a (k:=k) zz
      have P:=ha k zz
      refine af (aa (au ?_))
      refine aC rfl<|aJ.En (Y:=MS t) (λ_=>True) (λ_=>el [(0,I (p.length:Nat)),(1,I (gw p:Nat)),(2,.pi [tp t but g1 g2]),(3,.po bp 0),(4,.pi [Yv l]),(5,.po bn 0),(11,I n),(40,I (gw p+1:Nat)),(41,I n),(44,I (p.length:Nat)),(45,I k),(59,B (decide (aM p k=n/\uu t k p.length≠0)))])
       (λm=>m.heap g1 g2++(NT t but g1 g2 l bp bn a++W .go (aQ f (g++(ad n).flatMap ch) x0).2)) (λ_=>[]) ?_ ?_
      ·by_cases K:aM p k=n
       ·have hz:(((a k:Nat):Int)==((n:Nat):Int))=true:=by rw[beq_iff_eq,P,K]
        refine av<|Za [(53,true)] [.O1 2 (I (a k:Nat))] 9 rfl rfl (by(and_intros);(all_goals first|exact zk _|((first|exact l1|rfl))))<|aT.yes (congrArg B hz) (bU (Hin:=m.heap g1 g2) (H0:=NT t but g1 g2 l bp bn a++W .go (aQ f (g++(ad n).flatMap ch) x0).2) (XD h but g1 g2 (a:=k) (b:=p.length) zz zz m) rfl rfl (aK _) rfl ?_)
        rintro res N ⟨rfl,m',rfl⟩
        refine Zb [(53,true)] [] rfl (by(and_intros);(all_goals first|exact zk _|((rfl)))) ?_
        refine⟨m',trivial,ao ⟨rfl,rfl,rfl,rfl,rfl,rfl,rfl,rfl,rfl,rfl,rfl,?_,trivial⟩⟩
        show B (uu t k p.length !=0)=B _
        refine congrArg B ?_
        rw[Bool.eq_iff_iff,bne_iff_ne,decide_eq_true_iff]
        exact⟨λh=>⟨K,h⟩,λh=>h.2⟩
       ·have hz:(((a k:Nat):Int)==((n:Nat):Int))=false:=by rw[beq_eq_false_iff_ne,P];omega
        refine js [(53,false)] [.O1 2 (I (a k:Nat))] rfl (by(and_intros);(all_goals first|exact zk _|((first|exact l1|rfl)))) ?_
        refine⟨m,trivial,ao ⟨rfl,rfl,rfl,rfl,rfl,rfl,rfl,rfl,rfl,rfl,rfl,?_,trivial⟩⟩
        show B false=B _
        refine congrArg B ?_
        symm
        rw[decide_eq_false_iff_not]
        exact λh=>K h.1
      intro m _
      refine ag rfl (λM=>?_) (λM=>af ?_)
      ·rw[decide_eq_true_iff]at M
       have H:=A n k zz M.1 M.2
       rw[H,bi]at d
       refine ay<|dS rfl ⟨zz,trivial⟩ ?_
       refine⟨(n+1,m,a),⟨by simp only;omega,by simp only;rw[d];exact o,ha⟩,by simp only;omega,aj (ar ?_) eL⟩
       simp only
       rw[d]
      ·rw[decide_eq_false_iff_not]at M
       refine dS rfl ⟨zz,trivial⟩ ?_
       refine⟨(k+1,m),⟨by simp only;omega,λj u=>?_⟩,by simp only;omega,eL⟩
       simp only at u
       by_cases e:j=k
       ·rw[e];exact M
       ·exact J j zz
     ·simp only[nL]at hd
      refine ay ⟨m,λj u=>J j zz,eL⟩
    ·intro m H
     obtain⟨R,F⟩:=C n H
     refine lV [.gI 2] rfl ⟨⟨zz,zz⟩,⟨rfl,rfl,rfl,rfl,by show 0+((p.length:Nat):Int).toNat*1+1<=6;omega⟩,trivial⟩ ?_
     have ea:(λj=>if j=p.length then n else a j)=aM (p++[n]):=by
      funext j
      rw[jB]
      by_cases s:j=p.length
      ·rw[if_pos s,if_neg zz,if_pos s]
      ·rw[if_neg s,ha j s]
       by_cases E:j<p.length
       ·rw[if_pos E]
       ·rw[if_neg E,if_neg s,mv p E]
     refine ae (ar (H':=m.heap g1 g2++(NT t but g1 g2 l bp bn (aM (p++[n]))++W .go (aQ f (g++(ad n).flatMap ch) x0).2)) ?_) ?_
     ·show (g1,cP.map m.c)::(g2,cP.map m.k)::(bp,cP.cells _ (bK (mR a) (0+p.length*1) [I (n:Nat)]))::_=_
      rw[wq _ _ Q,ea]
      rfl
     obtain⟨r,hr⟩:=kC ch (k:=n+1) (n:=gw p+1) zz
     have S:BC (p++[n]).length (p++[n]):=by
      rw[bt,bm]
      exact Hx hg zz
     have w:jw (ig t) (p++[n])=true:=by rw[rQ,hp,F];rfl
     have a3:=sG (f:=f) (b:=ch n) o
     have x:=ih (p++[n]) (g++(ad n).flatMap ch) (r++T) (by rw[bt,bm];omega) S w (by rw[O,hr,d,<-R];simp only[a6]) o m
     rw[<-R]at x
     have e1:(((p++[n]).length:Nat):Int)=((p.length:Nat):Int)+1:=by rw[bt,bm];omega
     have e2:((gw (p++[n]):Nat):Int)=max ((gw p:Nat):Int) (((n:Nat):Int)+1):=by rw[wO];omega
     rw[e1,e2]at x
     have D:(aQ f (g++(ad n).flatMap ch++ch n) x0).1≠.go->aQ f (g++(ad (gw p+1)).flatMap ch) x0=aQ f (g++(ad n).flatMap ch++ch n) x0:=by
      intro v
      rw[hr,d,<-a6,<-a6]
      exact nN v
     have U:g++(ad (n+1)).flatMap ch=g++(ad n).flatMap ch++ch n:=by rw[d,a6]
     rw[<-U]at x D
     refine aa (av ?_)
     refine lz [.at 3] 7 rfl rfl ⟨rfl,⟨zz,zz⟩,⟨zz,zz⟩,trivial⟩<|ai (bP (Hin:=m.heap g1 g2++(NT t but g1 g2 l bp bn (aM (p++[n]))++W .go (aQ f (g++(ad n).flatMap ch) x0).2)) (H0:=[]) rfl (show il an 279 _ _ _ from x) rfl rfl (aK _) zj ?_)
     rintro res N ⟨m',a',rfl,rfl,V⟩
     refine eZ rfl ?_
     cases u:(aQ f (g++(ad (n+1)).flatMap ch) x0).1.on with
     |false=>
      have v:(aQ f (g++(ad (n+1)).flatMap ch) x0).1≠.go:=λe=>by rw[e]at u;cases u
      refine ax rfl rfl<|ae (ar (bi _))<|aC rfl ?_
      rw[D v]
      refine ab (TU ?_ (λe=>absurd e v))
      show B false=B _
      rw[u]
     |true=>
      have q:=NQ.1 u
      refine aD rfl rfl<|dS rfl ⟨zz,trivial⟩ ?_
      refine⟨(n+1,m',a'),⟨by simp only;omega,q,λi hi=>?_⟩,by simp only;omega,aj (ar ?_) eL⟩
      ·simp only
       rw[V q,jB]
       by_cases e:i<p.length
       ·rw[if_pos e]
       ·rw[if_neg e,if_neg hi,mv p e]
      ·simp only
       rw[q,bi]
   ·simp only[nL]at hc
    have e:n=gw p+1:=zz
    subst e
    exact ay ⟨(m,a),⟨o,ha⟩,eL⟩
  ·rintro⟨m,a⟩ ⟨o,ha⟩
   simp only at o ha ⊢
   refine lV [.gI 2] rfl ⟨⟨zz,zz⟩,⟨rfl,rfl,rfl,rfl,by show 0+((p.length:Nat):Int).toNat*1+1<=6;omega⟩,trivial⟩ ?_
   have e:(λj=>if j=p.length then 0 else a j)=aM p:=by
    funext j
    by_cases s:j=p.length
    ·rw[if_pos s,s,mv p zz]
    ·rw[if_neg s,ha j s]
   refine ae (ar (H':=m.heap g1 g2++(NT t but g1 g2 l bp bn (aM p)++W .go (aQ f (g++(ad (gw p+1)).flatMap ch) x0).2)) ?_) ?_
   ·show (g1,cP.map m.c)::(g2,cP.map m.k)::(bp,cP.cells _ (bK (mR a) (0+p.length*1) [I (0:Nat)]))::_=_
    rw[wq _ _ Q,e]
    rfl
   refine aC rfl ?_
   exact ab (Xh rfl o)
end
section
variable {t:aX} (h:t.OK) (but:Int) (g1 g2 l:Nat) {X:Type} (f:X->List Nat->J×X) (W:J->X->Heap) (x0:X)
include h
theorem Ky (hy:Zc t g1 g2 l f W x0 (dJ t))(m:MS t):il an 278 [Yv l,.pi [tp t but g1 g2]] (m.heap g1 g2++W .go x0)
  (λ_ Ho=> ∃a:MS t,Ho=a.heap g1 g2++W (aQ f (dJ t) x0).1 (aQ f (dJ t) x0).2):=by
 refine bq agf.ok<|bc [.bW] rfl ⟨⟨rfl,rfl⟩,trivial⟩<|bc [.aI] rfl ⟨rfl,trivial⟩<|bM (t:=3) rfl λbp=>bc [.aI] rfl ⟨rfl,trivial⟩<|bM (t:=4) rfl λbn=>lV [.gI 0] rfl ⟨⟨rfl,rfl,rfl,rfl,a7 1⟩,trivial⟩<|ae (aj (ar (H':=(bn,.cells 368 [W6 t but g1 g2 l bp bn])::(bp,.cells 240 (mR (aM [])))::(m.heap g1 g2++W .go x0)) rfl) (cd (H':=m.heap g1 g2++(NT t but g1 g2 l bp bn (aM [])++W .go x0)) ?_)) ?_
 ·refine(b8 _ _ _).trans ?_
  rw[<-a6]
  exact(a8 (l₁:=[_,_]) (l₂:=m.heap g1 g2)).append_right _ |>.trans (by rw[a6])
 refine av<|lz [.at 3] 1 rfl rfl ⟨rfl,trivial⟩ ?_
 have hs:dJ t=rU (ig t) (iJ t) t.ms.length []:=rfl
 refine ai (bP (Hin:=m.heap g1 g2++(NT t but g1 g2 l bp bn (aM [])++W .go x0)) (H0:=[]) rfl
  (show il an 279 _ _ _ from Tp h but g1 g2 l bp bn f W x0 hy t.ms.length [] [] [] zj Lk rfl (by rw[hs];simp) rfl m) rfl rfl (aK _) zj ?_)
 rintro res b ⟨a,c,rfl,rfl,_⟩
 refine bh ?_
 rw[List.nil_append,<-hs]
 exact⟨.inl rfl,_,.bZ [],a.heap g1 g2++W (aQ f (dJ t) x0).1 (aQ f (dJ t) x0).2,rfl,.many zq trivial,⟨a,rfl⟩,zx⟩
end
theorem OI (t:aX)(but:Int)(g1 g2:Nat):Ev an 210 [tp t but g1 g2] (.fn (.func 278) [] [.pi [tp t but g1 g2]]):=by refine ak agl.ok<|bc [.bW] rfl ⟨⟨rfl,rfl⟩,trivial⟩<|aC rfl<|ab (aB ?_);rfl
theorem zS (t:aX)(but:Int)(g1 g2:Nat):Ev an 138 [tp t but g1 g2] (.fn (.func 209) [] [.pi [tp t but g1 g2]]):=by refine ak agS.ok<|bc [.bW] rfl ⟨⟨rfl,rfl⟩,trivial⟩<|aC rfl<|ab (aB ?_);rfl
abbrev X1 (X:Type):=(J×X)×(Nat->Nat)
def eE {X:Type}(f:X->List Nat->J×X)(a:List Nat->Bool)(y:X1 X)(p:List Nat):J×X1 X:=
 if a p=true then(match (f y.1.2 p).1 with
  | .go=>(.go,((.go,(f y.1.2 p).2),aM p))
  |_=>(.ret,(f y.1.2 p,y.2)))
 else(.go,y)
def CS (l:List (List Nat))(a:Nat->Nat):Nat->Nat:=match l.getLast? with
 |none=>a
 |some q=>aM q
theorem ye {X:Type}(f:X->List Nat->J×X)(b:List Nat->Bool): ∀(L:List (List Nat)) (x:X) (a:Nat->Nat),
  ((aQ f (L.filter b) x).1= .go->aQ (eE f b) L ((.go,x),a)=(.go,((.go,(aQ f (L.filter b) x).2),CS (L.filter b) a)))/\
  ((aQ f (L.filter b) x).1≠.go->(aQ (eE f b) L ((.go,x),a)).1= .ret/\(aQ (eE f b) L ((.go,x),a)).2.1=aQ f (L.filter b) x)
 |[],x,a=>⟨λ_=>rfl,λh=>absurd rfl h⟩
 |p::L,x,a=>by
  by_cases d:b p=true
  ·rw[bI d]
   rcases c:f x p with⟨j,g⟩
   cases j with
   |go=>
    have hs:eE f b ((.go,x),a) p=(.go,((.go,g),aM p)):=by simp [eE,d,c]
    simp only[aQ,hs,c]
    obtain⟨i,k⟩:=ye f b L g (aM p)
    refine⟨λh=>?_,k⟩
    rw[i h]
    have e:CS (p::L.filter b) a=CS (L.filter b) (aM p):=by
     unfold CS
     rw[List.getLast?_cons]
     cases (L.filter b).getLast? <;>rfl
    rw[e]
   |ret=>
    have hs:eE f b ((.go,x),a) p=(.ret,((.ret,g),a)):=by simp [eE,d,c]
    simp only[aQ,hs,c]
    exact⟨(λh=>by cases h),λ_=>⟨trivial,trivial⟩⟩
   |exit id=>
    have hs:eE f b ((.go,x),a) p=(.ret,((.exit id,g),a)):=by simp [eE,d,c]
    simp only[aQ,hs,c]
    exact⟨(λh=>by cases h),λ_=>⟨trivial,trivial⟩⟩
  ·rw[List.filter_cons_of_neg (by simpa using d)]
   have hs:eE f b ((.go,x),a) p=(.go,((.go,x),a)):=by simp [eE,d]
   simp only[aQ,hs]
   exact ye f b L x a
theorem wK: ∀n:Nat,(gF n).Nodup
 |0=>by simp [gF]
 |n+1=>by
  unfold List.Nodup
  simp only[gF]
  rw[List.pairwise_flatMap]
  refine⟨λp _=>?_,?_⟩
  ·unfold sB
   rw[List.pairwise_map]
   refine cB ?_ List.nodup_range
   intro a b c e
   exact c (by simpa using e)
  ·refine b9 ?_ (wK n)
   intro p q f g d x hx y hy e
   simp only[sB,List.mem_map]at hx hy
   obtain⟨k,_,rfl⟩:=hx
   obtain⟨h,_,rfl⟩:=hy
   have hl:p.length=q.length:=by rw[(lK f).len,(lK g).len]
   exact d (List.append_inj e hl).1
theorem uG (t:aX):dJ t=(gF t.ms.length).filter λq=>jw (ig t) q&&iJ t q:=by unfold dJ;rw[vp _ _ _ _ rfl,<-xl]
theorem Fx (t:aX):(dJ t).Nodup:=by rw[uG];exact cr _ (wK _)
theorem lI {t:aX}{p:List Nat}(h:p∈dJ t):BC t.ms.length p:=by rw[uG]at h;exact lK (b0.1 h).1
def AB (l:List (List Nat)):List Nat:=l.getLast?.getD []
theorem VB (l:List (List Nat)):CS l (aM [])=aM (AB l):=by unfold CS AB;cases l.getLast? <;>rfl
theorem PB {t:aX}(h:t.OK){l:List (List Nat)}(hl: ∀q∈l,BC t.ms.length q): ∃n,DA n (AB l):=by
 unfold AB;cases e:l.getLast? with
 |none=>exact⟨0,rfl,zz,λi=>by rw[mv _ zj];omega⟩
 |some q=>exact⟨_,(sR h.Ax (hl q (b1 e))).1⟩
theorem Vz {t:aX}(h:t.OK){d k:List (List Nat)}{p:List Nat}(g:dJ t=d++p::k)(a:List Nat->Bool)(hc:1<gw p):pZ p≠pZ (AB (d.filter a)):=by
 intro e;have hg:=lI (t:=t) (p:=p) (by rw[g];simp);have c:=Fx t;rw[g,List.nodup_append]at c;unfold AB at e;cases b:(d.filter a).getLast? with
 |none=>
  rw[b]at e;obtain⟨i,hi,he⟩:=hg.on 1 hc;have w:=h.Ax;simp only[pZ,Option.getD_none,cD,cR,bs,b7,true_and,Int.natCast_inj,and_true]at e;obtain⟨l,m,n,o,r,s⟩:=e;have v: ∀j,aM [] j=0:=λj=>rfl;rw[v]at l m n o r s;match i with
  |0=>omega
  |1=>omega
  |2=>omega
  |3=>omega
  |4=>omega
  |5=>omega
  |i+6=>omega
 |some q=>rw[b]at e;have u:q∈d:=(b0.1 (b1 b)).1;have f:=lI (t:=t) (p:=q) zx;have:=By h.Ax hg.len f.len e;exact c.2.2 q u p zj this.symm
theorem G6 {d:Nat}{a b:Operand}{env:Env}{H:Heap}{p q:List Nat}{n k:Nat}(ha:bu env a= .agg (bY p))(c:bu env b= .agg (bY q))(f:DA n p)(g:DA k q)(e:Bool)(he:e=true↔pZ p=pZ q):
  ∀(r:Option Nat) (N:Nat) (D:List Nat),Q1 an r N (.nI false 240 a b) (some d) env H D [(d,B e)]:=by
 intro r N D
 exact aF.nI (m:=5) (DD:=5) zq zw zw zw zw (u:=pZ p) (v:=pZ q) (by rw[ha];rfl) (by rw[c];rfl) (Mj f) (Mj g) e he ⟨rfl,rfl,rfl⟩
theorem Ap {n:Nat}{p q:List Nat}(h:n<=6)(i:p.length=n)(j:q.length=n)(e:bY p=bY q):p=q:=by refine By h i j ?_;simp only[bY,bs,AV.v.injEq,b7,true_and,and_true]at e;obtain⟨a,b,c,d,f,g⟩:=e;simp only[pZ,a,b,c,d,f,g]
theorem Wr (A:Nat×cP)(u w:Heap):(u++(A::w)).Perm ((u++w)++[A]):=by rw[a6];exact(a8 (l₁:=[A]) (l₂:=w)).append_left u
theorem QK {X:Type}{f:X->List Nat->J×X}{a:List Nat->Bool}{y:X1 X}{p:List Nat}(h:a p=false):eE f a y p=(.go,y):=by unfold eE;rw[h];rfl
theorem RH {X:Type}{f:X->List Nat->J×X}{a:List Nat->Bool}{y:X1 X}{p:List Nat}(h:a p=true)(b:(f y.1.2 p).1= .go):eE f a y p=(.go,((.go,(f y.1.2 p).2),aM p)):=by unfold eE;rw[h,if_pos rfl,b]
theorem KF {X:Type}{f:X->List Nat->J×X}{a:List Nat->Bool}{y:X1 X}{p:List Nat}(h:a p=true)(b:(f y.1.2 p).1≠.go):eE f a y p=(.ret,(f y.1.2 p,y.2)):=by grind [eE]
abbrev fG (t:aX)(but:Int):List Nat->Bool:=λp=>pH t p&&vW t (ik but) p
theorem Qj (t:aX)(but:Int):jy t (ik but)=(dJ t).filter (fG t but):=rfl
theorem SN {t:aX}(h:t.OK)(but:Int)(T:0<=but)(U:but<9223372036854775808)(g1 g2 l2:Nat){X:Type}(f:X->List Nat->J×X)(W:J->X->Heap)(a:X)(hy:Zc t g1 g2 l2 f W a (jy t (ik but)))(m:MS t):
  il an 209 [Yv l2,.pi [tp t but g1 g2]] (m.heap g1 g2++W .go a) (λ_ Ho=> ∃w:MS t,Ho=w.heap g1 g2++W (aQ f (jy t (ik but)) a).1 (aQ f (jy t (ik but)) a).2):=by
 rw[Qj]at hy ⊢
 have df:=λL=>ye f (fG t but) L a (aM [])
 refine bq aeq.ok<|bc [.bW] rfl ⟨⟨rfl,rfl⟩,trivial⟩<|bc [.aI] rfl ⟨rfl,trivial⟩<|bM (t:=3) rfl λd=>ae (aj (ar (H':=(d,.cells 240 (mR (aM [])))::(m.heap g1 g2++W .go a)) rfl) (cd (H':=m.heap g1 g2++((d,.cells 240 (mR (aM [])))::W .go a)) ap.symm))<|bc [.ret (.fn (.func 278) [] [.pi [tp t but g1 g2]])] rfl ⟨OI t but g1 g2,trivial⟩<|au<|aJ.CD (X:=MS t×X1 X) (HS:=λy=>y.1.heap g1 g2++((d,.cells 240 (mR y.2.2))::W y.2.1.1 y.2.1.2)) (H0:=[]) (m,((.go,a),aM []))
  (λj y=>j=(aQ (eE f (fG t but)) (dJ t) ((.go,a),aM [])).1/\y.2=(aQ (eE f (fG t but)) (dJ t) ((.go,a),aM [])).2)
  (λy args=> ∃g p E,dJ t=g++p::E/\(aQ (eE f (fG t but)) g ((.go,a),aM [])).1= .go/\y.2=(aQ (eE f (fG t but)) g ((.go,a),aM [])).2/\args=[.agg (bY p),I (gw p:Nat)])
  (λy args j y'=> ∀p,BC t.ms.length p->args=[.agg (bY p),I (gw p:Nat)]->j=(eE f (fG t but) y.2 p).1/\y'.2=(eE f (fG t but) y.2 p).2)
  (el [(1,.pi [tp t but g1 g2]),(2,.pi [Yv l2]),(3,.po d 0)]) rfl zj ?_ zq ?_ ?_ ?_
 ·intro u
  by_cases h1:u=1
  ·subst h1;exact .inr ⟨rfl,rfl⟩
  by_cases h2:u=2
  ·subst h2;exact .inr ⟨rfl,rfl⟩
  by_cases h3:u=3
  ·subst h3;exact .inr ⟨rfl,rfl⟩
  ·left
   have n1:cc u 1=false:=by rw[bx];intro e;exact h1 (be e)
   have n2:cc u 2=false:=by rw[bx];intro e;exact h2 (be e)
   have n3:cc u 3=false:=by rw[bx];intro e;exact h3 (be e)
   simp [el,n1,n2,n3]
 ·rintro l ⟨m,z⟩ args ⟨g,p,E,D,M,hz,rfl⟩
  refine⟨rfl,?_⟩
  simp only at hz ⊢
  have hg:=lI (t:=t) (p:=p) (by rw[D];simp)
  obtain⟨O,Z⟩:=sR h.Ax hg
  have hs:(aQ f (g.filter (fG t but)) a).1= .go:=zx
  have a1:=hy (g.filter (fG t but)) p (E.filter (fG t but))
  have P:=(df g).1 hs
  rw[VB]at P
  rw[P]at hz
  subst hz
  simp only
  have N:=Vz h D (fG t but)
  obtain⟨nq,hq⟩:=PB h (l:=g.filter (fG t but)) (λq hq=>lI zx)
  generalize AB (g.filter (fG t but))=q at*
  generalize hx:(aQ f (g.filter (fG t but)) a).2=x at*
  have o: ∀n,BC t.ms.length n->([.agg (bY p),I (gw p:Nat)]:List AV)=[.agg (bY n),I (gw n:Nat)]->n=p:=by
   intro n c e
   simp only[bs,AV.agg.injEq]at e
   exact(Ap h.Ax hg.len c.len (by simpa using e.1)).symm
  refine bc [.aI] rfl ⟨rfl,⟨rfl,rfl,rfl,a7 6⟩,trivial⟩<|ae (aq (t:=4) rfl)<|cC rfl ?_
  refine⟨rfl,?_⟩
  refine gm [(1,.pi [tp t but g1 g2]),(2,.pi [Yv l2]),(3,.po d 0),(4,.pi (bY p)),(5,I (gw p:Nat))]<|au (aa (aa (av ?_)))
  have V: ∃e:Bool,(e=true↔pZ p=pZ q):=by
   by_cases e:pZ p=pZ q
   ·exact⟨true,by simp [e]⟩
   ·exact⟨false,by simp [e]⟩
  obtain⟨e,he⟩:=V
  have H:e=true->decide (((gw p:Nat):Int)>1)=false:=zx
  cases e
  case' true=>
   have K:=H rfl
   refine Za [(13,true)] [.at 2,.op (B true)] 8 rfl rfl ⟨rfl,G6 rfl rfl O hq _ he,rfl,rfl,rfl,trivial⟩<|aG (ao (l:=[(1,.pi [tp t but g1 g2]),(2,.pi [Yv l2]),(3,.po d 0),(4,.pi (bY p)),(5,I (gw p:Nat)),(17,B false)]) ⟨rfl,rfl,rfl,rfl,rfl,congrArg B K,trivial⟩) ?_
  case' false=>
   refine Za [(13,false)] [.at 2,.op (B false)] 8 rfl rfl ⟨rfl,G6 rfl rfl O hq _ he,rfl,rfl,rfl,trivial⟩<|QM [(1,.pi [tp t but g1 g2]),(2,.pi [Yv l2]),(3,.po d 0),(4,.pi (bY p)),(5,I (gw p:Nat)),(17,B false)] ?_
  all_goals
   clear H he
   refine Za [(17,false)] [] 2 rfl rfl ⟨rfl,rfl,trivial⟩<|aT.yes rfl (bU (Hin:=m.heap g1 g2) (H0:=(d,.cells 240 (mR (aM q)))::W .go x) (Sv h but g1 g2 Z m) rfl rfl (aK _) rfl ?_)
   rintro r1 a2 ⟨rfl,Q,rfl⟩
   have a0:=Vw h but T U g1 g2 p
   have k:fG t but p=(pH t p&&vW t (ik but) p):=rfl
   have fin: ∀env,env 28=B (!fG t but p)->env 1= .pi [tp t but g1 g2]->env 2= .pi [Yv l2]->env 3= .po d 0->env 4= .pi (bY p)->env 5=I (gw p:Nat)->
     bB env (Q.heap g1 g2++((d,.cells 240 (mR (aM q)))::W .go x)) [] (el [(1,.pi [tp t but g1 g2]),(2,.pi [Yv l2]),(3,.po d 0),(4,.pi (bY p)),(5,I (gw p:Nat)),(28,B (!fG t but p))]) (Q.heap g1 g2++((d,.cells 240 (mR (aM q)))::W .go x)) []:=
    λenv R A C e3 e4 e5=>ao ⟨A,C,e3,e4,e5,R,trivial⟩
   cases S:pH t p
   case' false=>
    refine aT.xq (gs:=[(17,false),(23,true)]) (hs:=[]) (ls':=[]) rfl zx<|bh (ae (fin _ (by rw[k,S];rfl) rfl rfl rfl rfl rfl) ?_)
   case' true=>
    refine aT.xq (gs:=[(17,false),(23,false)]) (hs:=[.ret (B (vW t (ik but) p))]) (ls':=[]) rfl (by(repeat' (with_reducible apply cb));(all_goals first|(with_reducible exact trivial)|rfl|exact a0))<|bh (ae (fin _ (by rw[k,S];rfl) rfl rfl rfl rfl rfl) ?_)
   all_goals
    clear fin S
    refine ag (b:= !fG t but p) rfl (λG=>?_) (λG=>af ?_)
    ·have i:fG t but p=false:=by cases hv:fG t but p with
      |false=>rfl
      |true=>rw[hv]at G;cases G
     refine ay ⟨.go,(Q,((.go,x),aM q)),rfl,λn c e=>?_,az _⟩
     rw[o n c e,QK i]
     exact⟨rfl,rfl⟩
    ·have i:fG t but p=true:=by cases hv:fG t but p with
      |true=>rfl
      |false=>rw[hv]at G;cases G
     have s:=a1 (by rw[D,List.filter_append,bI i]) hs Q
     refine aa (aa (av ?_))
     refine kL 3 rfl rfl<|aG (cd (Wr _ _ _))<|ai (bP (Hin:=Q.heap g1 g2++W .go x) (H0:=[(d,.cells 240 (mR (aM q)))]) rfl (show Pn an (.yield l2) [] _ _ _ from⟨rfl,s⟩) rfl rfl (aK _) rfl ?_)
     rintro r2 a3 ⟨m2,rfl,rfl⟩
     refine aG (cd (Wr _ _ _).symm) ?_
     cases Y:(f x p).1.on with
     |false=>
      have N:(f x p).1≠.go:=λe=>by rw[e]at Y;cases Y
      refine eZ rfl<|ax rfl rfl<|ab ⟨.ret,(m2,(f x p,aM q)),rfl,λn c e=>?_,az _⟩
      rw[o n c e,KF i N]
      exact⟨rfl,rfl⟩
     |true=>
      have v:=NQ.1 Y
      refine eZ rfl<|aD rfl rfl<|W5 [.gI 2] rfl ⟨⟨rfl,rfl,rfl,rfl,a7 6⟩,trivial⟩ ?_
      refine⟨.go,(m2,((.go,(f x p).2),aM p)),rfl,λn c e=>?_,?_⟩
      ·rw[o n c e,RH i v]
       exact⟨rfl,rfl⟩
      ·rw[v]
       exact az _
 ·intro l lo hE
  have F:Zc t g1 g2 l (eE f (fG t but)) (λj y=>(l,lo j)::(d,.cells 240 (mR y.2))::W y.1.1 y.1.2) ((.go,a),aM []) (dJ t):=by
   intro g p E D M m
   refine(hE (m,(aQ (eE f (fG t but)) g ((.go,a),aM [])).2) _ ⟨g,p,E,D,M,rfl,rfl⟩).perm ap.symm ?_
   rintro r Ho ⟨j,y',hZ,rfl,rfl⟩
   obtain⟨A,C⟩:=hZ p (lI (by rw[D];simp)) rfl
   simp only at A C
   refine⟨_,ap.symm,y'.1,by rw[A],?_⟩
   rw[A,C]
  have hT:=Ky h but g1 g2 l _ _ _ F m
  refine hT.perm ap ?_
  rintro r Ho ⟨w,rfl⟩
  exact⟨_,ap,(aQ (eE f (fG t but)) (dJ t) ((.go,a),aM [])).1,(w,(aQ (eE f (fG t but)) (dJ t) ((.go,a),aM [])).2),⟨rfl,rfl⟩,rfl⟩
 ·rintro j ⟨w,y⟩ rD ⟨rfl,s⟩
  simp only at s ⊢
  subst s
  by_cases hs:(aQ f ((dJ t).filter (fG t but)) a).1= .go
  ·rw[(df _).1 hs]
   refine⟨.inl rfl,_,.bZ [],w.heap g1 g2++W (aQ f ((dJ t).filter (fG t but)) a).1 (aQ f ((dJ t).filter (fG t but)) a).2,⟨0,rfl,rfl⟩,.many zq trivial,⟨w,rfl⟩,?_⟩
   rw[hs,bi]
   exact b3 (az _) (bk _ _)
  ·obtain⟨A,C⟩:=(df _).2 hs
   rw[A,C]
   refine⟨.inr rfl,_,.bZ [],w.heap g1 g2++W (aQ f ((dJ t).filter (fG t but)) a).1 (aQ f ((dJ t).filter (fG t but)) a).2,⟨0,rfl,rfl⟩,.many zq trivial,⟨w,rfl⟩,?_⟩
   rw[bi]
   exact b3 (az _) (bk _ _)
theorem aJ.fair {t:aX}(h:t.OK){but:Int}(A:0<=but)(B:but<9223372036854775808){g1 g2 N:Nat}{X:Type}(f:X->List Nat->J×X)(U:X->Heap)(a:X){env:Env}{H H0:Heap}{D:List Nat}{Q:cI}{fo:Operand}{ps:List Nat}{la O:bN}(m:MS t)(env0:Env)
  (hx:bu env fo= .fn (.func 209) [] [.pi [tp t but g1 g2]]) (W:H=m.heap g1 g2++U a++H0) (T: ∀u,env0 u= .any\/(env0 u=env u/\(env u).bC=false)) (F: ∀u∈ps,u<N) (E:ps.length=2)
  (g: ∀l b p d v,jy t (ik but)=b++p::d->(aQ f b a).1= .go->BC t.ms.length p->
    aJ an (some l) N la (λe env' H' K=>e= .normal/\aJ an (some l) N O (λe _ H' _=>e=(f (aQ f b a).2 p).1.ex/\ ∃n:MS t,(n.heap g1 g2++U (f (aQ f b a).2 p).2).Sublist H') env' H' K) (ri ps [.agg (bY p),I (gw p:Nat)] env0) ((v:MS t).heap g1 g2++U (aQ f b a).2) [])
  (k: ∀(v:MS t) P,Q (aQ f (jy t (ik but)) a).1.ex env ((P,.iV)::(v.heap g1 g2++U (aQ f (jy t (ik but)) a).2++H0)) (P::D)):aJ an none N (.wP fo ps la O) Q env H D:=by
 have c: ∀{p},p∈jy t (ik but)->BC t.ms.length p:=λZ=>lI (b0.1 Z).1
 refine aJ.CD (X:=MS t×X) (HS:=λy=>y.1.heap g1 g2++U y.2) (H0:=H0) (m,a)
  (λj y=>j=(aQ f (jy t (ik but)) a).1/\y.2=(aQ f (jy t (ik but)) a).2)
  (λy args=> ∃b p d,jy t (ik but)=b++p::d/\(aQ f b a).1= .go/\y.2=(aQ f b a).2/\args=[.agg (bY p),I (gw p:Nat)])
  (λy args j G=> ∀p,BC t.ms.length p->args=[.agg (bY p),I (gw p:Nat)]->j=(f y.2 p).1/\G.2=(f y.2 p).2)
  env0 hx W T F ?_ ?_ ?_
 ·rintro l ⟨m,z⟩ args ⟨b,p,d,o,i,M,rfl⟩
  simp only at M ⊢
  subst M
  have hg:=c (p:=p) (by rw[o];simp)
  refine⟨by simp [E],(g l b p d m o i hg).mono ?_⟩
  rintro e env' H' K ⟨rfl,hw⟩
  refine⟨rfl,hw.mono ?_⟩
  rintro e x S R ⟨rfl,n,s⟩
  refine⟨_,(n,_),rfl,λp' C he=>?_,s⟩
  simp only[bs,AV.agg.injEq]at he
  rw[Ap h.Ax hg.len C.len zx]
  exact⟨rfl,rfl⟩
 ·intro l lo V
  have q:Zc t g1 g2 l f (λj y=>(l,lo j)::U y) a (jy t (ik but)):=by
   intro b p d o i m
   refine(V (m,(aQ f b a).2) _ ⟨b,p,d,o,i,rfl,rfl⟩).perm ap.symm ?_
   rintro r Ho ⟨j,G,Y,rfl,rfl⟩
   obtain⟨w,L⟩:=Y p (c (by rw[o];simp)) rfl
   simp only at w L
   refine⟨_,ap.symm,G.1,by rw[w],?_⟩
   rw[w,L]
  refine(SN h but A B g1 g2 l f _ a q m).perm ap ?_
  rintro r Ho ⟨v,rfl⟩
  exact⟨_,ap,_,(v,_),⟨rfl,rfl⟩,rfl⟩
 ·grind
theorem qP {env:Env}{l:List (Nat×AV)}(h:qX env l)(hl:l.all (λx=> !x.2.bC)=true): ∀u,el l u= .any\/(el l u=env u/\(env u).bC=false):=by
 induction l with
 |nil=>intro u;exact .inl rfl
 |cons x l c=>
  obtain⟨t,p⟩:=x;intro u;simp only[List.all_cons,Bool.and_eq_true]at hl;simp only[el];cases e:cc u t with
  |true=>have b:=be e;subst b;right;have a:=h.1;refine⟨by rw[a];rfl,?_⟩;rw[a];simpa using hl.1
  |false=>exact c h.2 hl.2 u
theorem Gh: ∀L:List (List Nat),aQ (λ(_:Bool) (_:List Nat)=>(J.ret,true)) L false=(if L.isEmpty=true then .go else .ret,!L.isEmpty)
 |[]=>rfl
 |_p::a=>rfl
theorem VK {t:aX}(h:t.OK){but:Int}(c:0<=but)(d:but<9223372036854775808)(g1 g2:Nat)(m:MS t):il an 208 [tp t but g1 g2] (m.heap g1 g2) (Ja t g1 g2 (B (!(jy t (ik but)).isEmpty))):=by
 refine bq aep.ok<|bc [.aI] rfl ⟨rfl,trivial⟩<|bM (t:=2) rfl λb2=>aa (aa ?_);refine iO [.ret (.fn (.func 209) [] [.pi [tp t but g1 g2]])] rfl ⟨zS t but g1 g2,trivial⟩<|ae (aj (ar (H':=(b2,.cells 4 [B false])::(m.heap g1 g2)) rfl) (cd (H':=m.heap g1 g2++[(b2,.cells 4 [B false])]) (a8 (l₁:=[_]))))<|au ?_;have g:=Gh (jy t (ik but));refine aJ.fair h c d (X:=Bool) (λ_ _=>(.ret,true)) (λx=>[(b2,.cells 4 [B x])]) false (H0:=[]) m (el [(2,.po b2 0)]) rfl zj (qP ⟨rfl,trivial⟩ rfl) zq rfl ?_ ?_
 ·intro l e p j b k a hg
  have hx:(aQ (λ(_:Bool) (_:List Nat)=>(J.ret,true)) e false).2=false:=by
   rw[Gh]at a ⊢;simp only at a ⊢;cases f:e.isEmpty with
   |true=>rfl
   |false=>rw[f]at a;simp at a
  rw[hx];refine af ⟨rfl,?_⟩;refine au<|lV [.gI 2] rfl ⟨⟨rfl,rfl,rfl,rfl,a7 1⟩,trivial⟩ ?_;exact ab ⟨rfl,b,az _⟩
 ·intro b o;rw[g];cases f:(jy t (ik but)).isEmpty with
  |true=>show aJ _ _ _ _ _ _ _ _;refine lV [.gI 3] rfl ⟨⟨rfl,rfl,rfl,rfl,a7 1⟩,trivial⟩<|ab ⟨.inr rfl,_,B false,b.heap g1 g2,⟨0,rfl,rfl⟩,.one (.dw (n:=none) (i:=2) (cs:=[B false]) rfl rfl zw rfl),⟨rfl,b,rfl⟩,?_⟩;exact bA _ _
  |false=>refine⟨.inr rfl,_,B true,b.heap g1 g2,⟨0,rfl,rfl⟩,.one (.dw (n:=none) (i:=2) (cs:=[B true]) rfl rfl zw rfl),⟨rfl,b,rfl⟩,?_⟩;exact bA (b.heap g1 g2) _
theorem Gb (t:aX)(but:Int):il an 207 [.agg t.enc,I but] [] (λr Ho=> ∃g1 g2,r=tp t but g1 g2/\Ho=(MS.new t).heap g1 g2):=by refine bq acu.ok<|bc [.bW] rfl ⟨⟨rfl,rfl⟩,trivial⟩<|aa (av ?_);refine kL 2 rfl rfl<|ai (aF.sU λg1=>?_);refine ai (aF.sU λg2=>?_);refine Sc [.bW] rfl ⟨⟨rfl,rfl⟩,trivial⟩<|ae (cd (H':=(MS.new t).heap g1 g2) (b8 _ _ _)) ?_;exact ab ⟨.inr rfl,_,tp t but g1 g2,(MS.new t).heap g1 g2,rfl,.one (.tmp rfl rfl),⟨g1,g2,rfl,rfl⟩,az _⟩
theorem CP (t:aX)(E:t.wf):Ev an 55 [.agg t.enc] (.bZ [I (iQ t).1,I (iQ t).2.1,I (iQ t).2.2]):=by
 have g:=Ir t.gz E.gz;have C:(t.ms.map eY.enc).length=t.ms.length:=b6 _;have D:(t.fr.map ry.enc).length=t.fr.length:=b6 _;have eb:=mh 1 4 [t.vC];have res: ∀{Q:cI} {env:Env} {H:Heap} {x y r:Int},(∀env H,pD an [.tmp 2,.tmp 3,.tmp 4] (.bZ [I (iQ t).1,I (iQ t).2.1,I (iQ t).2.2]) .ret env H []->Q .ret env H [])->iQ t=(x,y,r)->env 2=I x->env 3=I y->env 4=I r->Q .ret env H []:=by intro Q env H x y r A h d z h4;refine A _ _ ?_;rw[h];exact fh (.inr rfl) (.many zq ⟨.tmp d rfl,.tmp z rfl,.tmp h4 rfl,trivial⟩)
 have a:iQ t=if (check t.gz).2.2≠0 then(1,0,(check t.gz).2.2)else if ah 1 4 [t.vC]=true then(2,0,7)
  else if 5<t.ms.length then(3,0,3)
  else if (aA (lC t) t.ms.length 0).2≠0 then(3,(aA (lC t) t.ms.length 0).1,(aA (lC t) t.ms.length 0).2)
  else if 4<t.fr.length then(4,0,3)
  else if (aA (lG t) t.fr.length 0).2≠0 then(4,(aA (lG t) t.fr.length 0).1,(aA (lG t) t.fr.length 0).2)
  else(0,0,0):=rfl
 have f:(check t.gz).2.2=0->t.gz.ss.length<=5:=λh=>(qe.1 h).Vf
 have m:ah 1 4 [t.vC]=false->1<=t.vC/\t.vC<=4:=by
  intro h;have q: ¬ah 1 4 [t.vC]=true:=by rw[h];decide
  rw[cF,cA]at q;exact q
 generalize (check t.gz).1=c1 at g;generalize (check t.gz).2.1=w at g;generalize (check t.gz).2.2=p at g a f;generalize ah 1 4 [t.vC]=o at eb a m;refine ak S55.ok<|bc [.bW] rfl ⟨⟨rfl,rfl⟩,trivial⟩<|aa (aa ?_);refine iO [.ret (.bZ [I c1,I w,I p])] rfl ⟨g,trivial⟩<|aa<|cC rfl ?_;by_cases h:p=0
 case neg=>rw[if_pos h]at a;refine ag (b:=true) (by show B _=B _;exact congrArg B zx) (λ_=>?_) (λh=>by cases h);refine aC rfl ?_;exact ab (res (λ_ _ h=>h) a rfl rfl rfl)
 rw[if_neg (by simp [h])]at a;refine ag (b:=false) (by show B _=B _;exact congrArg B (by rw[h];rfl)) (λh=>by cases h) (λ_=>af ?_);refine aJ.nV<|bc [.bW,.ret (B o)] rfl (by(repeat' (with_reducible apply cb));(all_goals first|exact zk _|((first|exact eb)))) ?_;cases o with
 |true=>rw[if_pos rfl]at a;refine ax rfl rfl<|aC rfl ?_;exact ab (res (λ_ _ h=>h) a rfl rfl rfl)
 |false=>
 rw[if_neg zq]at a;refine cJ rfl rfl<|aC rfl ?_;by_cases s:5<t.ms.length
 ·rw[if_pos s]at a;refine ag (b:=true) (by show B _=B _;exact congrArg B (decide_eq_true zz)) (λ_=>?_) (λh=>by cases h);refine aC rfl ?_;exact ab (res (λ_ _ h=>h) a rfl rfl rfl)
 rw[if_neg s]at a;refine ag (b:=false) (by show B _=B _;exact congrArg B (decide_eq_false zz)) (λh=>by cases h) (λ_=>af ?_);have n:t.gz.ss.length<=1000:=zx
 have e:t.ms.length<=1000:=zz
 have c: -9223372036854775807<=t.vC/\t.vC<=9223372036854775807:=zx
 have j:=Ge t.ms 105 [.pi t.enc] (lC t) (λi x hx=>by
  have:=OO t x i c.1 c.2 e n
  rw[show lC t i=qc t x i by unfold lC;rw[hx]]
  exact this)
 have k:=Ie t.fr 108 [.pi t.enc] (lG t) (λi x hx=>by
  have:=On t x i e
  rw[show lG t i=E2 t x by unfold lG;rw[hx]]
  exact this)
 generalize (aA (lC t) t.ms.length 0).1=G at j a;generalize (aA (lC t) t.ms.length 0).2=v at j a;generalize (aA (lG t) t.fr.length 0).1=F at k a;generalize (aA (lG t) t.fr.length 0).2=u at k a;refine aa (aa ?_);refine iO [.ret (.bZ [I G,I v])] rfl ⟨j,trivial⟩<|aa<|cC rfl ?_;by_cases l:v=0
 case neg=>rw[if_pos l]at a;refine ag (b:=true) (by show B _=B _;exact congrArg B zx) (λ_=>?_) (λh=>by cases h);refine aC rfl ?_;exact ab (res (λ_ _ h=>h) a rfl rfl rfl)
 rw[if_neg (by simp [l])]at a;refine ag (b:=false) (by show B _=B _;exact congrArg B (by rw[l];rfl)) (λh=>by cases h) (λ_=>af ?_);refine aa (aa ?_);refine cC rfl ?_;by_cases h4:4<t.fr.length
 ·rw[if_pos h4]at a;refine ag (b:=true) (by show B _=B _;exact congrArg B (decide_eq_true zz)) (λ_=>?_) (λh=>by cases h);refine aC rfl ?_;exact ab (res (λ_ _ h=>h) a rfl rfl rfl)
 rw[if_neg h4]at a;refine ag (b:=false) (by show B _=B _;exact congrArg B (decide_eq_false zz)) (λh=>by cases h) (λ_=>af ?_);refine bc [.ret (.bZ [I F,I u])] rfl ⟨k,trivial⟩<|aa (aa ?_);refine cC rfl ?_;by_cases d:u=0
 case neg=>rw[if_pos d]at a;refine ag (b:=true) (by show B _=B _;exact congrArg B zx) (λ_=>?_) (λh=>by cases h);refine aC rfl ?_;exact ab (res (λ_ _ h=>h) a rfl rfl rfl)
 rw[if_neg (by simp [d])]at a;refine ag (b:=false) (by show B _=B _;exact congrArg B (by rw[d];rfl)) (λh=>by cases h) (λ_=>af ?_);refine aC rfl ?_;exact ab (res (λ_ _ h=>h) a rfl rfl rfl)
end Go.Px
