/- Part 14 of the proof of a statement of this seat (a logic of pure contracts; the functions; their contracts). No conditions. -/
import Derived.Test.YtjjmmbcmdheooaaGreatDoorA13
open And renaming intro->a7
open Bool renaming or_eq_false_iff->bk,and_eq_true->bx,eq_iff_iff->b9,or_eq_true->cb
open Classical renaming not_not->de
open Go.Proofs.Tryz renaming prog->an
open Int renaming le_refl->bI,le_trans->cR
open List renaming range->ad,length_map->ap,length_append->az,mem_singleton->a6,getElem?_cons_zero->a8,length_singleton->be,mem_flatMap->bi,mem_of_getElem?->bm,getElem?_eq_some_iff->bn,getElem?_eq_getElem->bs,mem_cons->bt,flatMap_assoc->b0,flatMap_cons->b1,foldl_append->b3,getElem?_set->b4,mem_map->b6,flatMap_nil->b7,length_cons->b8,append_nil->cc,length_nil->cr,range_succ->cA,map_take->cD
open List.Pairwise renaming imp_of_mem->cB,filter->c7,imp->dk
open Nat renaming le_refl->c8
open Option renaming getD_some->bA
open Prod renaming ext->dl
namespace Go.Px
def gw (p:List Nat):Nat:=p.foldl (λm k=>max m (k+1)) 0
theorem wO (p:List Nat)(k:Nat):gw (p++[k])=max (gw p) (k+1):=by unfold gw;rw[b3];rfl
def sB (p:List Nat):List (List Nat):=(ad (gw p+1)).map λk=>p++[k]
def gF:Nat->List (List Nat)
 |0=>[[]]
 |n+1=>(gF n).flatMap sB
def ji:Nat->List Nat->List (List Nat)
 |0,p=>[p]
 |m+1,p=>(sB p).flatMap (ji m)
theorem vO: ∀(m:Nat) (p:List Nat),ji (m+1) p=(ji m p).flatMap sB
 |0,p=>by
  simp only[ji,b1,b7,cc]
  exact List.flatMap_singleton' _
 |m+1,p=>by
  show (sB p).flatMap (ji (m+1))=((sB p).flatMap (ji m)).flatMap sB
  rw[b0]
  congr 1
  funext q
  exact vO m q
theorem xl: ∀n:Nat,gF n=ji n []
 |0=>rfl
 |n+1=>by rw[vO,<-xl n];rfl
theorem yw: ∀(m:Nat) (p:List Nat),∀q∈ji m p,q.length=p.length+m/\q.take p.length=p
 |0,p,q,h=>by
  simp only[ji,a6]at h
  subst h
  exact⟨rfl,List.take_length⟩
 |m+1,p,q,h=>by
  simp only[ji,bi,sB,b6,List.mem_range]at h
  obtain⟨r,⟨k,hk,rfl⟩,c⟩:=h
  obtain⟨b,a⟩:=yw m (p++[k]) q c
  rw[az,be]at b a
  refine⟨zz,?_⟩
  have:=congrArg (List.take p.length) a
  rw[List.take_take,Nat.min_eq_left zz,List.take_left]at this
  exact this
def rU (apart:Nat->Nat->Bool)(last:List Nat->Bool):Nat->List Nat->List (List Nat)
 |0,p=>if last p=true then[p]else[]
 |m+1,p=>(ad (gw p+1)).flatMap λk=>if (ad p.length).all (λj=> !(p[j]? ==some k&&apart j p.length))=true then rU apart last m (p++[k])else[]
def jw (apart:Nat->Nat->Bool)(p:List Nat):Bool:=(ad p.length).all λi=>(ad i).all λj=> !(p[j]? ==p[i]? &&apart j i)
theorem rQ (apart:Nat->Nat->Bool)(p:List Nat)(k:Nat):jw apart (p++[k])=(jw apart p&&(ad p.length).all (λj=> !(p[j]? ==some k&&apart j p.length))):=by
 unfold jw;rw[az,be,cA,List.all_append,List.all_cons,List.all_nil,Bool.and_true];congr 1
 ·grind
 ·grind
theorem Gq (apart:Nat->Nat->Bool){p q:List Nat}(h:q.take p.length=p)(a:jw apart q=true):jw apart p=true:=by grind [jw]
theorem vp (apart:Nat->Nat->Bool)(last:List Nat->Bool): ∀(m:Nat) (p:List Nat),jw apart p=true->rU apart last m p=(ji m p).filter λq=>jw apart q&&last q
 |0,p,h=>by
  simp only[rU,ji]
  by_cases hl:last p=true
  ·rw[if_pos hl];simp [h,hl]
  ·rw[if_neg hl];simp [hl]
 |m+1,p,h=>by
  simp only[rU,ji,sB]
  rw[List.flatMap_map,List.filter_flatMap]
  congr 1
  funext k
  by_cases hk:(ad p.length).all (λj=> !(p[j]? ==some k&&apart j p.length))=true
  ·rw[if_pos hk]
   exact vp apart last m (p++[k]) (by rw[rQ,h,hk];rfl)
  ·rw[if_neg hk]
   symm
   rw[List.filter_eq_nil_iff]
   intro q b hc
   simp only[bx]at hc
   have a:=Gq apart (yw m (p++[k]) q b).2 hc.1
   rw[rQ,bx]at a
   exact hk a.2
structure eY where
 sp:Int
 v:Int
 lo:Int
 hi:Int
 par:Int
 deriving DecidableEq
structure ry where
 a:Int
 b:Int
 same:Bool
 deriving DecidableEq
structure aX where
 gz:dv
 vC:Int
 ms:List eY
 fr:List ry
abbrev Sp:=Int×Int
def nT (x y:Sp):Sp:=(max x.1 (y.1-60),min x.2 (y.2-15))
def mm (x y:Sp):Sp:=(max y.1 (x.1+15),min y.2 (x.2+60))
def cu (b:List Sp)(k:Nat):Sp:=(b[k]?).getD (0,0)
def fZ (b:List Sp)(par ch:Nat):List Sp:=(b.set par (nT (cu b par) (cu b ch))).set ch (mm (cu b par) (cu b ch))
def kU (b:List Sp)(par ch:Nat):Bool:=decide (nT (cu b par) (cu b ch)≠cu b par)||decide (mm (cu b par) (cu b ch)≠cu b ch)
def kids (ms:List eY)(p:List Nat):List (Nat×Nat):=(ad ms.length).filterMap λi=>match ms[i]? with
 |some x=>if x.par= -1 then none else some ((p[x.par.toNat]?).getD 0,(p[i]?).getD 0)
 |none=>none
def aW:List (Nat×Nat)->List Sp×Bool->List Sp×Bool
 |[],s=>s
 |(a,c)::l,s=>aW l (fZ s.1 a c,s.2||kU s.1 a c)
def bX (b:List Sp):Bool:=b.any λs=>decide (s.1>s.2)
def iC (ks:List (Nat×Nat)):Nat->List Sp->List Sp
 |0,b=>b
 |f+1,b=>if bX b=true then b else if (aW ks (b,false)).2=true then iC ks f (aW ks (b,false)).1 else(aW ks (b,false)).1
def width (b:List Sp):Nat:=(b.map λs=>(s.2-s.1).toNat).sum
def BI (x y:Sp):Prop:=y.1<=x.1/\x.2<=y.2
def nF (b c:List Sp):Prop:=b.length=c.length/\ ∀k,BI (cu b k) (cu c k)
theorem nF.refl (b:List Sp):nF b b:=⟨rfl,λ_=>⟨bI _,bI _⟩⟩
theorem nF.trans {a b c:List Sp}(h:nF a b)(g:nF b c):nF a c:=
 ⟨h.1.trans g.1,λk=>⟨cR (g.2 k).1 (h.2 k).1,cR (h.2 k).2 (g.2 k).2⟩⟩
theorem rW (b:List Sp)(i k:Nat)(x:Sp)(h:i<b.length):cu (b.set i x) k=if i=k then x else cu b k:=by grind [cu]
theorem AZ {b:List Sp}{a c:Nat}(ha:a<b.length)(hc:c<b.length):nF (fZ b a c) b/\(kU b a c=false->fZ b a c=b):=by
 constructor
 ·refine⟨by simp [fZ],λk=>?_⟩;unfold fZ;rw[rW _ _ _ _ zx,rW _ _ _ _ ha];by_cases d:c=k
  ·rw[if_pos d];subst d;simp only[BI,mm];omega
  ·rw[if_neg d];by_cases e:a=k
   ·rw[if_pos e];subst e;simp only[BI,nT];omega
   ·rw[if_neg e];exact⟨bI _,bI _⟩
 ·intro h;unfold kU at h;simp only[bk,decide_eq_false_iff_not,de]at h;unfold fZ;rw[h.1,h.2];apply List.ext_getElem?;intro k;rw[b4,b4];by_cases d:c=k
  ·subst d;rw[if_pos rfl,List.length_set,if_pos hc];unfold cu;rw[bs hc];rfl
  ·rw[if_neg d];by_cases e:a=k
   ·subst e;rw[if_pos rfl,if_pos ha];unfold cu;rw[bs ha];rfl
   ·rw[if_neg e]
theorem gX: ∀(ks:List (Nat×Nat)) (b:List Sp) (m:Bool),(∀k∈ks,k.1<b.length/\k.2<b.length)->nF (aW ks (b,m)).1 b/\((aW ks (b,m)).2=false->(aW ks (b,m)).1=b/\m=false)
 |[],b,m,_=>⟨nF.refl b,λh=>⟨rfl,h⟩⟩
 |(a,c)::ks,b,m,h=>by
  obtain⟨ha,hc⟩:=h (a,c) zj
  obtain⟨s1,g⟩:=AZ (b:=b) ha hc
  have hl:=s1.1
  obtain⟨e,f⟩:=gX ks (fZ b a c) (m||kU b a c) (λk hk=>by rw[hl];exact h k (by simp [hk]))
  simp only[aW]
  refine⟨e.trans s1,λd=>?_⟩
  obtain⟨g1,g2⟩:=f d
  rw[bk]at g2
  exact⟨by rw[g1];exact g g2.2,g2.1⟩
theorem yy (x:Sp)(b:List Sp):bX (x::b)=(decide (x.1>x.2)||bX b):=rfl
theorem Ao: ∀{b c:List Sp},nF b c->bX c=true->bX b=true
 |[],[],_,h=>h
 |[],_::_,h,_=>by have:=h.1;simp at this
 |_::_,[],h,_=>by have:=h.1;simp at this
 |x::b,y::c,h,g=>by
  have a:=h.2 0
  have d:nF b c:=⟨by have:=h.1;simpa using this,λk=>by have:=h.2 (k+1);simpa [cu]using this⟩
  rw[yy,cb,decide_eq_true_eq]at g ⊢
  simp only[cu,BI,a8,bA]at a
  rcases g with g|g
  ·left;omega
  ·right;exact Ao d g
theorem wH: ∀{b c:List Sp},nF b c->width b<=width c/\(bX b=false->width b=width c->b=c)
 |[],[],_=>⟨c8 _,λ_ _=>rfl⟩
 |[],_::_,h=>by have:=h.1;simp at this
 |_::_,[],h=>by have:=h.1;simp at this
 |x::b,y::c,h=>by
  have e:=h.2 0
  have g:nF b c:=⟨by have:=h.1;simpa using this,λk=>by have:=h.2 (k+1);simpa [cu]using this⟩
  obtain⟨l,i⟩:=wH g
  simp only[cu,BI,a8,bA]at e
  have a:width (x::b)=(x.2-x.1).toNat+width b:=by simp [width]
  have d:width (y::c)=(y.2-y.1).toNat+width c:=by simp [width]
  rw[a,d]
  refine⟨zz,λhe j=>?_⟩
  rw[yy,bk,decide_eq_false_iff_not]at he
  have f:=i he.2 zz
  have h4:x=y:=dl zz zz
  rw[f,h4]
theorem nF.antisymm: ∀{b c:List Sp},nF b c->nF c b->b=c
 |[],[],_,_=>rfl
 |[],_::_,h,_=>by have:=h.1;simp at this
 |_::_,[],h,_=>by have:=h.1;simp at this
 |x::b,y::c,h,g=>by
  have e:=h.2 0
  have a:=g.2 0
  have f:nF b c:=⟨by have:=h.1;simpa using this,λk=>by have:=h.2 (k+1);simpa [cu]using this⟩
  have d:nF c b:=⟨by have:=g.1;simpa using this,λk=>by have:=g.2 (k+1);simpa [cu]using this⟩
  simp only[cu,BI,a8,bA]at e a
  rw[nF.antisymm f d,show x=y from dl zz zz]
theorem HK {b:List Sp}{a c:Nat}(ha:a<b.length)(hc:c<b.length)(d:a≠c)(h:fZ b a c=b):kU b a c=false:=by grind [cu,fZ,kU]
theorem nw: ∀(ks:List (Nat×Nat)) (b:List Sp) (m:Bool),(∀k∈ks,k.1<b.length/\k.2<b.length/\k.1≠k.2)->(aW ks (b,m)).1=b->(aW ks (b,m)).2=m
 |[],b,m,_,_=>rfl
 |(a,c)::ks,b,m,h,e=>by
  obtain⟨ha,hc,d⟩:=h (a,c) zj
  obtain⟨s1,_⟩:=AZ (b:=b) ha hc
  have hl:=s1.1
  simp only[aW]at e ⊢
  obtain⟨f,_⟩:=gX ks (fZ b a c) (m||kU b a c) (λk hk=>by rw[hl];exact⟨(h k (by simp [hk])).1,(h k (by simp [hk])).2.1⟩)
  rw[e]at f
  have eb:fZ b a c=b:=nF.antisymm s1 f
  have em:=HK ha hc d eb
  rw[eb,em,Bool.or_false]at e ⊢
  exact nw ks b m (λk hk=>h k (by simp [hk])) e
section
variable {ks:List (Nat×Nat)}
theorem rN: ∀(f g:Nat) (b:List Sp),(∀k∈ks,k.1<b.length/\k.2<b.length/\k.1≠k.2)->width b<f->width b<g->iC ks f b=iC ks g b
 |0,_,_,_,h,_=>zz
 |_,0,_,_,_,h=>zz
 |f+1,g+1,b,hk,l,hg=>by
  simp only[iC]
  by_cases he:bX b=true
  ·rw[if_pos he,if_pos he]
  rw[if_neg he,if_neg he]
  by_cases hm:(aW ks (b,false)).2=true
  ·rw[if_pos hm,if_pos hm]
   obtain⟨s1,_⟩:=gX ks b false (λk h=>⟨(hk k h).1,(hk k h).2.1⟩)
   obtain⟨w1,j⟩:=wH s1
   have c: ∀k∈ks,k.1<(aW ks (b,false)).1.length/\k.2<(aW ks (b,false)).1.length/\k.1≠k.2:=λk h=>by rw[s1.1];exact hk k h
   by_cases a:bX (aW ks (b,false)).1=true
   ·have i: ∀n,iC ks n (aW ks (b,false)).1=(aW ks (b,false)).1:=by
     intro n
     cases n with
     |zero=>rfl
     |succ n=>simp only[iC];rw[if_pos a]
    rw[i,i]
   ·have d:(aW ks (b,false)).1≠b:=λe=>by
     rw[nw ks b false hk e]at hm;cases hm
    have:width (aW ks (b,false)).1≠width b:=λh=>d (j (by simpa using a) h)
    exact rN f g _ c zz zz
  ·rw[if_neg hm,if_neg hm]
def kY (ks:List (Nat×Nat))(b:List Sp):List Sp:=iC ks (width b+1) b
theorem qw {b:List Sp}(h:bX b=true):kY ks b=b:=by unfold kY;simp only[iC];rw[if_pos h]
theorem yY {b:List Sp}(h:bX b=false)(hm:(aW ks (b,false)).2=false):kY ks b=(aW ks (b,false)).1:=by unfold kY;simp only[iC];rw[if_neg (by simp [h]),if_neg (by simp [hm])]
theorem yz {b:List Sp}(hk: ∀k∈ks,k.1<b.length/\k.2<b.length/\k.1≠k.2)(h:bX b=false)(hm:(aW ks (b,false)).2=true):kY ks b=kY ks (aW ks (b,false)).1:=by
 obtain⟨s1,_⟩:=gX ks b false (λk h=>⟨(hk k h).1,(hk k h).2.1⟩);have c: ∀k∈ks,k.1<(aW ks (b,false)).1.length/\k.2<(aW ks (b,false)).1.length/\k.1≠k.2:=λk h=>by rw[s1.1];exact hk k h
 by_cases a:bX (aW ks (b,false)).1=true
 ·rw[qw a];unfold kY;simp only[iC];rw[if_neg (by simp [h]),if_pos hm];cases j:width b with
  |zero=>rfl
  |succ n=>simp only[iC];rw[if_pos a]
 ·obtain⟨w1,i⟩:=wH s1;have d:(aW ks (b,false)).1≠b:=λe=>by rw[nw ks b false hk e]at hm;cases hm
  have g:width (aW ks (b,false)).1≠width b:=λh=>d (i zx h);have f:kY ks b=iC ks (width b) (aW ks (b,false)).1:=by unfold kY;simp only[iC];rw[if_neg (by simp [h]),if_pos hm]
  rw[f];exact rN _ _ _ c zz zz
theorem F2 {b:List Sp}(hk: ∀k∈ks,k.1<b.length/\k.2<b.length/\k.1≠k.2)(hm:(aW ks (b,false)).2=true)(he:bX (aW ks (b,false)).1=false):width (aW ks (b,false)).1<width b:=by
 obtain⟨s1,_⟩:=gX ks b false (λk h=>⟨(hk k h).1,(hk k h).2.1⟩);obtain⟨w1,d⟩:=wH s1;have a:(aW ks (b,false)).1≠b:=λe=>by rw[nw ks b false hk e]at hm;cases hm
 have c:width (aW ks (b,false)).1≠width b:=λh=>a (d he h);omega
end
open Go.Proofs
theorem HY (n lo hi:Int):Ev an 194 [I n,.pi [I lo],.pi [I hi]] (B (decide (n<lo)||decide (n>hi))):=by
 refine ak aft.ok<|aC rfl ?_;by_cases h:n<lo
 ·refine uk [(8,true)] [] rfl (by simp [h])<|ab (aB ?_);show B _=B _;simp [h]
 ·refine uk [(8,false)] [] rfl (by simp [h])<|ab (aB ?_);show B _=B _;simp [h]
theorem mh (lo hi:Int)(l:List Int):Ev an 103 [I lo,I hi,ints l] (B (ah lo hi l)):=by refine ak ae0.ok<|bc [.bW,.bW] rfl ⟨⟨rfl,rfl⟩,⟨rfl,rfl⟩,trivial⟩<|bc [.ret (B (ah lo hi l))] rfl ⟨jg l _ _ _ (λn _=>HY n lo hi),trivial⟩<|ab (aB ?_);rfl
theorem zg (set:Int)(n:Nat)(a:0<=set)(f:set<9223372036854775808)(g:n<=60):Ev an 312 [I set,I n] (.aI 3 1 ((cM set n).map λx=>[I x])):=by
 refine ak acw.ok<|aC rfl<|aa (aa ?_);refine cC rfl<|bE True (el [(4,.aI 3 1 ((cM set n).map λx=>[I x]))]) [] [] ?_ ?_
 ·refine dE (λk:Nat=>k<=n) (λk=>el [(0,I set),(4,.aI 3 1 ((cM set k).map λx=>[I x])),(6,I n),(7,I k)]) (λk=>n-k) 0 zz
   (aj (bB.ln (t:=4) 3 1 rfl) eL) ?_
  intro k hk;refine aC rfl<|aa (ag rfl (λhc=>?_) (λhc=>?_))
  ·simp only[nL]at hc;have d:0<=set/2^((k:Nat):Int).toNat:=Int.ediv_nonneg a (Int.le_of_lt (Int.pow_pos zz));have e:set/2^((k:Nat):Int).toNat<=set:=Int.ediv_le_self _ a;refine af (aa (au ?_));refine aC rfl<|aa<|dS rfl ⟨⟨a,zz,zz⟩,⟨⟨d,zz⟩,zz,zz⟩,trivial⟩<|ag (b:=cN set k) rfl (λc=>?_) (λc=>?_)
   ·have hl:=nG set k;refine iO [.bW] rfl ⟨rfl,⟨by simp only[ap,chunk,b8,cr];omega,by simp only[ap,chunk,b8,cr];omega⟩,trivial⟩<|dS rfl ⟨zz,trivial⟩ ?_;refine⟨k+1,hc,zz,ao ⟨rfl,?_,rfl,rfl,trivial⟩⟩;show AV.aI 3 1 _=AV.aI 3 1 _;rw[ia,c,List.map_append];rfl
   ·refine af<|dS rfl ⟨zz,trivial⟩ ?_;refine⟨k+1,hc,zz,ao ⟨rfl,?_,rfl,rfl,trivial⟩⟩;show AV.aI 3 1 _=AV.aI 3 1 _;rw[ia,c];simp
  ·simp only[nL]at hc;have:k=n:=zz
   subst this;exact ay ⟨(),trivial,eL⟩
 ·intro _ _;refine aC rfl ?_;exact ab (fh (.inr rfl) (.aI rfl rfl))
abbrev eY.enc (x:eY):List AV:=[I x.sp,I x.v,I x.lo,I x.hi,I x.par]
abbrev nk (l:List eY):AV:=.sl 5 (l.map eY.enc)
abbrev ry.enc (x:ry):List AV:=[I x.a,I x.b,B x.same]
abbrev pg (l:List ry):AV:=.sl 3 (l.map ry.enc)
abbrev aX.enc (t:aX):List AV:=t.gz.enc++[I t.vC,nk t.ms,pg t.fr]
structure eY.wf (x:eY):Prop where
 OS: -9223372036854775808<=x.sp
 NN:x.sp<=9223372036854775807
 v0: -9223372036854775808<=x.v
 v1:x.v<=9223372036854775807
 Ul: -9223372036854775808<=x.lo
 lo1:x.lo<=9223372036854775807
 ud: -9223372036854775808<=x.hi
 Mr:x.hi<=9223372036854775807
 Ce: -9223372036854775808<=x.par
 Ca:x.par<=9223372036854775807
def qc (t:aX)(x:eY)(at_:Int):Int:=
 if ((ah 0 ((t.gz.ss.length:Int)-1) [x.sp]||ah (-1) (t.vC-1) [x.v])||ah (-1) ((t.ms.length:Int)-1) [x.par])=true then 4
 else if ah 0 199 [x.lo,x.hi]=true then 7
 else if x.hi<x.lo\/x.par=at_ then 2 else 0
theorem Be (t:aX)(x:eY)(at_:Int)(l: -9223372036854775807<=t.vC)(m:t.vC<=9223372036854775807)(j:t.ms.length<=1000)(k:t.gz.ss.length<=1000):Ev an 106 [.agg t.enc,I at_,.agg x.enc] (I (qc t x at_)):=by
 have e:(t.gz.ss.map cQ.enc).length=t.gz.ss.length:=ap _;have d:(t.ms.map eY.enc).length=t.ms.length:=ap _;have b:=mh 0 (((t.gz.ss.map cQ.enc).length:Int)-1) [x.sp];have b2:=mh (-1) (t.vC-1) [x.v];have f:=mh (-1) (((t.ms.map eY.enc).length:Int)-1) [x.par];have i:=mh 0 199 [x.lo,x.hi]
 have a:qc t x at_=if ((ah 0 (((t.gz.ss.map cQ.enc).length:Int)-1) [x.sp]||ah (-1) (t.vC-1) [x.v])||ah (-1) (((t.ms.map eY.enc).length:Int)-1) [x.par])=true then 4
  else if ah 0 199 [x.lo,x.hi]=true then 7
  else if x.hi<x.lo\/x.par=at_ then 2 else 0:=by rw[e,d];rfl
 generalize ah 0 (((t.gz.ss.map cQ.enc).length:Int)-1) [x.sp]=c1 at b a;generalize ah (-1) (t.vC-1) [x.v]=c2 at b2 a;generalize ah (-1) (((t.ms.map eY.enc).length:Int)-1) [x.par]=c3 at f a;generalize ah 0 199 [x.lo,x.hi]=c4 at i a;refine ak adg.ok<|bc [.bW,.bW] rfl ⟨⟨rfl,rfl⟩,⟨rfl,rfl⟩,trivial⟩<|aJ.nV<|dZ True (el [(1,I at_),(5,.pi x.enc),(7,B ((c1||c2)||c3))]) [] [] ?_ ?_
 ·cases c1 with
  |true=>refine js [(17,true),(26,true)] [.bW,.ret (B true)] rfl (by(repeat' (with_reducible apply a7));(all_goals first|exact zk _|((first|exact b)))) ?_;exact⟨(),trivial,eL⟩
  |false=>
   cases c2 with
   |true=>refine js [(17,false),(26,true)] [.bW,.ret (B false),.bW,.ret (B true)] rfl (by(repeat' (with_reducible apply a7));(all_goals first|exact zk _|((first|exact b|exact b2)))) ?_;exact⟨(),trivial,eL⟩
   |false=>refine js [(17,false),(26,false)] [.bW,.ret (B false),.bW,.ret (B false),.bW,.ret (B c3)] rfl (by(repeat' (with_reducible apply a7));(all_goals first|exact zk _|((first|exact b|exact b2|exact f)))) ?_;exact⟨(),trivial,eL⟩
 intro _ _;refine ag rfl (λh=>?_) (λh=>?_)
 ·rw[if_pos h]at a;rw[a];refine aC rfl<|ab (aB ?_);rfl
 rw[if_neg (by simp [h])]at a;refine bc [.bW,.ret (B c4)] rfl (by(repeat' (with_reducible apply a7));(all_goals first|exact zk _|((first|exact i)))) ?_;cases c4 with
 |true=>rw[if_pos rfl]at a;rw[a];refine ax rfl rfl<|aC rfl<|ab (aB ?_);rfl
 |false=>
  rw[if_neg zq]at a;refine cJ rfl rfl<|dZ True (el [(45,B (decide (x.hi<x.lo\/x.par=at_)))]) [] [] ?_ ?_
  ·by_cases c:x.hi<x.lo
   ·have g:decide (x.lo>x.hi)=true:=decide_eq_true c;refine js [(53,true)] [] rfl (by(repeat' (with_reducible apply a7));(all_goals first|exact zk _|((skip)))) ?_;exact⟨(),trivial,ao ⟨by show B _=B _;exact congrArg B (decide_eq_true (.inl c)).symm,trivial⟩⟩
   ·have g:decide (x.lo>x.hi)=false:=decide_eq_false c;refine js [(53,false)] [] rfl (by(repeat' (with_reducible apply a7));(all_goals first|exact zk _|((skip)))) ?_;exact⟨(),trivial,ao ⟨by show B _=B _;refine congrArg B ?_;rw[b9];simp [c],trivial⟩⟩
  intro _ _;refine ag rfl (λh=>?_) (λh=>af ?_)
  ·rw[if_pos (of_decide_eq_true h)]at a;rw[a];refine aC rfl<|ab (aB ?_);rfl
  ·rw[if_neg (of_decide_eq_false h)]at a;rw[a];refine aC rfl<|ab (aB ?_);rfl
theorem OO (t:aX)(x:eY)(i:Int)(c: -9223372036854775807<=t.vC)(d:t.vC<=9223372036854775807)(a:t.ms.length<=1000)(b:t.gz.ss.length<=1000):Ev an 105 [I i,.agg x.enc,.pi t.enc] (I (qc t x i)):=by have e:=Be t x i c d a b;refine ak ac3.ok<|bc [.bW] rfl ⟨⟨rfl,rfl⟩,trivial⟩<|bc [.ret (I (qc t x i))] rfl ⟨e,trivial⟩<|ab (aB ?_);rfl
def E2 (t:aX)(x:ry):Int:=if ah 0 ((t.ms.length:Int)-1) [x.a,x.b]=true then 4 else if x.a=x.b then 2 else 0
theorem On (t:aX)(x:ry)(i:Int)(f:t.ms.length<=1000):Ev an 108 [I i,.agg x.enc,.pi t.enc] (I (E2 t x)):=by
 have e:(t.ms.map eY.enc).length=t.ms.length:=ap _;have b:=mh 0 (((t.ms.map eY.enc).length:Int)-1) [x.a,x.b];have d:E2 t x=if ah 0 (((t.ms.map eY.enc).length:Int)-1) [x.a,x.b]=true then 4 else if x.a=x.b then 2 else 0:=by rw[e];rfl
 generalize ah 0 (((t.ms.map eY.enc).length:Int)-1) [x.a,x.b]=c at b d;refine ak afh.ok<|bc [.bW] rfl ⟨⟨rfl,rfl⟩,trivial⟩<|aJ.nV<|bc [.bW,.ret (B c)] rfl (by(repeat' (with_reducible apply a7));(all_goals first|exact zk _|((first|exact b)))) ?_;cases c with
 |true=>rw[if_pos rfl]at d;rw[d];refine ax rfl rfl<|aC rfl<|ab (aB ?_);rfl
 |false=>
  rw[if_neg zq]at d;refine cJ rfl rfl<|aC rfl ?_;by_cases h:x.a=x.b
  ·rw[if_pos h]at d;rw[d];refine ag (b:=true) (by show B _=B _;exact congrArg B (by rw[beq_iff_eq];exact h)) (λ_=>?_) (λh=>by cases h);refine aC rfl<|ab (aB ?_);rfl
  ·rw[if_neg h]at d;rw[d];refine ag (b:=false) (by show B _=B _;exact congrArg B (by rw[beq_eq_false_iff_ne];exact h)) (λh=>by cases h) (λ_=>af ?_);refine aC rfl<|ab (aB ?_);rfl
theorem Ge (l:List eY)(g:Nat)(a:List AV)(f:Nat->Int)(h: ∀(i:Nat) (x:eY),l[i]? =some x->Ev an g (I i::.agg x.enc::a) (I (f i))):
  Ev an 104 [.sl 5 (l.map eY.enc),.fn (.func g) [] a] (.bZ [I (aA f l.length 0).1,I (aA f l.length 0).2]):=by
 refine ak aeG.ok<|cH 0 rfl λha=>?_
 simp only[ap]at ha
 refine aC rfl<|aa<|aC rfl<|bE (aA f l.length 0=(0,0)) (el []) [] [] ?_ ?_
 ·refine dE (λk:Nat=>k<=l.length/\aA f l.length 0=aA f (l.length-k) k) (λk=>el [(1,.fn (.func g) [] a),(9,.sl 5 (l.map eY.enc)),(10,I l.length),(11,I k)]) (λk=>l.length-k) 0 ⟨zz,rfl⟩
   (ao ⟨rfl,rfl,by show I _=I _;simp,rfl,trivial⟩) ?_
  rintro k ⟨hk,hi⟩
  refine aC rfl<|aa (ag rfl (λhc=>?_) (λhc=>?_))
  ·simp only[nL]at hc
   obtain⟨x,hx⟩:=aL hc
   rw[show l.length-k=(l.length-(k+1))+1 from zz,aA]at hi
   refine af (aa (au ?_))
   refine bc [.cells x.enc,.aI] rfl ⟨⟨zz,by simp [hx]⟩,rfl,⟨rfl,rfl,rfl,zq⟩,trivial⟩<|bc [.ret (I (f k))] rfl ⟨h k x hx,trivial⟩<|aa<|cC rfl<|ag rfl (λb=>?_) (λb=>?_)
   ·simp only[nL]at b
    rw[if_neg b]at hi
    refine aC rfl<|ab (dm ?_ ?_)
    ·show I _=I _
     rw[hi]
    ·show I _=I _
     rw[hi]
   ·simp only[bne_eq_false_iff_eq]at b
    rw[if_pos b]at hi
    refine af<|dS rfl ⟨zz,trivial⟩ ?_
    exact⟨k+1,⟨hc,hi⟩,zz,eL⟩
  ·simp only[nL]at hc
   refine ay ⟨(),?_,ao trivial⟩
   rw[hi,show l.length-k=0 from zz];rfl
 ·intro _ h
  refine aC rfl<|ab (dm ?_ ?_)
  ·rw[h];rfl
  ·rw[h];rfl
theorem Ie (l:List ry)(g:Nat)(a:List AV)(f:Nat->Int)(h: ∀(i:Nat) (x:ry),l[i]? =some x->Ev an g (I i::.agg x.enc::a) (I (f i))):
  Ev an 107 [.sl 3 (l.map ry.enc),.fn (.func g) [] a] (.bZ [I (aA f l.length 0).1,I (aA f l.length 0).2]):=by
 refine ak aee.ok<|cH 0 rfl λha=>?_
 simp only[ap]at ha
 refine aC rfl<|aa<|aC rfl<|bE (aA f l.length 0=(0,0)) (el []) [] [] ?_ ?_
 ·refine dE (λk:Nat=>k<=l.length/\aA f l.length 0=aA f (l.length-k) k) (λk=>el [(1,.fn (.func g) [] a),(9,.sl 3 (l.map ry.enc)),(10,I l.length),(11,I k)]) (λk=>l.length-k) 0 ⟨zz,rfl⟩
   (ao ⟨rfl,rfl,by show I _=I _;simp,rfl,trivial⟩) ?_
  rintro k ⟨hk,hi⟩
  refine aC rfl<|aa (ag rfl (λhc=>?_) (λhc=>?_))
  ·simp only[nL]at hc
   obtain⟨x,hx⟩:=aL hc
   rw[show l.length-k=(l.length-(k+1))+1 from zz,aA]at hi
   refine af (aa (au ?_))
   refine bc [.cells x.enc,.aI] rfl ⟨⟨zz,by simp [hx]⟩,rfl,⟨rfl,rfl,rfl,zq⟩,trivial⟩<|bc [.ret (I (f k))] rfl ⟨h k x hx,trivial⟩<|aa<|cC rfl<|ag rfl (λb=>?_) (λb=>?_)
   ·simp only[nL]at b
    rw[if_neg b]at hi
    refine aC rfl<|ab (dm ?_ ?_)
    ·show I _=I _
     rw[hi]
    ·show I _=I _
     rw[hi]
   ·simp only[bne_eq_false_iff_eq]at b
    rw[if_pos b]at hi
    refine af<|dS rfl ⟨zz,trivial⟩ ?_
    exact⟨k+1,⟨hc,hi⟩,zz,eL⟩
  ·simp only[nL]at hc
   refine ay ⟨(),?_,ao trivial⟩
   rw[hi,show l.length-k=0 from zz];rfl
 ·intro _ h
  refine aC rfl<|ab (dm ?_ ?_)
  ·rw[h];rfl
  ·rw[h];rfl
def lC (t:aX)(i:Nat):Int:=match t.ms[i]? with|none=>0|some x=>qc t x i
def lG (t:aX)(i:Nat):Int:=match t.fr[i]? with|none=>0|some x=>E2 t x
def iQ (t:aX):Int×Int×Int:=
 if (check t.gz).2.2≠0 then(1,0,(check t.gz).2.2)
 else if ah 1 4 [t.vC]=true then(2,0,7)
 else if 5<t.ms.length then(3,0,3)
 else if (aA (lC t) t.ms.length 0).2≠0 then(3,(aA (lC t) t.ms.length 0).1,(aA (lC t) t.ms.length 0).2)
 else if 4<t.fr.length then(4,0,3)
 else if (aA (lG t) t.fr.length 0).2≠0 then(4,(aA (lG t) t.fr.length 0).1,(aA (lG t) t.fr.length 0).2)
 else(0,0,0)
structure aX.wf (t:aX):Prop where
 gz:t.gz.wf
 Vx: -9223372036854775808<=t.vC
 RM:t.vC<=9223372036854775807
 ms: ∀x∈t.ms,x.wf
def aX.m (t:aX)(i:Nat):eY:=(t.ms[i]?).getD ⟨0,0,0,0,0⟩
theorem aX.oV {t:aX}{i:Nat}{x:eY}(h:t.ms[i]? =some x):t.m i=x:=by unfold aX.m;rw[h];rfl
def aM (p:List Nat)(i:Nat):Nat:=(p[i]?).getD 0
def im (b:dv)(s:Nat):Bool:=decide ((gd b (cM (s:Int) b.ss.length)).2=0)
def uu (t:aX)(a b:Nat):Int:=
 if im t.gz (2^(t.m a).sp.toNat ||| 2^(t.m b).sp.toNat)=false then 1
 else if (t.m a).v≠(t.m b).v/\(t.m a).v≠ -1/\(t.m b).v≠ -1 then 2
 else if max (t.m a).lo (t.m b).lo>min (t.m a).hi (t.m b).hi then 3
 else if (t.m a).par=b\/(t.m b).par=a then 4 else 0
def ny (t:aX)(p:List Nat)(k a:Nat):Nat:=(ad k).foldl (λs i=>if aM p i=a then s ||| 2^(t.m i).sp.toNat else s) 0
def pH (t:aX)(p:List Nat):Bool:=(ad 6).all λa=>ny t p t.ms.length a==0||im t.gz (ny t p t.ms.length a)
def Va (p:List Nat)(x:ry):Bool:=(aM p x.a.toNat==aM p x.b.toNat)==x.same
def vW (t:aX)(but:Nat->Bool)(p:List Nat):Bool:=(ad t.fr.length).all λi=>but i||(match t.fr[i]? with|some x=>Va p x|none=>true)
def ES (t:aX)(p:List Nat):Bool:=(ad t.ms.length).all λi=>(t.m i).par== -1||(aM p (t.m i).par.toNat !=aM p i&&
 (ad i).all λk=>(t.m k).par== -1||aM p k !=aM p i||aM p (t.m i).par.toNat==aM p (t.m k).par.toNat)
def fW (t:aX)(p:List Nat)(k a:Nat):Sp:=(ad k).foldl (λs i=>if aM p i=a then(max s.1 (t.m i).lo,min s.2 (t.m i).hi)else s) (0,199)
def nh (t:aX)(p:List Nat)(w:Nat):List Sp:=(ad w).map (fW t p t.ms.length)
def eh (t:aX)(p:List Nat)(w:Nat):List Sp:=kY (kids t.ms p) (nh t p w)
def iJ (t:aX)(p:List Nat):Bool:= !bX (eh t p 6)&&ES t p
def dJ (t:aX):List (List Nat):=rU (λj i=>uu t j i !=0) (iJ t) t.ms.length []
def jy (t:aX)(but:Nat->Bool):List (List Nat):=(dJ t).filter λp=>pH t p&&vW t but p
def Ui (p:List Nat)(a:Nat):List Nat:=(ad p.length).filter λi=>aM p i==a
def Qq (t:aX):List Nat->Int->Bool
 |[],_=>true
 |i::l,v=>if (t.m i).v≠ -1/\v≠ -1/\(t.m i).v≠v then false else Qq t l (max v (t.m i).v)
def EH (b:dv)(l:List Int):Bool:=decide (0<=bD id (Ig (shP b l)) 0)
def JC (t:aX)(l:List Nat):Bool:=Qq t l (-1)&&(decide (l.length<2)||EH t.gz (l.map λi=>(t.m i).sp))
def Yf (t:aX)(but:Nat->Bool)(p:List Nat):Bool:=
 (ad (gw p)).all (λa=>JC t (Ui p a))&&vW t but p&&(ES t p&& !bX (eh t p (gw p)))
def dz (t:aX)(but:Nat->Bool):List (List Nat):=(gF t.ms.length).filter (Yf t but)
structure eY.OK (t:aX)(i:Nat)(x:eY):Prop where
 OS:0<=x.sp
 NN:x.sp<t.gz.ss.length
 v0: -1<=x.v
 v1:x.v<t.vC
 Ce: -1<=x.par
 Ca:x.par<t.ms.length
 Ul:0<=x.lo
 lh:x.lo<=x.hi
 Mr:x.hi<=199
 own:x.par≠i
structure aX.OK (t:aX):Prop where
 gz:Valid t.gz
 wf:t.gz.wf
 Vx:1<=t.vC
 RM:t.vC<=4
 Ax:t.ms.length<=6
 TJ: ∀(i:Nat) (x:eY),t.ms[i]? =some x->eY.OK t i x
 GO:t.fr.length<=4
 tie: ∀x∈t.fr,0<=x.a/\x.a<t.ms.length/\0<=x.b/\x.b<t.ms.length/\x.a≠x.b
theorem aX.OK.at {t:aX}(h:t.OK){i:Nat}(hi:i<t.ms.length):eY.OK t i (t.m i):=by obtain⟨x,hx⟩:=aL hi;rw[aX.oV hx];exact h.TJ i x hx
theorem jB (q:List Nat)(k i:Nat):aM (q++[k]) i=if i<q.length then aM q i else if i=q.length then k else 0:=by grind [aM]
structure BC (n:Nat)(p:List Nat):Prop where
 len:p.length=n
 lt: ∀i,i<n->aM p i<gw p
 le:gw p<=n
 on: ∀w,w<gw p-> ∃i,i<n/\aM p i=w
theorem Hx {n:Nat}{q:List Nat}{k:Nat}(h:BC n q)(hk:k<=gw q):BC (n+1) (q++[k]) where
 len:=by rw[az,h.len];rfl
 lt:=by
  intro i hi
  rw[wO,jB,h.len]
  by_cases e:i<n
  ·rw[if_pos e]
   have:=h.lt i e
   omega
  ·grind
 le:=by
  rw[wO]
  have:=h.le
  omega
 on:=by
  intro w a
  rw[wO]at a
  by_cases e:w<gw q
  ·obtain⟨i,hi,he⟩:=h.on w e
   exact⟨i,zz,by rw[jB,h.len,if_pos hi];exact he⟩
  ·exact⟨n,zz,by rw[jB,h.len,if_neg zz,if_pos rfl];omega⟩
theorem Lk:BC 0 []:=⟨rfl,λi h=>zz,c8 0,λw h=>by cases h⟩
theorem Gz {n:Nat}{p:List Nat}:p∈gF (n+1)↔ ∃q k,q∈gF n/\k<=gw q/\p=q++[k]:=by grind [only,gF,sB]
theorem lK: ∀{n:Nat} {p:List Nat},p∈gF n->BC n p
 |0,p,h=>by simp only[gF,a6]at h;subst h;exact Lk
 |n+1,p,h=>by
  obtain⟨q,k,a,hk,rfl⟩:=Gz.1 h
  exact Hx (lK a) hk
def Bd (t:aX)(p:List Nat)(a:Nat):Prop:= ∃h,∀i,i<t.ms.length->aM p i=a->h∈kI t.gz (t.m i).sp.toNat
theorem Ds: ∀{l:List Nat} {k:Int},l.Pairwise (·< ·)->(∀x∈l,k<(x:Int))->zB (pQ l) k=true
 |[],_,_,_=>rfl
 |x::l,k,h,g=>by
  rw[List.pairwise_cons]at h
  show (decide (k<(x:Int))&&zB (pQ l) (x:Int))=true
  rw[Bool.and_eq_true,decide_eq_true_eq]
  exact⟨g x zj,Ds h.2 (λy hy=>by have:=h.1 y hy;omega)⟩
theorem BQ {b:dv}(V:Valid b)(r:b.wf){s:Nat}(hs: ∃k,k<b.ss.length/\s.testBit k=true):im b s=true↔ ∃h,∀k,k<b.ss.length->s.testBit k=true->h∈kI b k:=by
 have o:cM (s:Int) b.ss.length=pQ ((ad b.ss.length).filter λk=>s.testBit k):=RZ (p:=λk=>s.testBit k) (λk _=>rfl);unfold im;rw[o,decide_eq_true_iff];obtain⟨t,f,e⟩:=hs
 have hm: ∀{j:Int},j∈pQ ((ad b.ss.length).filter λk=>s.testBit k)↔ ∃k:Nat,k<b.ss.length/\s.testBit k=true/\j=k:=zx
 have i:pQ ((ad b.ss.length).filter λk=>s.testBit k)≠[]:=List.ne_nil_of_mem (hm.2 ⟨t,f,e,rfl⟩)
 have a:zB (pQ ((ad b.ss.length).filter λk=>s.testBit k)) (-1)=true:=
  Ds (c7 _ List.pairwise_lt_range) (λx _=>zz)
 have q: ∀j∈pQ ((ad b.ss.length).filter λk=>s.testBit k),j<(b.ss.length:Int):=zx
 rcases NO V r i a q with⟨g,c,_,m⟩|⟨c,l⟩
 ·rw[m];refine⟨λ_=>⟨g,λk hk d=>?_⟩,λ_=>rfl⟩;have:=c (k:Int) (hm.2 ⟨k,hk,d,rfl⟩);simpa using this
 ·rw[l];refine⟨λh=>by simp at h,λ⟨g,hg⟩=>absurd ⟨g,λj n=>?_⟩ c⟩;obtain⟨k,hk,d,rfl⟩:=hm.1 n;simpa using hg k hk d
theorem yr (t:aX)(p:List Nat)(k a:Nat):ny t p (k+1) a=if aM p k=a then ny t p k a ||| 2^(t.m k).sp.toNat else ny t p k a:=by unfold ny;rw[cA,b3];rfl
theorem pT (t:aX)(p:List Nat)(a b:Nat): ∀k,(ny t p k a).testBit b=true↔ ∃i,i<k/\aM p i=a/\(t.m i).sp.toNat=b
 |0=>by
  constructor
  ·intro h;simp [ny]at h
  ·rintro⟨i,hi,_⟩;omega
 |k+1=>by
  rw[yr]
  have j:=pT t p a b k
  by_cases e:aM p k=a
  ·rw[if_pos e,Nat.testBit_or,cb,j,Nat.testBit_two_pow]
   simp
   constructor
   ·rintro (⟨i,g,c,d⟩|h)
    ·exact⟨i,zz,c,d⟩
    ·exact⟨k,zz,e,h⟩
   ·rintro⟨i,g,c,d⟩
    by_cases f:i=k
    ·right;rw[<-f];exact d
    ·left;exact⟨i,zz,c,d⟩
  ·rw[if_neg e,j]
   constructor
   ·rintro⟨i,g,c,d⟩;exact⟨i,zz,c,d⟩
   ·rintro⟨i,g,c,d⟩
    have f:i≠k:=λh=>e (by rw[<-h];exact c)
    exact⟨i,zz,c,d⟩
theorem Eu {t:aX}(h:t.OK)(p:List Nat)(a:Nat): ∀k,k<=t.ms.length->ny t p k a<32
 |0,_=>by show (0:Nat)<32;omega
 |k+1,hk=>by
  rw[yr]
  have b:=Eu h p a k zz
  have hm:=h.at (i:=k) zz
  have c:=h.gz.Vf
  split
  ·exact Nat.or_lt_two_pow (n:=5) b (Nat.pow_lt_pow_right zz (by have:=hm.OS;have:=hm.NN;omega))
  ·exact b
theorem Ea {t:aX}(h:t.OK){i:Nat}(hi:i<t.ms.length):(t.m i).sp.toNat<t.gz.ss.length:=by have hm:=h.at hi;have:=hm.OS;have:=hm.NN;omega
theorem C6 {t:aX}(h:t.OK){p:List Nat}{a:Nat}(hi: ∃i,i<t.ms.length/\aM p i=a):im t.gz (ny t p t.ms.length a)=true↔Bd t p a:=by obtain⟨j,ud,b⟩:=hi;rw[BQ h.gz h.wf ⟨_,Ea h ud,(pT t p a _ _).2 ⟨j,ud,b,rfl⟩⟩];refine exists_congr λg=>⟨λhg i hi he=>hg _ (Ea h hi) ((pT t p a _ _).2 ⟨i,hi,he,rfl⟩),λhg k _ f=>?_⟩;obtain⟨i,c,d,e⟩:=(pT t p a _ _).1 f;rw[<-e];exact hg i c d
theorem Dh {t:aX}{p:List Nat}{a:Nat}:ny t p t.ms.length a=0↔ ¬ ∃i,i<t.ms.length/\aM p i=a:=by
 constructor
 ·rintro h ⟨i,hi,he⟩;have:=(pT t p a _ _).2 ⟨i,hi,he,rfl⟩;rw[h]at this;simp at this
 ·intro h;apply Nat.eq_of_testBit_eq;intro b;rw[Nat.zero_testBit,Bool.eq_false_iff];intro e;obtain⟨i,c,d,_⟩:=(pT t p a _ _).1 e;exact h ⟨i,c,d⟩
theorem KT {t:aX}(h:t.OK){a b:Nat}(ha:a<t.ms.length)(d:b<t.ms.length):im t.gz (2^(t.m a).sp.toNat ||| 2^(t.m b).sp.toNat)=true↔ ∃g,g∈kI t.gz (t.m a).sp.toNat/\g∈kI t.gz (t.m b).sp.toNat:=by
 have c: ∀k,(2^(t.m a).sp.toNat ||| 2^(t.m b).sp.toNat).testBit k=true↔(t.m a).sp.toNat=k\/(t.m b).sp.toNat=k:=zx
 rw[BQ h.gz h.wf ⟨_,Ea h ha,(c _).2 (.inl rfl)⟩];refine exists_congr λg=>⟨λhg=>⟨hg _ (Ea h ha) ((c _).2 (.inl rfl)),hg _ (Ea h d) ((c _).2 (.inr rfl))⟩,λ⟨f,i⟩ k _ hk=>?_⟩;rcases (c k).1 hk with e|e
 ·grind
 ·grind
theorem Iz {b:dv}(V:Valid b)(f:b.wf){l:List Int}(hl:l≠[]):EH b l=true↔ ∃h,∀j∈l,h∈kI b j.toNat:=by
 have hk:=G0 V f;unfold EH;rw[decide_eq_true_iff,Fl V hl hk];obtain⟨c,i,k⟩:=sZ hk (ns l 0:Nat);have hm:=nX (b:=b) hl;rw[c];generalize jZ (cS b) (ns l 0:Nat)=K at*
 constructor
 ·intro h;by_cases hK:K.length=0
  ·grind
  ·have a:K≠[]:=λe=>hK (by rw[e];rfl);obtain⟨g,hg⟩:=List.exists_mem_of_ne_nil _ a;exact⟨g,(hm g).1 hg⟩
 ·rintro⟨g,hg⟩;have d:g∈K:=(hm g).2 hg;have hK: ¬K.length=0:=zx
  rw[if_neg hK];omega
def Vg (x y:Int):Prop:=x= -1\/y= -1\/x=y
theorem Il {t:aX}: ∀{l:List Nat} {v:Int},-1<=v->(∀i∈l,-1<=(t.m i).v)->(Qq t l v=true↔(∀i∈l,Vg v (t.m i).v)/\ ∀i∈l,∀j∈l,Vg (t.m i).v (t.m j).v)
 |[],v,_,_=>by simp [Qq]
 |i::l,v,f,hl=>by
  have hi:=hl i zj
  unfold Qq
  by_cases h:(t.m i).v≠ -1/\v≠ -1/\(t.m i).v≠v
  ·rw[if_pos h]
   refine⟨λh=>by(cases h),λ⟨g,_⟩=>?_⟩
   have:=g i zj
   unfold Vg at this
   omega
  ·rw[if_neg h,Il (l:=l) (v:=max v (t.m i).v) zz (λj hj=>hl j (by simp [hj]))]
   unfold Vg at*
   constructor
   ·rintro⟨a,b⟩
    refine⟨λj hj=>?_,λj hj k hk=>?_⟩
    ·rcases bt.1 hj with rfl|hj
     ·omega
     ·have:=a j hj
      have:=hl j (by simp [hj])
      omega
    ·rcases bt.1 hj with d|hj2
     ·rcases bt.1 hk with c|hk2
      ·rw[d,c];omega
      ·have:=a k hk2
       have:=hl k (by simp [hk2])
       rw[d];omega
     ·have:=a j hj2
      have:=hl j (by simp [hj2])
      rcases bt.1 hk with c|hk2
      ·rw[c];omega
      ·exact b j hj2 k hk2
   ·rintro⟨a,b⟩
    refine⟨λj hj=>?_,λj hj k hk=>b j (by simp [hj]) k (by simp [hk])⟩
    have a1:=a j (by simp [hj])
    have e:=b i zj j (by simp [hj])
    have:=hl j (by simp [hj])
    omega
def cK (ext:List Nat->List Nat):Nat->List Nat->List (List Nat)
 |0,p=>[p]
 |m+1,p=>(ext p).flatMap λk=>cK ext m (p++[k])
def Bp (ext:List Nat->List Nat):Nat->List (List Nat)
 |0=>[[]]
 |n+1=>(Bp ext n).flatMap λp=>(ext p).map λk=>p++[k]
theorem BA (ext:List Nat->List Nat): ∀(m:Nat) (p:List Nat),cK ext (m+1) p=(cK ext m p).flatMap λp=>(ext p).map λk=>p++[k]
 |0,p=>by
  simp only[cK,b1,b7,cc,List.map_eq_flatMap]
 |m+1,p=>by
  show (ext p).flatMap (λk=>cK ext (m+1) (p++[k]))=((ext p).flatMap (λk=>cK ext m (p++[k]))).flatMap _
  rw[b0]
  congr 1
  funext k
  exact BA ext m (p++[k])
theorem LP (ext:List Nat->List Nat): ∀n:Nat,Bp ext n=cK ext n []
 |0=>rfl
 |n+1=>by rw[BA,<-LP ext n];rfl
theorem yd (ext:List Nat->List Nat): ∀(m:Nat) (p:List Nat),∀q∈cK ext m p,q.length=p.length+m
 |0,p,q,h=>by
  simp only[cK,a6]at h
  subst h;rfl
 |m+1,p,q,h=>by
  simp only[cK,bi]at h
  obtain⟨k,_,a⟩:=h
  have:=yd ext m (p++[k]) q a
  rw[az,be]at this
  omega
theorem xz (ext:List Nat->List Nat)(G:Nat->Prop)(h: ∀p,∀k∈ext p,G k): ∀(m:Nat) (p:List Nat),(∀k∈p,G k)-> ∀q∈cK ext m p,∀k∈q,G k
 |0,p,b,q,a=>by
  simp only[cK,a6]at a
  subst a;exact b
 |m+1,p,b,q,a=>by
  simp only[cK,bi]at a
  obtain⟨k,hk,a⟩:=a
  refine xz ext G h m (p++[k]) ?_ q a
  intro x hx
  rcases List.mem_append.1 hx with hx|hx
  ·exact b x hx
  ·simp only[a6]at hx;subst hx;exact h p _ hk
theorem yA (ext:List Nat->List Nat)(h: ∀p,(ext p).Nodup): ∀n:Nat,(Bp ext n).Nodup/\ ∀q∈Bp ext n,q.length=n
 |0=>by simp [Bp]
 |n+1=>by
  obtain⟨j,i⟩:=yA ext h n
  refine⟨?_,?_⟩
  ·unfold List.Nodup
   simp only[Bp]
   rw[List.pairwise_flatMap]
   refine⟨λp _=>?_,?_⟩
   ·rw[List.pairwise_map]
    refine dk ?_ (h p)
    intro a b d e
    exact d (by simpa using e)
   ·refine cB ?_ j
    intro p q f c g x hx y hy e
    simp only[b6]at hx hy
    obtain⟨k,_,rfl⟩:=hx
    obtain⟨l,_,rfl⟩:=hy
    exact g (List.append_inj e (by rw[i p f,i q c])).1
  ·intro q c
   simp only[Bp,bi,b6]at c
   obtain⟨p,f,k,_,rfl⟩:=c
   rw[az,i p f];rfl
structure qh where
 nm:List UInt8
 ed:List Int
 deriving DecidableEq
structure kK where
 st:Int
 le:Int
 we:Int
 cs:List qh
 hs:List qh
 deriving DecidableEq
def eR (b:Nat->Bool)(a:Int)(l:List qh)(i:Nat):Int:=match l[i]? with
 |none=>0
 |some x=>if fl x.nm=false then 6 else if (l.take i).any (λy=>y.nm==x.nm)=true then 5 else if b x.ed.length=true then 3 else if ah a 9 x.ed=true then 7 else 0
def pP (d:kK)(n:Nat):Bool:=(n:Int)!=d.st
def pY (d:kK)(n:Nat):Bool:=ah d.le d.st [(n:Int)]
def dH (d:kK):Int×Int×Int:=
 if (ah 1 6 [d.st]||ah 1 d.st [d.le]||ah 0 9 [d.we])=true then(1,0,7)
 else if 4<d.cs.length then(2,0,3)
 else if (aA (eR (pP d) 0 d.cs) d.cs.length 0).2≠0 then(2,(aA (eR (pP d) 0 d.cs) d.cs.length 0).1,(aA (eR (pP d) 0 d.cs) d.cs.length 0).2)
 else if 4<d.hs.length then(3,0,3)
 else if (aA (eR (pY d) (-1) d.hs) d.hs.length 0).2≠0 then(3,(aA (eR (pY d) (-1) d.hs) d.hs.length 0).1,(aA (eR (pY d) (-1) d.hs) d.hs.length 0).2)
 else(0,0,0)
def Lb (we:Int)(b a:List Int):Bool:=decide (a.length<=b.length)&&(ad a.length).all λi=>a.getD i 0== -1|| !ah 0 we [b.getD i 0-a.getD i 0]
def ic (d:kK)(h c s:Nat):Bool:=match d.cs[c]?,d.hs[h]? with
 |some x,some y=>Lb d.we (x.ed.drop s) y.ed
 |_,_=>false
def sX (d:kK)(h c:Nat):Bool:=(ad d.st.toNat).any λs=>ic d h c s
def jC (d:kK)(p:List Nat):List Nat:=0::((ad d.cs.length).filter λc=> !p.contains (c+1)&&sX d p.length c).map (·+1)
def dp (d:kK):List (List Nat):=cK (jC d) d.hs.length []
def dc (t:List Nat):Nat:=t.count 0
def oU (x:List (List Nat)×Nat)(t:List Nat):List (List Nat)×Nat:=
 if dc t<x.2 then([t],dc t)else if dc t=x.2/\x.1.getLast? ≠some t then(x.1++[t],x.2)else x
def ll (d:kK):List (List Nat)×Nat:=(dp d).foldl oU ([],d.hs.length+1)
def iH (d:kK)(h:Int):Int×Int:=
 if (dH d).2.2≠0 then(0,(dH d).2.2)
 else if ah 0 ((d.hs.length:Int)-1) [h]=true then(0,4)
 else if (ll d).1.any (λt=>t.getD h.toNat 0!=((ll d).1.headD []).getD h.toNat 0||((ll d).1.headD []).getD h.toNat 0==0)=true then(0,9)
 else((((ll d).1.headD []).getD h.toNat 0:Nat)-1,0)
structure nz where
 nm:List UInt8
 pe:Int
 fo:Int
 deriving DecidableEq
structure vA where
 sa:Int
 su:Int
 of:Int
 ba:Int
 ca:Bool
 deriving DecidableEq
structure DX where
 su:Int
 cl:Int
 deriving DecidableEq
structure iX where
 cl:List (List UInt8)
 su:List nz
 wo:List vA
 pa:List DX
 deriving DecidableEq
def cL (f:Nat->Int)(n a:Nat):Int×Int:=if a<n then(0,3)else aA f n 0
def eA (l:List (List UInt8))(i:Nat):Int:=match l[i]? with
 |none=>0
 |some s=>if fl s=false then 6 else if (l.take i).contains s=true then 5 else 0
def vr (m:iX)(i:Nat):Int:=match m.su[i]? with
 |none=>0
 |some s=>if fl s.nm=false then 6 else if (m.su.take i).any (λy=>y.nm==s.nm)=true then 5 else if (ah 1 99 [s.pe]||ah 1 (2^m.cl.length-1) [s.fo])=true then 7 else 0
def wF (m:iX)(i:Nat):Int:=match m.wo[i]? with
 |none=>0
 |some w=>if ah 0 3 [w.sa]=true then 7
  else if (ah 0 ((m.su.length:Int)-1) [w.su]||ah 0 ((if 2<=w.sa then(m.su.length:Int)else m.cl.length)-1) [w.of]||ah (-1) ((m.wo.length:Int)-1) [w.ba])=true then 4
  else if w.ba=i\/(2<=w.sa/\w.of=w.su)then 2 else 0
def vY (m:iX)(i:Nat):Int:=match m.pa[i]? with
 |none=>0
 |some p=>if (ah 0 ((m.su.length:Int)-1) [p.su]||ah 0 ((m.cl.length:Int)-1) [p.cl])=true then 4 else 0
def eK (m:iX):Int×Int×Int:=
 if (cL (eA m.cl) m.cl.length 4).2≠0 then(1,(cL (eA m.cl) m.cl.length 4).1,(cL (eA m.cl) m.cl.length 4).2)
 else if (cL (vr m) m.su.length 5).2≠0 then(2,(cL (vr m) m.su.length 5).1,(cL (vr m) m.su.length 5).2)
 else if (cL (wF m) m.wo.length 6).2≠0 then(3,(cL (wF m) m.wo.length 6).1,(cL (wF m) m.wo.length 6).2)
 else if (cL (vY m) m.pa.length 5).2≠0 then(4,(cL (vY m) m.pa.length 5).1,(cL (vY m) m.pa.length 5).2)
 else(0,0,0)
def cT (m:iX)(more:Nat):Nat:=(ad m.wo.length).foldl (λs i=>match m.wo[i]? with|some w=>if w.ca=true then s ||| 2^i else s|none=>s) more
def tT (m:iX)(came:Nat)(i:Nat):Bool:=(ad m.wo.length).all (λk=> !(((m.wo[k]?).map (·.ba))==some (i:Int)&&came.testBit k))&&came.testBit i
def Zi (sa:Int)(a b:Int):Bool:=if sa=0\/sa=2 then a==b else a !=b
def RE (m:iX)(came:Nat)(t:Nat->Nat)(a i:Nat):Bool:=match m.wo[i]? with
 |none=>true
 |some w=>if 2<=w.sa then !(max w.su w.of==(a:Int)&&tT m came i&& !Zi w.sa (t w.su.toNat) (t w.of.toNat))else !(w.su==(a:Int)&&tT m came i&& !Zi w.sa (t w.su.toNat) w.of)
def Bq (m:iX)(came:Nat)(t:Nat->Nat)(a:Nat):Bool:=(ad m.wo.length).all (RE m came t a)
def Oi (m:iX)(i c:Nat):Bool:=match m.su[i]? with
 |none=>false
 |some s=>s.fo.toNat.testBit c
def xu (m:iX)(came:Nat)(p:List Nat):List Nat:=(ad m.cl.length).filter λc=>Oi m p.length c&&Bq m came (aM (p++[c])) p.length
def aY (m:iX)(came:Nat):List (List Nat):=cK (xu m came) m.su.length []
def da (L:List (List Nat))(i:Nat):Nat:=L.foldl (λs t=>s ||| 2^aM t i) 0
def gQ (m:iX)(below:Int)(l:List Int):Int:=
 if (eK m).2.2≠0 then(eK m).2.2 else if ah 0 (below-1) l=true then 4 else if (aY m (cT m 0)).isEmpty=true then 8 else 0
def te (n:Nat):Bool:=n &&& (n-1)==0
def pz (m:iX)(a:Int):Int×Int:=
 if gQ m m.su.length [a]≠0 then(0,gQ m m.su.length [a])
 else if te (da (aY m (cT m 0)) a.toNat)=false then(0,9)
 else((cM (da (aY m (cT m 0)) a.toNat:Nat) m.cl.length).headD 0,0)
def CC (m:iX)(L:List (List Nat)):List Int:=((ad m.su.length).filter λi=> !te (da L i)).map λ(i:Nat)=>(i:Int)
def oP (m:iX):List Int×Int:=
 if gQ m 0 []≠0 then([],gQ m 0 [])else(CC m (aY m (cT m 0)),0)
theorem HX (n lo hi:Int):Ev an 199 [I n,.pi [I lo],.pi [I hi]] (B (decide (n<lo)||decide (n>hi))):=by
 refine ak adK.ok<|aC rfl ?_;by_cases h:n<lo
 ·refine uk [(8,true)] [] rfl (by simp [h])<|ab (aB ?_);show B _=B _;simp [h]
 ·refine uk [(8,false)] [] rfl (by simp [h])<|ab (aB ?_);show B _=B _;simp [h]
theorem ij (lo hi:Int)(l:List Int):Ev an 122 [I lo,I hi,ints l] (B (ah lo hi l)):=by refine ak adA.ok<|bc [.bW,.bW] rfl ⟨⟨rfl,rfl⟩,⟨rfl,rfl⟩,trivial⟩<|bc [.ret (B (ah lo hi l))] rfl ⟨jg l _ _ _ (λn _=>HX n lo hi),trivial⟩<|ab (aB ?_);rfl
theorem DZ (l:List (List UInt8))(s:List UInt8):Ev an 135 [strs l,bg s] (I (bD (λx=>s==x) l 0)):=by
 refine ak acU.ok<|cH 0 rfl λha=>?_;simp only[ap]at ha;refine aC rfl<|aa<|aC rfl<|bE (bD (λx=>s==x) l 0= -1) (el []) [] [] ?_ ?_
 ·refine dE (λk:Nat=>k<=l.length/\bD (λx=>s==x) l 0=bD (λx=>s==x) (l.drop k) k) (λk=>el [(0,strs l),(1,bg s),(7,I l.length),(8,I k)]) (λk=>l.length-k) 0 ⟨zz,rfl⟩
   (ao ⟨rfl,rfl,by show I _=I _;simp,rfl,trivial⟩) ?_
  rintro k ⟨hk,hi⟩;refine aC rfl<|aa (ag rfl (λhc=>?_) (λhc=>?_))
  ·simp only[nL]at hc;obtain⟨x,hx⟩:=aL hc;rw[drop_cons hx,bD]at hi;refine af (aa (au ?_));refine aC rfl<|bc [.cells [bg x]] rfl ⟨⟨zz,by simp [hx]⟩,trivial⟩<|ag rfl (λa=>?_) (λa=>?_)
   ·have a:(s==x)=true:=by simpa using a
    refine aC rfl<|ab (aB ?_);show I _=I _;rw[hi,a];rfl
   ·have a:(s==x)=false:=by simpa using a
    refine af<|dS rfl ⟨zz,trivial⟩ ?_;exact⟨k+1,⟨hc,by rw[hi,a];rfl⟩,zz,eL⟩
  ·simp only[nL]at hc;refine ay ⟨(),?_,ao trivial⟩;rw[hi,drop_nil hc];rfl
 ·intro _ h;refine aC rfl<|ab (aB ?_);rw[h];rfl
theorem mq (l:List (List UInt8))(s:List UInt8):Ev an 64 [strs l,bg s] (B (l.contains s)):=by refine ak S64.ok<|aC rfl<|bc [.ret (I (bD (λx=>s==x) l 0))] rfl ⟨DZ l s,trivial⟩<|ab (aB ?_);show B _=B _;rw[tI _ l 0 zz];refine congrArg B ?_;rw[b9];simp
abbrev nz.enc (x:nz):List AV:=[bg x.nm,I x.pe,I x.fo]
abbrev vA.enc (x:vA):List AV:=[I x.sa,I x.su,I x.of,I x.ba,B x.ca]
abbrev DX.enc (x:DX):List AV:=[I x.su,I x.cl]
abbrev tj (l:List nz):AV:=.sl 3 (l.map nz.enc)
abbrev oT (l:List vA):AV:=.sl 5 (l.map vA.enc)
abbrev uP (l:List DX):AV:=.sl 2 (l.map DX.enc)
abbrev iX.enc (m:iX):List AV:=[strs m.cl,tj m.su,oT m.wo,uP m.pa]
structure iX.wf (m:iX):Prop where
 cl: ∀x∈m.cl,x.length<=9223372036854775807
 su: ∀x∈m.su,x.nm.length<=9223372036854775807
 cn:m.cl.length<=9223372036854775807
 sn:m.su.length<=9223372036854775807
 wn:m.wo.length<=9223372036854775807
 pn:m.pa.length<=9223372036854775807
structure nU where
 nu:Int
 wo:Int
 fa:Int
 ma:Int
 deriving DecidableEq
structure V5 where
 J3:Int
 th:Int
 deriving DecidableEq
structure lH where
 wo:Int
 fa:Int
 pe:List (List UInt8)
 la:Int
 co:List nU
 ru:List V5
 deriving DecidableEq
def wD (c:lH)(i:Nat):Int:=match c.co[i]? with
 |none=>0
 |some x=>if ah 1 c.la [x.nu]=true then 7
  else if (decide (0<i)&&(match c.co[i-1]? with|some y=>decide (x.nu<=y.nu)|none=>false))=true then 2
  else if (ah 0 (2^c.wo.toNat-1) [x.wo]||ah 0 (2^c.fa.toNat-1) [x.fa]||ah 0 (2^c.pe.length-1) [x.ma])=true then 4 else 0
def wW (c:lH)(i:Nat):Int:=match c.ru[i]? with
 |none=>0
 |some x=>if (ah 0 (2^c.fa.toNat-1) [x.J3]||ah 0 (c.fa-1) [x.th])=true then 4 else if x.J3=0 then 2 else 0
def fc (c:lH):Int×Int×Int:=
 if (ah 1 5 [c.wo]||ah 1 6 [c.fa]||ah 0 30 [c.la])=true then(1,0,7)
 else if 3<c.pe.length then(2,0,3)
 else if (aA (eA c.pe) c.pe.length 0).2≠0 then(2,(aA (eA c.pe) c.pe.length 0).1,(aA (eA c.pe) c.pe.length 0).2)
 else if 6<c.co.length then(3,0,3)
 else if (aA (wD c) c.co.length 0).2≠0 then(3,(aA (wD c) c.co.length 0).1,(aA (wD c) c.co.length 0).2)
 else if 4<c.ru.length then(4,0,3)
 else if (aA (wW c) c.ru.length 0).2≠0 then(4,(aA (wW c) c.ru.length 0).1,(aA (wW c) c.ru.length 0).2)
 else(0,0,0)
def jl (c:lH)(p:Nat):Nat:=(ad c.co.length).foldl (λs i=>match c.co[i]? with|some x=>if x.ma.toNat.testBit p=true then s ||| 2^i else s|none=>s) 0
def mL (l:List Int)(below:Int):Int×Int:=
 if ah 0 (below-1) l=true then(0,4)else if (ad l.length).all (λi=>i==0||decide (l.getD (i-1) 0<l.getD i 0))=false then(0,2)else(((l.foldl (λ(s:Nat) (n:Int)=>s ||| 2^n.toNat) 0:Nat):Int),0)
def fV (c:lH)(l:List (Int×Int)):Int:=if (fc c).2.2≠0 then(fc c).2.2 else if l.any (λx=>ah 0 (x.2-1) [x.1])=true then 4 else 0
def oR (x:List nU×List Int)(n:Nat):List nU×List Int:=match x.1 with
 |y::r=>if y.nu=(n:Int)+1 then(r,x.2)else(x.1,x.2++[(n:Int)+1])
 |[]=>([],x.2++[(n:Int)+1])
def rq (c:lH):List Int×Int:=if fV c []≠0 then([],fV c [])else(((ad c.la.toNat).foldl oR (c.co,[])).2,0)
def ql (c:lH)(i words:Nat):Bool:=match c.co[i]? with
 |none=>false
 |some x=>words &&& x.wo.toNat==words
def oY (c:lH)(p words:Nat):Nat:=(ad c.co.length).foldl (λs i=>if ((jl c p).testBit i&&ql c i words)=true then s ||| 2^i else s) 0
def oQ (c:lH)(p:Int)(words:List Int):List Int×Int:=
 if fV c [(p,c.pe.length)]≠0 then([],fV c [(p,c.pe.length)])
 else if (mL words c.wo).2≠0 then([],(mL words c.wo).2)
 else(cM (oY c p.toNat (mL words c.wo).1.toNat:Nat) c.co.length,0)
def se (n:Nat):Nat->Nat->Nat->Nat->List Nat
 |_,_,0,set=>[set]
 |0,_,_+1,_=>[]
 |d+1,i,left+1,set=>if i+(left+1)<=n then se n d (i+1) left (set ||| 2^i)++se n d (i+1) (left+1) set else[]
def vk (c:lH)(p nu:Int):List Int×Int:=
 if fV c [(p,c.pe.length)]≠0 then([],fV c [(p,c.pe.length)])
 else if bD (λx=>x.nu==nu) c.co 0<0 then([],7)
 else if (jl c p.toNat).testBit (bD (λx=>x.nu==nu) c.co 0).toNat=false then([],2)
 else match ((ad (c.wo.toNat+1)).flatMap λmany=>se c.wo.toNat c.wo.toNat 0 many 0).find? (λs=>oY c p.toNat s==2^(bD (λx=>x.nu==nu) c.co 0).toNat)with
  |some s=>(cM (s:Nat) c.wo.toNat,0)
  |none=>([],9)
theorem QR (l:List nz)(a:Nat)(g:Nat)(b:List AV)(f:Nat->Int)(j:l.length<=9223372036854775807)(h: ∀(i:Nat) (x:nz),l[i]? =some x->Ev an g (I i::.agg x.enc::b) (I (f i))):
  Ev an 118 [tj l,I a,.fn (.func g) [] b] (.bZ [I (cL f l.length a).1,I (cL f l.length a).2]):=by
 refine ak ae3.ok<|aC rfl<|aa (aa ?_)
 refine cC rfl ?_
 by_cases hm:a<l.length
 ·refine ax rfl zx<|aC rfl<|ab (dm ?_ ?_)
  ·show I _=I _
   unfold cL;rw[if_pos hm]
  ·show I _=I _
   unfold cL;rw[if_pos hm]
 refine aD rfl zx ?_
 rw[show cL f l.length a=aA f l.length 0 by unfold cL;rw[if_neg hm]]
 refine aa (aa ?_)
 refine cC rfl<|ae (ao (l:=[(2,.fn (.func g) [] b),(15,tj l),(16,I l.length),(17,I (0:Nat))]) ⟨rfl,rfl,by show I _=I _;simp,rfl,trivial⟩)<|tD (.fn (.func g) [] b) (tj l) l.length f j rfl rfl (λk hk C Q K=>?_) (λenv d e=>?_) (λc=>?_)
 ·obtain⟨x,hx⟩:=aL hk
  refine bc [.cells x.enc,.aI] rfl ⟨⟨zz,by simp [hx]⟩,rfl,⟨rfl,rfl,rfl,zq⟩,trivial⟩<|bc [.ret (I (f k))] rfl ⟨h k x hx,trivial⟩<|ae ?_ K
  exact eL
 ·exact fh (.inr rfl) (.many zq ⟨.tmp d rfl,.tmp e rfl,trivial⟩)
 ·refine aC rfl<|ab (dm ?_ ?_)
  ·rw[c];rfl
  ·rw[c];rfl
theorem P0 (l:List vA)(a:Nat)(g:Nat)(b:List AV)(f:Nat->Int)(j:l.length<=9223372036854775807)(h: ∀(i:Nat) (x:vA),l[i]? =some x->Ev an g (I i::.agg x.enc::b) (I (f i))):
  Ev an 123 [oT l,I a,.fn (.func g) [] b] (.bZ [I (cL f l.length a).1,I (cL f l.length a).2]):=by
 refine ak afx.ok<|aC rfl<|aa (aa ?_)
 refine cC rfl ?_
 by_cases hm:a<l.length
 ·refine ax rfl zx<|aC rfl<|ab (dm ?_ ?_)
  ·show I _=I _
   unfold cL;rw[if_pos hm]
  ·show I _=I _
   unfold cL;rw[if_pos hm]
 refine aD rfl zx ?_
 rw[show cL f l.length a=aA f l.length 0 by unfold cL;rw[if_neg hm]]
 refine aa (aa ?_)
 refine cC rfl<|ae (ao (l:=[(2,.fn (.func g) [] b),(15,oT l),(16,I l.length),(17,I (0:Nat))]) ⟨rfl,rfl,by show I _=I _;simp,rfl,trivial⟩)<|tD (.fn (.func g) [] b) (oT l) l.length f j rfl rfl (λk hk C Q K=>?_) (λenv d e=>?_) (λc=>?_)
 ·obtain⟨x,hx⟩:=aL hk
  refine bc [.cells x.enc,.aI] rfl ⟨⟨zz,by simp [hx]⟩,rfl,⟨rfl,rfl,rfl,zq⟩,trivial⟩<|bc [.ret (I (f k))] rfl ⟨h k x hx,trivial⟩<|ae ?_ K
  exact eL
 ·exact fh (.inr rfl) (.many zq ⟨.tmp d rfl,.tmp e rfl,trivial⟩)
 ·refine aC rfl<|ab (dm ?_ ?_)
  ·rw[c];rfl
  ·rw[c];rfl
theorem Sy (l:List DX)(a:Nat)(g:Nat)(b:List AV)(f:Nat->Int)(j:l.length<=9223372036854775807)(h: ∀(i:Nat) (x:DX),l[i]? =some x->Ev an g (I i::.agg x.enc::b) (I (f i))):
  Ev an 125 [uP l,I a,.fn (.func g) [] b] (.bZ [I (cL f l.length a).1,I (cL f l.length a).2]):=by
 refine ak aeR.ok<|aC rfl<|aa (aa ?_)
 refine cC rfl ?_
 by_cases hm:a<l.length
 ·refine ax rfl zx<|aC rfl<|ab (dm ?_ ?_)
  ·show I _=I _
   unfold cL;rw[if_pos hm]
  ·show I _=I _
   unfold cL;rw[if_pos hm]
 refine aD rfl zx ?_
 rw[show cL f l.length a=aA f l.length 0 by unfold cL;rw[if_neg hm]]
 refine aa (aa ?_)
 refine cC rfl<|ae (ao (l:=[(2,.fn (.func g) [] b),(15,uP l),(16,I l.length),(17,I (0:Nat))]) ⟨rfl,rfl,by show I _=I _;simp,rfl,trivial⟩)<|tD (.fn (.func g) [] b) (uP l) l.length f j rfl rfl (λk hk C Q K=>?_) (λenv d e=>?_) (λc=>?_)
 ·obtain⟨x,hx⟩:=aL hk
  refine bc [.cells x.enc,.aI] rfl ⟨⟨zz,by simp [hx]⟩,rfl,⟨rfl,rfl,rfl,zq⟩,trivial⟩<|bc [.ret (I (f k))] rfl ⟨h k x hx,trivial⟩<|ae ?_ K
  exact eL
 ·exact fh (.inr rfl) (.many zq ⟨.tmp d rfl,.tmp e rfl,trivial⟩)
 ·refine aC rfl<|ab (dm ?_ ?_)
  ·rw[c];rfl
  ·rw[c];rfl
theorem R1 (l:List (List UInt8))(a:Nat)(g:Nat)(b:List AV)(f:Nat->Int)(j:l.length<=9223372036854775807)(h: ∀(i:Nat) (x:List UInt8),l[i]? =some x->Ev an g (I i::bg x::b) (I (f i))):
  Ev an 116 [strs l,I a,.fn (.func g) [] b] (.bZ [I (cL f l.length a).1,I (cL f l.length a).2]):=by
 refine ak ae1.ok<|aC rfl<|aa (aa ?_)
 refine cC rfl ?_
 by_cases hm:a<l.length
 ·refine ax rfl zx<|aC rfl<|ab (dm ?_ ?_)
  ·show I _=I _
   unfold cL;rw[if_pos hm]
  ·show I _=I _
   unfold cL;rw[if_pos hm]
 refine aD rfl zx ?_
 rw[show cL f l.length a=aA f l.length 0 by unfold cL;rw[if_neg hm]]
 refine aa (aa ?_)
 refine cC rfl<|ae (ao (l:=[(2,.fn (.func g) [] b),(15,strs l),(16,I l.length),(17,I (0:Nat))]) ⟨rfl,rfl,by show I _=I _;simp,rfl,trivial⟩)<|tD (.fn (.func g) [] b) (strs l) l.length f j rfl rfl (λk hk C Q K=>?_) (λenv d e=>?_) (λc=>?_)
 ·obtain⟨x,hx⟩:=aL hk
  refine bc [.cells [bg x]] rfl ⟨⟨zz,by simp [hx]⟩,trivial⟩<|bc [.ret (I (f k))] rfl ⟨h k x hx,trivial⟩<|ae ?_ K
  exact eL
 ·exact fh (.inr rfl) (.many zq ⟨.tmp d rfl,.tmp e rfl,trivial⟩)
 ·refine aC rfl<|ab (dm ?_ ?_)
  ·rw[c];rfl
  ·rw[c];rfl
section
variable (m:iX) (hw:m.wf)
include hw
theorem KB (i:Nat)(x:List UInt8)(hx:m.cl[i]? =some x):Ev an 117 [I i,bg x,.pi m.enc] (I (eA m.cl i)):=by
 have f:=(bn.1 hx).1;have e:=hw.cn;have a:eA m.cl i=if fl x=false then 6 else if (m.cl.take i).contains x=true then 5 else 0:=by unfold eA;rw[hx]
 have c:=tZ x (hw.cl x (bm hx));have b:=mq (m.cl.take i) x;generalize fl x=d at a c;generalize (m.cl.take i).contains x=b2 at a b;refine ak agn.ok<|aC rfl<|cX (eA m.cl i=0) (el []) [] [] ?_ ?_
 ·refine bc [.ret (B d)] rfl ⟨c,trivial⟩ ?_;cases d with
  |false=>rw[if_pos rfl]at a;refine ax rfl rfl<|aC rfl<|ab (aB ?_);rw[a];rfl
  |true=>
   rw[if_neg zq]at a;refine cJ rfl rfl<|bc [.wC [.sl 1 ((m.cl.take i).map λs=>[bg s]),bg x] (B b2)] rfl ⟨⟨⟨trivial,zz⟩,zj,by simp;omega⟩,⟨b,fL (by rw[cD];rfl)⟩,trivial⟩ ?_;cases b2 with
   |true=>rw[if_pos rfl]at a;refine ax rfl rfl<|aC rfl<|ab (aB ?_);rw[a];rfl
   |false=>rw[if_neg zq]at a;exact aD rfl rfl ⟨(),a,ao trivial⟩
 ·intro _ h;refine aC rfl<|ab (aB ?_);rw[h];rfl
theorem GJ (x y:nz):Ev an 121 [.agg y.enc,.pi x.enc] (B (y.nm==x.nm)):=by have:=hw;refine ak afy.ok<|bc [.bW] rfl ⟨⟨rfl,rfl⟩,trivial⟩<|aC rfl<|ab (aB ?_);show B _=B _;simp
theorem NH (l:List nz)(g:Nat)(a:List AV)(p:nz->Bool)(h: ∀x∈l,Ev an g (.agg x.enc::a) (B (p x))):Ev an 198 [tj l,.fn (.func g) [] a] (I (bD p l 0)):=by have:=hw;refine tU ads.ok nz.enc 3 l p _ rfl (λk x hx C Q K=>?_);refine bc [.cells x.enc,.ret (B (p x))] rfl ⟨⟨zz,by simp [hx]⟩,h x (bm hx),trivial⟩<|ae ?_ K;exact eL
theorem IU (h4:m.cl.length<=4)(i:Nat)(x:nz)(hx:m.su[i]? =some x):Ev an 119 [I i,.agg x.enc,.pi m.enc] (I (vr m i)):=by
 have p:=(bn.1 hx).1;have t:=hw.sn;have a:vr m i=if fl x.nm=false then 6 else if (m.su.take i).any (λy=>y.nm==x.nm)=true then 5 else if (ah 1 99 [x.pe]||ah 1 (2^m.cl.length-1) [x.fo])=true then 7 else 0:=by unfold vr;rw[hx]
 have e:=tZ x.nm (hw.su x (bm hx));have b:=vV afu.ok (m.su.take i) (λy=>y.nm==x.nm) (NH m hw (m.su.take i) 121 [.pi x.enc] (λy=>y.nm==x.nm) (λy _=>GJ m hw x y));have c:=ij 1 99 [x.pe];have d:=ij 1 (2^m.cl.length-1) [x.fo];generalize fl x.nm=j at a e;generalize (m.su.take i).any (λy=>y.nm==x.nm)=b2 at a b;generalize ah 1 99 [x.pe]=l at a c;generalize ah 1 (2^m.cl.length-1) [x.fo]=k at a d;refine ak aga.ok<|bc [.bW] rfl ⟨⟨rfl,rfl⟩,trivial⟩<|cX (vr m i=0) (el []) [] [] ?_ ?_
 ·refine bc [.ret (B j)] rfl ⟨e,trivial⟩ ?_;cases j with
  |false=>rw[if_pos rfl]at a;refine ax rfl rfl<|aC rfl<|ab (aB ?_);rw[a];rfl
  |true=>
  rw[if_neg zq]at a;refine cJ rfl rfl<|bc [.wC [.sl 3 ((m.su.take i).map nz.enc),.fn (.func 121) [] [.pi x.enc]] (B b2)] rfl ⟨⟨⟨trivial,zz⟩,zj,by simp;omega⟩,⟨b,fL (by rw[cD];rfl)⟩,trivial⟩ ?_;cases b2 with
  |true=>rw[if_pos rfl]at a;refine ax rfl rfl<|aC rfl<|ab (aB ?_);rw[a];rfl
  |false=>
  rw[if_neg zq]at a;refine cJ rfl rfl ?_;have f:((m.cl.map λs=>[bg s]).length:Int)=m.cl.length:=zj
  have r:(2:Nat)^m.cl.length<=16:=by have:=Nat.pow_le_pow_right (n:=2) zz h4;omega
  have q:(1:Nat)<=2^m.cl.length:=Nat.one_le_two_pow;have g:(1:Int)*2^(((m.cl.map λs=>[bg s]).length:Int)).toNat=((2^m.cl.length:Nat):Int):=by rw[f];simp
  have o:(1:Int)*2^(((m.cl.map λs=>[bg s]).length:Int)).toNat-1=2^m.cl.length-1:=by rw[g];simp
  rw[<-o]at d;cases l with
  |true=>rw[Bool.true_or,if_pos rfl]at a;refine vj [(23,true)] [.bW,.ret (B true)] rfl (by(repeat' (with_reducible apply a7));(all_goals first|exact zk _|((first|exact c|rfl))))<|ax rfl rfl<|aC rfl<|ab (aB ?_);rw[a];rfl
  |false=>
  rw[Bool.false_or]at a;refine vj [(23,false)] [.bW,.ret (B false),.bW,.ret (B k)] rfl (by(repeat' (with_reducible apply a7));(all_goals first|exact zk _|((first|exact c|exact d|rfl)))) ?_;cases k with
  |true=>rw[if_pos rfl]at a;refine ax rfl rfl<|aC rfl<|ab (aB ?_);rw[a];rfl
  |false=>rw[if_neg zq]at a;exact aD rfl rfl ⟨(),a,ao trivial⟩
 ·intro _ h;refine aC rfl<|ab (aB ?_);rw[h];rfl
end
end Go.Px
