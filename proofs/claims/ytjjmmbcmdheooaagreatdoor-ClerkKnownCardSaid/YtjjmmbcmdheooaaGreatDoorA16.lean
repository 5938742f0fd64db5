/- Part 16 of the proof of a statement of this seat (a logic of pure contracts; the functions; their contracts). No conditions. -/
import Derived.Test.YtjjmmbcmdheooaaGreatDoorA15
open Array.mk renaming injEq->cc
open Bool renaming eq_iff_iff->an,false_or->cr
open Go.IntKind renaming i64->cB
open Go.Lit renaming int->cR
open Go.Program renaming keyLits->bk
open Go.Proofs.Tryz renaming prog->ad,underlying3->bi,underlying109->bA,underlying240->bI,underlying96->b3
open Go.Value renaming formed->b4,cells->b7
open Go.Value.agg renaming injEq->cb
open Go.Value.bool renaming injEq->c7
open Go.Value.int renaming injEq->bm
open Int renaming natCast_inj->b8,pow_pos->cA
open List renaming getElem?_eq_none->az,range_succ->a7,mem_range->a8,getElem?_eq_some_iff->be,filterMap_append->bn,getElem?_of_mem->bs,mem_of_getElem?->bt,range->bx,all_eq_false->b0,getElem?_map->b1,all_eq_true->b6
open List.Sublist renaming refl->ap
open List.cons renaming injEq->b9
open Nat renaming pow_lt_pow_right->a6,le_refl->cD
namespace Go.Px
open Go.Proofs Go.MapKept
theorem hKI:gO ad 3 (IsKey (.int .i64)):=gO.plain zw
theorem hKP:gO ad 240 (bJ ad 5 240):=gO.wide (m:=5) zq zw zw zw
abbrev bY (p:List Nat):List AV:=[I (aM p 0:Nat),I (aM p 1:Nat),I (aM p 2:Nat),I (aM p 3:Nat),I (aM p 4:Nat),I (aM p 5:Nat)]
abbrev pZ (p:List Nat):Value:=.agg #[.int .i64 (aM p 0:Nat),.int .i64 (aM p 1:Nat),.int .i64 (aM p 2:Nat),.int .i64 (aM p 3:Nat),.int .i64 (aM p 4:Nat),.int .i64 (aM p 5:Nat)]
abbrev eN (b:List Sp):List AV:=[I (cu b 0).1,I (cu b 0).2,I (cu b 1).1,I (cu b 1).2,I (cu b 2).1,I (cu b 2).2,I (cu b 3).1,I (cu b 3).2,I (cu b 4).1,I (cu b 4).2,I (cu b 5).1,I (cu b 5).2]
def GC (b:dv)(k:Value)(v:AV):Prop:= ∃s:Nat,k= .int .i64 (s:Nat)/\v=I (if im b s=true then 1 else 2)
structure DA (n:Nat)(p:List Nat):Prop where
 len:p.length=n
 n6:n<=6
 lt: ∀i,aM p i<7
def GK (t:aX)(k:Value)(v:AV):Prop:= ∃p:List Nat,DA t.ms.length p/\k=pZ p/\bX (eh t p 6)=false/\v= .agg (eN (eh t p 6))
structure MS (t:aX) where
 c:List (Value×AV)
 k:List (Value×AV)
 hc:xO (GC t.gz) c
 hk:xO (GK t) k
def MS.new (t:aX):MS t:=⟨[],[],xO.nil _,xO.nil _⟩
abbrev MS.heap {t:aX}(m:MS t)(g1 g2:Nat):Heap:=[(g1,.map m.c),(g2,.map m.k)]
abbrev tp (t:aX)(but:Int)(g1 g2:Nat):AV:=.pi (t.enc++[I but,.mo g1,.mo g2])
theorem GC.key {b:dv}{k:Value}{v:AV}(h:GC b k v):IsKey (.int .i64) k:=by obtain⟨s,rfl,_⟩:=h;rfl
theorem pU {n:Nat}(h:n<7):(cR .i64 (n:Nat)).wf=true:=nj zz zz
theorem Mj {n:Nat}{p:List Nat}(h:DA n p):bJ ad 5 240 (pZ p):=by
 have a:ad.cellsOf 240=6:=zw
 have b:ad.cellsOf 3=1:=zw
 refine⟨?_,[.int .i64 (aM p 0:Nat),.int .i64 (aM p 1:Nat),.int .i64 (aM p 2:Nat),.int .i64 (aM p 3:Nat),.int .i64 (aM p 4:Nat),.int .i64 (aM p 5:Nat)],?_⟩
 ·simp [b4,bI,a]
 ·simp [b7,bk,bI,bi,a,b,pU (h.lt 0),pU (h.lt 1),pU (h.lt 2),pU (h.lt 3),pU (h.lt 4),pU (h.lt 5),a7]
theorem By {n:Nat}{p q:List Nat}(h:n<=6)(i:p.length=n)(j:q.length=n)(e:pZ p=pZ q):p=q:=by
 simp only[pZ,cb,cc,b9,bm,true_and,b8,and_true]at e;obtain⟨a,b,c,d,f,g⟩:=e;apply List.ext_getElem?;intro k;by_cases hk:k<n
 ·rw[qY (p:=p) zz,qY (p:=q) zz];match k with
  |0=>rw[a]
  |1=>rw[b]
  |2=>rw[c]
  |3=>rw[d]
  |4=>rw[f]
  |5=>rw[g]
  |k+6=>omega
 ·grind
theorem GK.key {t:aX}{k:Value}{v:AV}(h:GK t k v):bJ ad 5 240 k:=by obtain⟨p,a,rfl,_⟩:=h;exact Mj a
theorem F6 {t:aX}(h:t.OK)(but:Int)(g1 g2:Nat)(s:Nat)(hs:s<32)(m:MS t):
  il ad 283 [tp t but g1 g2,I (s:Nat)] (m.heap g1 g2) (λr Ho=>r=B (im t.gz s)/\ ∃u:MS t,Ho=u.heap g1 g2):=by
 obtain⟨o,q⟩:=Ei m.c (.int .i64 (s:Nat))
 have D:((t.gz.ss.map cQ.enc).length:Int)=t.gz.ss.length:=zj
 have K:=h.gz.Vf
 have g:IsKey (.int .i64) (.int .i64 (s:Nat)):=rfl
 have f:=J0 t.gz h.wf zz (cM (s:Nat) t.gz.ss.length)
 have w:Ev ad 312 [I (s:Nat),I (((t.gz.ss.map cQ.enc).length:Nat):Int)] (ints (cM (s:Nat) t.gz.ss.length)):=by
  rw[D]
  exact dN (zg (s:Nat) t.gz.ss.length zz zz zz)
 have d:im t.gz s=decide ((gd t.gz (cM (s:Nat) t.gz.ss.length)).2=0):=rfl
 generalize (gd t.gz (cM (s:Nat) t.gz.ss.length)).1=c1 at f
 generalize (gd t.gz (cM (s:Nat) t.gz.ss.length)).2=H at f d
 refine bq aet.ok<|aC rfl<|aJ.En (Y:=MS t×Nat) (λy=>Av y.1.c (.int .i64 (s:Nat)) (some (y.2,I (if im t.gz s=true then 1 else 2)))) (λ_=>el [(0,tp t but g1 g2),(1,I (s:Nat))]) (λy=>y.1.heap g1 g2) (λ_=>[]) ?_ ?_
 ·refine aa (av ?_)
  refine kL 5 rfl rfl<|ai (aF.nD (n:=0) hKI IA rfl rfl rfl g (λe he=>(m.hc.ok e he).key) q ?_)
  rcases A6 q m.hc with rfl|⟨j,p,rfl,J,x,rfl⟩
  ·refine eZ rfl<|ax rfl rfl<|aa (av ?_)
   refine kL 5 rfl rfl<|ai (aF.iI (n:=0) hKI rfl rfl rfl g (λe he=>(m.hc.ok e he).key) q rfl rfl ?_)
   refine bh ?_
   have w1:xO (λa b=>a= .int .i64 (s:Nat)\/GC t.gz a b) (km m.c (.int .i64 (s:Nat)) (I 2) none):=xO.put q ((m.hc.Ki (.int .i64 (s:Nat))).Ki _) (.inl rfl)
   have a1:=Lg (v:=I 2) q
   generalize z:km m.c (.int .i64 (s:Nat)) (I 2) none=es at w1 a1
   refine ae (aj (ar (H':=[(g1,.map es),(g2,.map m.k)]) (by rw[<-z];rfl)) (ao (l:=[(0,tp t but g1 g2),(1,I (s:Nat))]) ⟨rfl,rfl,trivial⟩))<|vj [] [.ret (ints (cM (s:Nat) t.gz.ss.length)),.ret (.bZ [ints c1,I H])] rfl ⟨w,f,trivial⟩<|aC rfl ?_
   by_cases hc:H=0
   ·refine ag (b:=true) (by show B _=B _;exact congrArg B (by rw[hc];rfl)) (λ_=>?_) (λh=>by cases h)
    rw[decide_eq_true hc]at d
    refine av<|kL 5 rfl rfl ?_
    have C: ∀e∈es,IsKey (.int .i64) e.1:=λe he=>(w1.ok e he).elim (λe=>by rw[e];rfl) GC.key
    refine ai (aF.iI (n:=0) hKI rfl rfl rfl g C a1 rfl rfl ?_)
    refine bh ?_
    have F:xO (GC t.gz) (km es (.int .i64 (s:Nat)) (I 1) (some (sr m.c none,I 2))):=xO.put a1 w1 ⟨s,rfl,by rw[d];rfl⟩
    refine⟨(⟨_,m.k,F,m.hk⟩,sr es (some (sr m.c none,I 2))),?_,aj (ar rfl) eL⟩
    rw[d]
    exact Lg (v:=I 1) a1
   ·refine ag (b:=false) (by show B _=B _;exact congrArg B (by rw[beq_eq_false_iff_ne];exact hc)) (λh=>by cases h) (λ_=>af ?_)
    rw[decide_eq_false hc]at d
    have F:xO (GC t.gz) es:=⟨w1.nd,λe he=>by
     rcases w1.ok e he with hk|hg
     ·obtain⟨L,M⟩:=e
      simp only at hk
      subst hk
      refine⟨s,rfl,?_⟩
      cases a1 with
      |some A=>
       obtain⟨i,hi⟩:=bs he
       have G:(es.map (·.1))[i]? =some (.int .i64 (s:Nat)):=by rw[b1,hi];rfl
       have b2:(es.map (·.1))[sr m.c none]? =some (.int .i64 (s:Nat)):=by rw[b1,A];rfl
       have:=(List.getElem?_inj (be.1 G).1 w1.nd).1 (G.trans b2.symm)
       rw[this]at hi
       rw[hi]at A
       rw[d]
       cases A;rfl
     ·exact hg⟩
    refine⟨(⟨es,m.k,F,m.hk⟩,sr m.c none),?_,aj (ar rfl) eL⟩
    show Av es _ _
    rw[d]
    exact a1
  ·have e:J=s:=by
    simp only[bm,true_and,b8]at x
    exact x.symm
   subst e
   refine eZ rfl<|ag (b:=false) ?_ (λh=>by cases h) (λ_=>af ?_)
   ·show B _=B _
    refine congrArg B ?_
    split<;>rfl
   exact⟨(m,j),q,aj (ar rfl) eL⟩
 ·rintro⟨u,j⟩ E
  refine aa (av ?_)
  refine kL 5 rfl rfl<|ai (aF.nD (n:=0) hKI IA rfl rfl rfl g (λe he=>(u.hc.ok e he).key) E ?_)
  refine eZ rfl<|ab ⟨.inr rfl,u.heap g1 g2,B (im t.gz s),u.heap g1 g2,rfl,.one (.tmp ?_ rfl),⟨rfl,u,rfl⟩,ap _⟩
  show B _=B _
  refine congrArg B ?_
  cases im t.gz s<;>rfl
def iu (t:aX)(a b:Nat):Nat->Bool
 |0=> !im t.gz (2^(t.m a).sp.toNat ||| 2^(t.m b).sp.toNat)
 |1=>decide ((t.m a).v≠(t.m b).v/\(t.m a).v≠ -1/\(t.m b).v≠ -1)
 |2=>decide (max (t.m a).lo (t.m b).lo>min (t.m a).hi (t.m b).hi)
 |3=>decide ((t.m a).par=b\/(t.m b).par=a)
 |_=>false
theorem pN (t:aX)(a b:Nat):uu t a b=if iu t a b 0=true then 1 else if iu t a b 1=true then 2 else if iu t a b 2=true then 3 else if iu t a b 3=true then 4 else 0:=by unfold uu iu;simp
abbrev Ja (t:aX)(g1 g2:Nat)(res:AV)(r:AV)(Ho:Heap):Prop:=r=res/\ ∃a:MS t,Ho=a.heap g1 g2
section
variable {t:aX} (h:t.OK) (but:Int) (g1 g2:Nat) {a b:Nat} (ha:a<t.ms.length) (hb:b<t.ms.length)
include h ha hb
theorem NJ (m:MS t):il ad 357 [tp t but g1 g2,I (a:Nat),I (b:Nat)] (m.heap g1 g2) (Ja t g1 g2 (B (iu t a b 0))):=by
 obtain⟨x,hx⟩:=aL ha;obtain⟨y,hy⟩:=aL hb;have d:=h.TJ a x hx;have oy:=h.TJ b y hy;have u:=h.gz.Vf
 have v:(1:Int)*2^x.sp.toNat<32:=by
  have:=d.OS;have:=d.NN;have j:(2:Nat)^x.sp.toNat<2^5:=a6 zz zz;have l:(2:Int)^x.sp.toNat=((2^x.sp.toNat:Nat):Int):=zj
  omega
 have w:(1:Int)*2^y.sp.toNat<32:=by
  have:=oy.OS;have:=oy.NN;have j:(2:Nat)^y.sp.toNat<2^5:=a6 zz zz;have l:(2:Int)^y.sp.toNat=((2^y.sp.toNat:Nat):Int):=zj
  omega
 have f:0<=(1:Int)*2^x.sp.toNat:=zx
 have g:0<=(1:Int)*2^y.sp.toNat:=zx
 have hs:2^x.sp.toNat ||| 2^y.sp.toNat<32:=by have s:=one_pow x.sp.toNat;have j:=one_pow y.sp.toNat;exact Nat.or_lt_two_pow (n:=5) zz zz
 have c:=F6 h but g1 g2 _ hs m;have k:iu t a b 0= !im t.gz (2^x.sp.toNat ||| 2^y.sp.toNat):=by simp only[iu,aX.oV hx,aX.oV hy]
 rw[<-one_pow x.sp.toNat,<-one_pow y.sp.toNat]at c;rw[<-one_pow x.sp.toNat,<-one_pow y.sp.toNat]at k;have o:=d.OS;have p:=d.NN;have q:=oy.OS;have r:=oy.NN;refine bq af0.ok<|aC rfl<|aa (xh [] [.cells x.enc,.cells y.enc] rfl ⟨⟨zz,by simp [hx]⟩,⟨zz,zz,zz,zz⟩,⟨zz,by simp [hy]⟩,⟨zz,zz,zz,zz⟩,⟨⟨f,zz⟩,g,zz⟩,trivial⟩ ?_);refine ai (bU (Hin:=m.heap g1 g2) (H0:=[]) c rfl rfl (aK _) zj ?_);rintro res i ⟨rfl,e,rfl⟩;refine eZ rfl<|ab ⟨.inr rfl,e.heap g1 g2,B (iu t a b 0),e.heap g1 g2,by rw[List.append_nil];rfl,.one (.tmp ?_ rfl),⟨rfl,e,rfl⟩,ap _⟩;show B _=B _;rw[k]
end
section
variable {t:aX} (but:Int) (g1 g2:Nat) {a b:Nat} (ha:a<t.ms.length) (hb:b<t.ms.length)
include ha hb
theorem N4:Ev ad 358 [tp t but g1 g2,I (a:Nat),I (b:Nat)] (B (iu t a b 1)):=by
 obtain⟨x,hx⟩:=aL ha;obtain⟨y,hy⟩:=aL hb;have e:iu t a b 1=decide (x.v≠y.v/\x.v≠ -1/\y.v≠ -1):=by simp only[iu,aX.oV hx,aX.oV hy]
 refine ak aec.ok<|aC rfl<|vj [] [.cells x.enc,.cells y.enc] rfl ⟨⟨zz,by simp [hx]⟩,⟨zz,by simp [hy]⟩,trivial⟩ ?_;rw[e];by_cases c:x.v=y.v
 ·refine uk [(30,false),(34,false)] [] rfl (by simp [c])<|ab (aB ?_);show B _=B _;simp [c]
 ·by_cases d:x.v= -1
  ·refine uk [(30,true),(34,false)] [] rfl (by simp [d];omega)<|ab (aB ?_);show B _=B _;simp [d]
  ·refine uk [(30,true),(34,true)] [] rfl (by simp [c,d])<|ab (aB ?_);show B _=B _;refine congrArg B ?_;rw[an];simp [c,d]
theorem Na:Ev ad 359 [tp t but g1 g2,I (a:Nat),I (b:Nat)] (B (iu t a b 2)):=by
 obtain⟨x,hx⟩:=aL ha;obtain⟨y,hy⟩:=aL hb;have c:iu t a b 2=decide (max x.lo y.lo>min x.hi y.hi):=by simp only[iu,aX.oV hx,aX.oV hy]
 refine ak adu.ok<|aC rfl<|vj [] [.cells x.enc,.cells y.enc,.aI,.aI] rfl (by(and_intros);(all_goals first|exact zk _|((first|rfl|(simp [hx];done)|(simp [hy];done)|decide))))<|ae (aj (aq (t:=7) rfl) (aq (t:=8) rfl))<|aC rfl ?_;rw[c];refine ab (aB ?_);rfl
theorem OP:Ev ad 360 [tp t but g1 g2,I (a:Nat),I (b:Nat)] (B (iu t a b 3)):=by
 obtain⟨x,hx⟩:=aL ha;obtain⟨y,hy⟩:=aL hb;have d:iu t a b 3=decide (x.par=b\/y.par=a):=by simp only[iu,aX.oV hx,aX.oV hy]
 refine ak ade.ok<|aC rfl ?_;rw[d];by_cases c:x.par=b
 ·refine uk [(18,true)] [.cells x.enc] rfl (by simp [c,hx])<|ab (aB ?_);show B _=B _;simp [c]
 ·refine uk [(18,false)] [.cells x.enc,.cells y.enc] rfl zx<|ab (aB ?_);show B _=B _;refine congrArg B ?_;rw[an];simp [c]
end
abbrev Jt:List (List AV):=[[I 1,.fn (.func 357) [] []],[I 2,.fn (.func 358) [] []],[I 3,.fn (.func 359) [] []],[I 4,.fn (.func 360) [] []]]
theorem Ro:Ev ad 331 [] (.sl 2 Jt):=by refine ak afc.ok<|aC rfl<|bc [.bW] rfl ⟨rfl,trivial⟩<|ab (aB ?_);rfl
theorem JF {P:Program}{t:aX}{g1 g2:Nat}{u:Nat}{env:Env}{p res:AV}{m:MS t}(h:env u=p)(a:p.bC=false)(e:p=res):wM P [.tmp u] (Ja t g1 g2 res) .ret env (m.heap g1 g2) []:=
 ⟨.inr rfl,m.heap g1 g2,p,m.heap g1 g2,rfl,.one (.tmp h a),⟨e,m,rfl⟩,ap _⟩
theorem XD {t:aX}(h:t.OK)(but:Int)(g1 g2:Nat){a b:Nat}(ha:a<t.ms.length)(c:b<t.ms.length)(m:MS t):
  il ad 282 [tp t but g1 g2,I (a:Nat),I (b:Nat)] (m.heap g1 g2) (Ja t g1 g2 (I (uu t a b))):=by
 have r: ∀m:MS t,il ad 357 [tp t but g1 g2,I (a:Nat),I (b:Nat)] (m.heap g1 g2) (Ja t g1 g2 (B (iu t a b 0))):=λm=>NJ h but g1 g2 ha c m
 have g: ∀{f:Nat} {v:AV} (m:MS t),Ev ad f [tp t but g1 g2,I (a:Nat),I (b:Nat)] v->il ad f [tp t but g1 g2,I (a:Nat),I (b:Nat)] (m.heap g1 g2) (Ja t g1 g2 v):=
  λm e=>(e.toR (m.heap g1 g2)).mono λ_ _ ⟨p,q⟩=>⟨p,m,q⟩
 refine bq aeL.ok<|aC rfl<|aa (aa ?_)
 refine iO [.ret (.sl 2 Jt)] rfl ⟨Ro,trivial⟩<|aJ.gK (λ_:MS t=> ∀j,j<4->iu t a b j=false) (λ_=>el []) (λm=>m.heap g1 g2) (λ_=>[]) ?_ ?_
 ·refine br (X:=Nat×MS t) (λx=>x.1<=4/\ ∀j,j<x.1->iu t a b j=false) (λx=>el [(0,tp t but g1 g2),(1,I (a:Nat)),(2,I (b:Nat)),(9,.sl 2 Jt),(10,I 4),(11,I x.1)]) (λx=>x.2.heap g1 g2) (λ_=>[]) (λx=>4-x.1) (0,m) ⟨zj,zx⟩
   eL ?_
  rintro⟨k,m⟩ ⟨hk,i⟩
  simp only at hk i ⊢
  refine aC rfl<|aa (ag rfl (λhc=>?_) (λhc=>?_))
  ·simp only[decide_eq_true_eq]at hc
   refine af (aa (au ?_))
   have o:k=0\/k=1\/k=2\/k=3:=zz
   rcases o with rfl|rfl|rfl|rfl
   ·refine bc [.cells [I 1,.fn (.func 357) [] []],.aI] rfl ⟨⟨zz,rfl⟩,rfl,⟨rfl,rfl,rfl,zq⟩,trivial⟩<|ae (aq (t:=8) rfl)<|aa (av ?_)
    refine kL 5 rfl rfl<|ai (bP (Hin:=m.heap g1 g2) (H0:=[]) rfl (by exact r m) rfl rfl (aK _) zj ?_)
    rintro res l ⟨rfl,d,rfl⟩
    refine bh<|ag (b:=iu t a b 0) rfl (λc=>?_) (λc=>?_)
    ·refine ae (ar (H':=d.heap g1 g2) zj)<|aC rfl<|ab (JF (t:=t) (g1:=g1) (g2:=g2) (m:=d) rfl rfl ?_)
     show I _=I _
     rw[pN]
     first|(simp [c];done)|(simp [i,c];done)
    ·refine af<|dS rfl ⟨zz,trivial⟩ ?_
     refine⟨(0+1,d),⟨by simp only;omega,λj n=>?_⟩,by simp only;omega,aj (ar (H':=d.heap g1 g2) zj) eL⟩
     simp only at n
     by_cases e:j=0
     ·rw[e];exact c
     ·exact i j zz
   ·refine bc [.cells [I 2,.fn (.func 358) [] []],.aI] rfl ⟨⟨zz,rfl⟩,rfl,⟨rfl,rfl,rfl,zq⟩,trivial⟩<|ae (aq (t:=8) rfl)<|aa (av ?_)
    refine kL 5 rfl rfl<|ai (bP (Hin:=m.heap g1 g2) (H0:=[]) rfl (by exact g m (N4 but g1 g2 ha c)) rfl rfl (aK _) zj ?_)
    rintro res l ⟨rfl,d,rfl⟩
    refine bh<|ag (b:=iu t a b 1) rfl (λc=>?_) (λc=>?_)
    ·refine ae (ar (H':=d.heap g1 g2) zj)<|aC rfl<|ab (JF (t:=t) (g1:=g1) (g2:=g2) (m:=d) rfl rfl ?_)
     show I _=I _
     rw[pN]
     first|(simp [c];done)|(simp [i,c];done)
    ·refine af<|dS rfl ⟨zz,trivial⟩ ?_
     refine⟨(1+1,d),⟨by simp only;omega,λj n=>?_⟩,by simp only;omega,aj (ar (H':=d.heap g1 g2) zj) eL⟩
     simp only at n
     by_cases e:j=1
     ·rw[e];exact c
     ·exact i j zz
   ·refine bc [.cells [I 3,.fn (.func 359) [] []],.aI] rfl ⟨⟨zz,rfl⟩,rfl,⟨rfl,rfl,rfl,zq⟩,trivial⟩<|ae (aq (t:=8) rfl)<|aa (av ?_)
    refine kL 5 rfl rfl<|ai (bP (Hin:=m.heap g1 g2) (H0:=[]) rfl (by exact g m (Na but g1 g2 ha c)) rfl rfl (aK _) zj ?_)
    rintro res l ⟨rfl,d,rfl⟩
    refine bh<|ag (b:=iu t a b 2) rfl (λc=>?_) (λc=>?_)
    ·refine ae (ar (H':=d.heap g1 g2) zj)<|aC rfl<|ab (JF (t:=t) (g1:=g1) (g2:=g2) (m:=d) rfl rfl ?_)
     show I _=I _
     rw[pN]
     first|(simp [c];done)|(simp [i,c];done)
    ·refine af<|dS rfl ⟨zz,trivial⟩ ?_
     refine⟨(2+1,d),⟨by simp only;omega,λj n=>?_⟩,by simp only;omega,aj (ar (H':=d.heap g1 g2) zj) eL⟩
     simp only at n
     by_cases e:j=2
     ·rw[e];exact c
     ·exact i j zz
   ·refine bc [.cells [I 4,.fn (.func 360) [] []],.aI] rfl ⟨⟨zz,rfl⟩,rfl,⟨rfl,rfl,rfl,zq⟩,trivial⟩<|ae (aq (t:=8) rfl)<|aa (av ?_)
    refine kL 5 rfl rfl<|ai (bP (Hin:=m.heap g1 g2) (H0:=[]) rfl (by exact g m (OP but g1 g2 ha c)) rfl rfl (aK _) zj ?_)
    rintro res l ⟨rfl,d,rfl⟩
    refine bh<|ag (b:=iu t a b 3) rfl (λc=>?_) (λc=>?_)
    ·refine ae (ar (H':=d.heap g1 g2) zj)<|aC rfl<|ab (JF (t:=t) (g1:=g1) (g2:=g2) (m:=d) rfl rfl ?_)
     show I _=I _
     rw[pN]
     first|(simp [c];done)|(simp [i,c];done)
    ·refine af<|dS rfl ⟨zz,trivial⟩ ?_
     refine⟨(3+1,d),⟨by simp only;omega,λj n=>?_⟩,by simp only;omega,aj (ar (H':=d.heap g1 g2) zj) eL⟩
     simp only at n
     by_cases e:j=3
     ·rw[e];exact c
     ·exact i j zz
  ·simp only[decide_eq_false_iff_not]at hc
   have:k=4:=zz
   subst this
   exact ay ⟨m,i,ao trivial⟩
 ·intro d i
  refine aC rfl<|ab (JF (t:=t) (g1:=g1) (g2:=g2) (m:=d) rfl rfl ?_)
  show I _=I _
  rw[pN]
  simp [i]
theorem SW (p:List Nat){k:Nat}(h:k<6):[I (aM p k:Nat)]<+:(bY p).drop (k*1):=by
 match k,h with
 |0,_=>exact⟨_,rfl⟩
 |1,_=>exact⟨_,rfl⟩
 |2,_=>exact⟨_,rfl⟩
 |3,_=>exact⟨_,rfl⟩
 |4,_=>exact⟨_,rfl⟩
 |5,_=>exact⟨_,rfl⟩
def ik (but:Int)(i:Nat):Bool:=cN but i
theorem D4 {but:Int}{i:Nat}:(((((but/2^((i:Nat):Int).toNat).toNat &&& (1:Int).toNat:Nat):Int))==0)= !ik but i:=by grind [ik,cN,only]
def pK (t:aX)(but:Nat->Bool)(p:List Nat)(i:Nat):Bool:=but i||(match t.fr[i]? with|some x=>Va p x|none=>true)
theorem Cz (t:aX)(but:Nat->Bool)(p:List Nat):vW t but p=(bx t.fr.length).all (pK t but p):=rfl
theorem Bu {t:aX}{but:Nat->Bool}{p:List Nat}{i:Nat}{x:ry}(h:t.fr[i]? =some x):pK t but p i=(but i||Va p x):=by unfold pK;rw[h]
theorem wfI {n:Int}(a:0<=n)(b:n<64):(cR .i64 n).wf=true:=nj a b
abbrev Gy (x:ry):Value:=.agg #[.int .i64 x.a,.int .i64 x.b,.bool x.same]
theorem EO {x:ry}(a0:0<=x.a)(a1:x.a<64)(d:0<=x.b)(e:x.b<64):bJ ad 5 109 (Gy x):=by
 have c:ad.cellsOf 109=3:=zw
 have f:ad.cellsOf 3=1:=zw
 have g:ad.cellsOf 4=1:=zw
 have h:(Lit.bool x.same).wf=true:=rfl;refine⟨?_,[.int .i64 x.a,.int .i64 x.b,.bool x.same],?_⟩
 ·simp [b4,bA,c]
 ·simp [b7,bk,bA,bi,Tryz.underlying4,c,f,g,wfI a0 a1,wfI d e]
theorem V9 {x y:ry}:Gy x=Gy y↔x=y:=by
 constructor
 ·intro h;simp only[Gy,cb,cc,b9,bm,c7,true_and,and_true]at h;obtain⟨a,b,c⟩:=h;cases x;cases y;simp only at a b c;subst a b c;rfl
 ·grind
theorem Hz {d:Nat}{a b:Operand}{env:Env}{H:Heap}{x y:ry}(ha:bu env a= .agg x.enc)(c:bu env b= .agg y.enc)(e:bJ ad 5 109 (Gy x))(f:bJ ad 5 109 (Gy y)):
  ∀(r:Option Nat) (N:Nat) (D:List Nat),Q1 ad r N (.nI false 109 a b) (some d) env H D [(d,B (decide (x=y)))]:=by
 intro r N D
 exact aF.nI (m:=5) (DD:=5) zq zw zw zw zw (u:=Gy x) (v:=Gy y) (by rw[ha];rfl) (by rw[c];rfl) e f (decide (x=y)) (by rw[decide_eq_true_iff];exact V9.symm) ⟨rfl,rfl,rfl⟩
set_option maxHeartbeats 2000000 in
theorem Vw {t:aX}(h:t.OK)(but:Int)(z:0<=but)(T:but<9223372036854775808)(g1 g2:Nat)(p:List Nat):Ev ad 212 [tp t but g1 g2,.agg (bY p)] (B (vW t (ik but) p)):=by
 have s:((t.fr.map ry.enc).length:Int)=t.fr.length:=zj
 have P:=h.GO;have M:=h.Ax;have r: ∀i:Nat,0<=but/2^((i:Nat):Int).toNat/\but/2^((i:Nat):Int).toNat<=but:=λi=>⟨Int.ediv_nonneg z (Int.le_of_lt (cA zz)),Int.ediv_le_self _ z⟩;have U:ad.underlying 4=some .bool:=zw
 refine ak ad0.ok<|bc [.bW] rfl ⟨⟨rfl,rfl⟩,trivial⟩<|aa (aa ?_);refine cC rfl<|bE (vW t (ik but) p=true) (el []) [] [] ?_ ?_
 ·refine dE (λk:Nat=>k<=t.fr.length/\ ∀j,j<k->pK t (ik but) p j=true) (λk=>el [(0,tp t but g1 g2),(3,.pi (bY p)),(11,pg t.fr),(12,I t.fr.length),(13,I k)]) (λk=>t.fr.length-k) 0 ⟨zz,zx⟩
   (ao ⟨rfl,rfl,rfl,by show I _=I _;rw[s],rfl,trivial⟩) ?_
  rintro k ⟨hk,u⟩;refine aC rfl<|aa (ag rfl (λhc=>?_) (λhc=>?_))
  ·simp only[nL]at hc;obtain⟨x,hx⟩:=aL hc;obtain⟨a0,a1,F,R,H⟩:=h.tie x (bt hx);have d:=Bu (but:=ik but) (p:=p) hx;refine af (aa (au ?_));refine bc [.cells x.enc,.aI] rfl ⟨⟨zz,by simp [hx]⟩,rfl,⟨rfl,rfl,rfl,zq⟩,trivial⟩<|ae (aq (t:=6) rfl) ?_
   have next:pK t (ik but) p k=true-> ∀j,j<k+1->pK t (ik but) p j=true:=by
    intro he j A;by_cases e:j=k
    ·rw[e];exact he
    ·exact u j zz
   refine aa (aJ.En (λo:Bool=>o=true->pK t (ik but) p k=true) (λo=>el [(0,tp t but g1 g2),(3,.pi (bY p)),(5,I (k:Nat)),(6,.pi x.enc),(11,pg t.fr),(12,I t.fr.length),(13,I k),(43,B o)]) (λ_=>[]) (λ_=>[]) ?_ ?_)
   ·cases k with
    |zero=>refine rE [(20,false),(33,false)] [] rfl (by(and_intros);(all_goals first|exact zk _|((rfl)))) ?_;exact⟨false,(λh=>by cases h),eL⟩
    |succ j=>
     obtain⟨y,hy⟩:=aL (l:=t.fr) (k:=j) zz;obtain⟨c0,c1,d0,d1,_⟩:=h.tie y (bt hy);have q:((j+1:Nat):Int)-1=j:=zz
     have J:decide (((j+1:Nat):Int)>0)=true:=decide_eq_true zz;have Q:(t.fr.map ry.enc)[(((j+1:Nat):Int)-1).toNat]? =some y.enc:=by rw[q];simp [hy]
     have N:0<=but/2^(((j+1:Nat):Int)-1).toNat:=by rw[q];exact(r j).1
     have O:but/2^(((j+1:Nat):Int)-1).toNat<9223372036854775808:=by rw[q];have:=r j;omega
     have D:=EO a0 zz F zz;have E:=EO c0 zz d0 zz;by_cases m:x=y
     ·have n:=decide_eq_true m;refine rE [(20,true),(33,true)] [.cells y.enc,.op (B (decide (x=y)))] rfl (by(and_intros);(all_goals first|exact zk _|((exact Hz rfl rfl D E)))) ?_;refine⟨!ik but j,λc=>?_,ao ⟨rfl,rfl,rfl,rfl,rfl,rfl,rfl,?_,trivial⟩⟩
      ·have g:=u j zz;rw[Bu hy]at g;rw[d,m];have:ik but j=false:=by simpa using c
       rw[this,cr]at g;rw[g,Bool.or_true]
      ·show B (((((but/2^(((j+1:Nat):Int)-1).toNat).toNat &&& (1:Int).toNat:Nat):Int))==0)=B _;rw[q];exact congrArg B D4
     ·have n:=decide_eq_false m;refine rE [(20,true),(33,false)] [.cells y.enc,.op (B (decide (x=y)))] rfl (by(and_intros);(all_goals first|exact zk _|((exact Hz rfl rfl D E)))) ?_;exact⟨false,(λh=>by cases h),eL⟩
   ·intro o v;refine ag (b:=o) rfl (λc=>?_) (λ_=>af ?_)
    ·refine ay<|dS rfl ⟨zz,trivial⟩ ?_;exact⟨k+1,⟨hc,next (v c)⟩,zz,eL⟩
    ·have K:0<=but/2^((k:Nat):Int).toNat:=(r k).1;have L:but/2^((k:Nat):Int).toNat<9223372036854775808:=by have:=r k;omega
     have C:=D4 (but:=but) (i:=k);refine dZ True (el [(0,tp t but g1 g2),(3,.pi (bY p)),(11,pg t.fr),(12,I t.fr.length),(13,I k),(65,B (!pK t (ik but) p k))]) [] [] ?_ ?_
     ·cases c:ik but k with
      |true=>
       have w:(((((but/2^((k:Nat):Int).toNat).toNat &&& (1:Int).toNat:Nat):Int))==0)=false:=by rw[C,c];rfl
       refine rE [(52,false)] [] rfl (by(and_intros);(all_goals first|exact zk _|((rfl)))) ?_;refine⟨(),trivial,ao ⟨rfl,rfl,rfl,rfl,rfl,?_,trivial⟩⟩;show B false=B _;rw[d,c];rfl
      |false=>
       have w:(((((but/2^((k:Nat):Int).toNat).toNat &&& (1:Int).toNat:Nat):Int))==0)=true:=by rw[C,c];rfl
       have S:=SW p (k:=x.a.toNat) zz;have eb:=SW p (k:=x.b.toNat) zz;refine rE [(52,true)] [.pre [I (aM p x.a.toNat:Nat)],.pre [I (aM p x.b.toNat:Nat)]] rfl (by(and_intros);(all_goals first|exact zk _|((rfl)))) ?_;refine⟨(),trivial,ao ⟨rfl,rfl,rfl,rfl,rfl,?_,trivial⟩⟩;show B ((((aM p x.a.toNat:Nat):Int)==((aM p x.b.toNat:Nat):Int))!=x.same)=B _;rw[d,c];refine congrArg B ?_;unfold Va;rw[show (((aM p x.a.toNat:Nat):Int)==((aM p x.b.toNat:Nat):Int))=(aM p x.a.toNat==aM p x.b.toNat)by rw[an,beq_iff_eq,beq_iff_eq];omega];cases (aM p x.a.toNat==aM p x.b.toNat)<;>cases x.same<;>rfl
     intro _ _;refine ag rfl (λc=>?_) (λc=>af ?_)
     ·have f:pK t (ik but) p k=false:=by simpa using c
      refine aC rfl<|ab (aB ?_);show B false=B _;refine congrArg B ?_;symm;rw[Cz,b0];exact⟨k,a8.2 hc,by rw[f];decide⟩
     ·have f:pK t (ik but) p k=true:=by simpa using c
      refine dS rfl ⟨zz,trivial⟩ ?_;exact⟨k+1,⟨hc,next f⟩,zz,eL⟩
  ·simp only[nL]at hc;refine ay ⟨(),?_,ao trivial⟩;rw[Cz,b6];intro j A;exact u j (by have:=a8.1 A;omega)
 ·intro _ G;refine aC rfl<|ab (aB ?_);show B _=B _;rw[G]
abbrev mR (f:Nat->Nat):List AV:=[I (f 0:Nat),I (f 1:Nat),I (f 2:Nat),I (f 3:Nat),I (f 4:Nat),I (f 5:Nat)]
theorem BF (f:Nat->Nat){k:Nat}(h:k<6):eX none ((mR f).drop (0+k*1))=some (I (f k:Nat)):=by
 match k,h with
 |0,_=>rfl
 |1,_=>rfl
 |2,_=>rfl
 |3,_=>rfl
 |4,_=>rfl
 |5,_=>rfl
theorem mQ (f:Nat->Nat){k:Nat}(h:k<6):[I (f k:Nat)]<+:(mR f).drop (k*1):=by
 match k,h with
 |0,_=>exact⟨_,rfl⟩
 |1,_=>exact⟨_,rfl⟩
 |2,_=>exact⟨_,rfl⟩
 |3,_=>exact⟨_,rfl⟩
 |4,_=>exact⟨_,rfl⟩
 |5,_=>exact⟨_,rfl⟩
theorem J1 (f:Nat->Nat){k:Nat}(h:k<6):jO none (k*1) (mR f)=some (I (f k:Nat)):=by
 match k,h with
 |0,_=>rfl
 |1,_=>rfl
 |2,_=>rfl
 |3,_=>rfl
 |4,_=>rfl
 |5,_=>rfl
theorem wq (f:Nat->Nat)(v:Nat){k:Nat}(h:k<6):bK (mR f) (0+k*1) [I (v:Nat)]=mR (λj=>if j=k then v else f j):=by
 match k,h with
 |0,_=>rfl
 |1,_=>rfl
 |2,_=>rfl
 |3,_=>rfl
 |4,_=>rfl
 |5,_=>rfl
theorem Sv {t:aX}(h:t.OK)(but:Int)(g1 g2:Nat){p:List Nat}(s: ∀i,aM p i<6)(m:MS t):
  il ad 211 [tp t but g1 g2,.agg (bY p)] (m.heap g1 g2) (Ja t g1 g2 (B (pH t p))):=by
 have q:((t.ms.map eY.enc).length:Int)=t.ms.length:=zj
 have C:=h.Ax
 have G:=h.gz.Vf
 refine bq adZ.ok<|bc [.bW] rfl ⟨⟨rfl,rfl⟩,trivial⟩<|bc [.aI] rfl ⟨rfl,trivial⟩<|bM (t:=5) rfl λb5=>aa (aa ?_)
 refine cC rfl<|bE True (el [(0,tp t but g1 g2),(5,.po b5 0)]) ((b5,.cells 240 (mR (ny t p t.ms.length)))::m.heap g1 g2) [] ?_ ?_
 ·refine br (λk:Nat=>k<=t.ms.length) (λk=>el [(0,tp t but g1 g2),(3,.pi (bY p)),(5,.po b5 0),(14,nk t.ms),(15,I t.ms.length),(16,I k)]) (λk=>(b5,.cells 240 (mR (ny t p k)))::m.heap g1 g2) (λ_=>[]) (λk=>t.ms.length-k) 0 zz
   (aj (ar rfl) (ao ⟨rfl,rfl,rfl,rfl,by show I _=I _;rw[q],rfl,trivial⟩)) ?_
  intro k hk
  refine aC rfl<|aa (ag rfl (λhc=>?_) (λhc=>?_))
  ·simp only[nL]at hc
   obtain⟨x,hx⟩:=aL hc
   have z:=h.TJ k x hx
   have s0:=z.OS
   have s1:=z.NN
   refine af (aa (au ?_))
   refine bc [.cells x.enc,.aI] rfl ⟨⟨zz,by simp [hx]⟩,rfl,⟨rfl,rfl,rfl,zq⟩,trivial⟩<|ae (aq (t:=7) rfl)<|gm [(0,tp t but g1 g2),(3,.pi (bY p)),(5,.po b5 0),(6,I (k:Nat)),(7,.pi x.enc),(14,nk t.ms),(15,I t.ms.length),(16,I k)] ?_
   have pk:=s k
   have c:=Eu h p (aM p k) k zz
   have H:(1:Int)*2^x.sp.toNat<32:=by
    have E:(2:Nat)^x.sp.toNat<2^5:=a6 zz zz
    have F:(2:Int)^x.sp.toNat=((2^x.sp.toNat:Nat):Int):=zj
    omega
   have D:0<=(1:Int)*2^x.sp.toNat:=by have:(0:Int)<2^x.sp.toNat:=cA zz;omega
   refine xh [] [.pre [I (aM p k:Nat)],.O1 0 (I (ny t p k (aM p k):Nat))] rfl ⟨⟨⟨zz,zz⟩,mQ (aM p) zz⟩,⟨zz,zz⟩,⟨rfl,BF (ny t p k) pk⟩,⟨zz,zz,zz,zz⟩,⟨⟨zz,zz⟩,zz,zz⟩,⟨zz,zz⟩,trivial⟩<|aT.hd (gs:=[]) (hs:=[.gI 0]) rfl ⟨⟨rfl,rfl,rfl,rfl,?_⟩,trivial⟩ ?_
   ·show 0+((aM p k:Nat):Int).toNat*1+1<=6
    omega
   refine dS rfl ⟨zz,trivial⟩ ?_
   refine⟨k+1,hc,zz,aj (ar ?_) eL⟩
   show (b5,cP.cells 240 (bK (mR (ny t p k)) (0+(aM p k)*1) [I (((ny t p k (aM p k):Nat):Int).toNat ||| ((1:Int)*2^x.sp.toNat).toNat:Nat)]))::m.heap g1 g2=_
   rw[wq _ _ pk,one_pow]
   have e:(λj=>if j=aM p k then((ny t p k (aM p k):Nat):Int).toNat ||| 2^x.sp.toNat else ny t p k j)=ny t p (k+1):=by
    funext j
    rw[yr,aX.oV hx,Int.toNat_natCast]
    by_cases d:j=aM p k
    ·rw[if_pos d,if_pos d.symm,d]
    ·rw[if_neg d,if_neg (λe=>d e.symm)]
   rw[e]
  ·simp only[nL]at hc
   have e:k=t.ms.length:=zz
   subst e
   exact ay ⟨(),trivial,eL⟩
 ·intro _ _
  have a:pH t p=(bx 6).all λw=>ny t p t.ms.length w==0||im t.gz (ny t p t.ms.length w):=rfl
  have c: ∀w,ny t p t.ms.length w<32:=λw=>Eu h p w _ (cD _)
  generalize ny t p t.ms.length=f at a c
  refine aa (aa ?_)
  refine iO [.at 0] rfl ⟨rfl,trivial⟩<|aJ.gK (λ_:MS t=>pH t p=true) (λ_=>el []) (λm=>m.heap g1 g2) (λ_=>[]) ?_ ?_
  ·refine br (X:=Nat×MS t) (λx=>x.1<=6/\ ∀w,w<x.1->(f w==0||im t.gz (f w))=true) (λx=>el [(0,tp t but g1 g2),(32,.agg (mR f)),(33,I x.1)]) (λx=>x.2.heap g1 g2) (λ_=>[]) (λx=>6-x.1) (0,m) ⟨zj,by intro w g;simp at g⟩
    (aj (bB.Hv 0) eL) ?_
   rintro⟨k,m⟩ ⟨hk,r⟩
   simp only at hk r ⊢
   refine aC rfl<|aa (ag rfl (λhc=>?_) (λhc=>?_))
   ·simp only[decide_eq_true_eq]at hc
    have o:k<6:=zz
    refine af (aa (au ?_))
    refine bc [.idx (I (f k:Nat))] rfl ⟨⟨⟨zz,zz⟩,J1 f o⟩,trivial⟩<|aJ.En (λb:MS t=>True) (λ_=>el [(0,tp t but g1 g2),(32,.agg (mR f)),(33,I k),(43,B (!(f k==0||im t.gz (f k))))]) (λb=>b.heap g1 g2) (λ_=>[]) ?_ ?_
    ·by_cases n:f k=0
     ·have y:(((f k:Nat):Int)!=0)=false:=by rw[n];rfl
      refine js [(38,false)] [] rfl (by(and_intros);(all_goals first|exact zk _|((rfl)))) ?_
      refine⟨m,trivial,ao ⟨rfl,rfl,rfl,?_,trivial⟩⟩
      show B false=B _
      rw[n];rfl
     ·have y:(((f k:Nat):Int)!=0)=true:=by rw[bne_iff_ne];omega
      have u:(f k==0)=false:=by rw[beq_eq_false_iff_ne];exact n
      refine av<|Za [(38,true)] [] 5 rfl rfl (by(and_intros);(all_goals first|exact zk _|((rfl))))<|aT.yes (congrArg B y) (bU (Hin:=m.heap g1 g2) (H0:=[]) (F6 h but g1 g2 (f k) (c k) m) rfl rfl (aK _) zj ?_)
      rintro res v ⟨rfl,b,rfl⟩
      refine Zb [(38,true)] [] rfl (by(and_intros);(all_goals first|exact zk _|((rfl)))) ?_
      refine⟨b,trivial,aj (ar zj) (ao ⟨rfl,rfl,rfl,?_,trivial⟩)⟩
      show B _=B _
      rw[u,cr]
    intro b _
    refine ag rfl (λl=>?_) (λl=>af ?_)
    ·refine aC rfl<|ab (JF (t:=t) (g1:=g1) (g2:=g2) (m:=b) rfl rfl ?_)
     show B false=B _
     refine congrArg B ?_
     symm
     rw[a,b0]
     refine⟨k,a8.2 zz,?_⟩
     simpa using l
    ·refine dS rfl ⟨zz,trivial⟩ ?_
     refine⟨(k+1,b),⟨by simp only;omega,λw g=>?_⟩,by simp only;omega,eL⟩
     simp only at g
     by_cases e:w=k
     ·rw[e];rw[Bool.not_eq_false']at l;exact l
     ·exact r w zz
   ·simp only[decide_eq_false_iff_not]at hc
    refine ay ⟨m,?_,ao trivial⟩
    rw[a,b6]
    intro w g
    exact r w (by have:=a8.1 g;omega)
  ·intro b A
   refine aC rfl<|ab (JF (t:=t) (g1:=g1) (g2:=g2) (m:=b) rfl rfl ?_)
   show B true=B _
   rw[A]
def E4 (t:aX)(p:List Nat)(k a:Nat):Nat:=(bx k).foldl (λs i=>if (t.m i).par≠ -1/\aM p i=a then aM p (t.m i).par.toNat+1 else s) 0
theorem xb (t:aX)(p:List Nat)(k a:Nat):E4 t p (k+1) a=if (t.m k).par≠ -1/\aM p k=a then aM p (t.m k).par.toNat+1 else E4 t p k a:=by unfold E4;rw[a7,List.foldl_append];rfl
def Aa (t:aX)(p:List Nat)(i:Nat):Prop:=(t.m i).par≠ -1->aM p (t.m i).par.toNat≠aM p i/\ ∀k,k<i->(t.m k).par≠ -1->aM p k=aM p i->aM p (t.m i).par.toNat=aM p (t.m k).par.toNat
theorem G7 (t:aX)(p:List Nat)(a:Nat): ∀k,(∀i,i<k->Aa t p i)->(∀i,i<k->(t.m i).par≠ -1->aM p i=a->E4 t p k a=aM p (t.m i).par.toNat+1)/\(E4 t p k a≠0-> ∃i,i<k/\(t.m i).par≠ -1/\aM p i=a)
 |0,_=>⟨λi hi=>zz,λh=>absurd rfl h⟩
 |k+1,hk=>by
  obtain⟨d,f⟩:=G7 t p a k (λi hi=>hk i zz)
  rw[xb]
  by_cases hc:(t.m k).par≠ -1/\aM p k=a
  ·rw[if_pos hc]
   refine⟨λi hi b c=>?_,λ_=>⟨k,zz,hc⟩⟩
   by_cases e:i=k
   ·rw[e]
   ·have:=(hk k zz hc.1).2 i zz b (by rw[c,hc.2])
    omega
  ·rw[if_neg hc]
   refine⟨λi hi b c=>?_,λh=>?_⟩
   ·have e:i≠k:=λe=>hc ⟨by rw[<-e];exact b,by rw[<-e];exact c⟩
    exact d i zz b c
   ·obtain⟨i,hi,b,c⟩:=f h
    exact⟨i,zz,b,c⟩
theorem YZ (t:aX){p:List Nat}(c: ∀i,aM p i<6)(k a:Nat):E4 t p k a<7:=by
 induction k with
 |zero=>show (0:Nat)<7;omega
 |succ k b=>
  rw[xb];split
  ·grind
  ·exact b
theorem QN {t:aX}{p:List Nat}{k:Nat}(hk: ∀i,i<k->Aa t p i)(l:(t.m k).par≠ -1):
  Aa t p k↔ ¬(aM p k=aM p (t.m k).par.toNat\/(E4 t p k (aM p k)≠0/\E4 t p k (aM p k)≠aM p (t.m k).par.toNat+1)):=by
 obtain⟨f,n⟩:=G7 t p (aM p k) k hk
 constructor
 ·intro h
  obtain⟨g1,g2⟩:=h l
  rintro (e|⟨c,d⟩)
  ·grind
  ·grind
 ·intro h _
  refine⟨λe=>h (.inl e.symm),λj g b a=>?_⟩
  have c:=f j g b a
  have d: ¬(E4 t p k (aM p k)≠0/\E4 t p k (aM p k)≠aM p (t.m k).par.toNat+1):=λe=>h (.inr e)
  omega
theorem Mp {t:aX}{p:List Nat}:ES t p=true↔ ∀i,i<t.ms.length->Aa t p i:=AI
theorem Hb {t:aX}(h:t.OK)(but:Int)(g1 g2:Nat){p:List Nat}(d: ∀i,aM p i<6):Ev ad 281 [tp t but g1 g2,.agg (bY p)] (B (ES t p)):=by
 have o:((t.ms.map eY.enc).length:Int)=t.ms.length:=zj
 have D:=h.Ax;refine ak aeu.ok<|bc [.bW] rfl ⟨⟨rfl,rfl⟩,trivial⟩<|bc [.aI] rfl ⟨rfl,trivial⟩<|bM (t:=5) rfl λb5=>aa (aa ?_);refine cC rfl<|bE (ES t p=true) (el []) [] [] ?_ ?_
 ·refine br (λk:Nat=>k<=t.ms.length/\ ∀i,i<k->Aa t p i) (λk=>el [(0,tp t but g1 g2),(3,.pi (bY p)),(5,.po b5 0),(14,nk t.ms),(15,I t.ms.length),(16,I k)]) (λk=>[(b5,.cells 240 (mR (E4 t p k)))]) (λ_=>[]) (λk=>t.ms.length-k) 0 ⟨zz,zx⟩
   (aj (ar rfl) (ao ⟨rfl,rfl,rfl,rfl,by show I _=I _;rw[o],rfl,trivial⟩)) ?_
  rintro k ⟨hk,r⟩;refine aC rfl<|aa (ag rfl (λhc=>?_) (λhc=>?_))
  ·simp only[nL]at hc;obtain⟨x,hx⟩:=aL hc;have y:=h.TJ k x hx;have M:=y.Ce;have N:=y.Ca;have a:=aX.oV hx;refine af (aa (au ?_));refine bc [.cells x.enc,.aI] rfl ⟨⟨zz,by simp [hx]⟩,rfl,⟨rfl,rfl,rfl,zq⟩,trivial⟩<|ae (aq (t:=7) rfl)<|gm [(0,tp t but g1 g2),(3,.pi (bY p)),(5,.po b5 0),(6,I (k:Nat)),(7,.pi x.enc),(14,nk t.ms),(15,I t.ms.length),(16,I k)] ?_
   have next:Aa t p k-> ∀i,i<k+1->Aa t p i:=by
    intro he j K;by_cases e:j=k
    ·rw[e];exact he
    ·exact r j zz
   refine aa (aa ?_);refine cC rfl<|ag rfl (λb=>?_) (λb=>af ?_)
   ·have b:(x.par== -1)=true:=b;rw[beq_iff_eq]at b;refine ay<|dS rfl ⟨zz,trivial⟩ ?_;refine⟨k+1,⟨hc,next (λq=>absurd (by rw[a];exact b) q)⟩,zz,aj (ar ?_) eL⟩;have e:E4 t p (k+1)=E4 t p k:=by funext w;rw[xb,if_neg (λhh=>hh.1 (by rw[a];exact b))]
    rw[e]
   ·have b:(x.par== -1)=false:=b;rw[beq_eq_false_iff_ne]at b;have s:(t.m k).par≠ -1:=by rw[a];exact b
    have f:=QN r s;have z:=d k;have L:=d x.par.toNat;have G:=YZ t d k (aM p k);have A:=mQ (aM p) (k:=k) zz;have C:=mQ (aM p) (k:=x.par.toNat) zz;have v:=BF (E4 t p k) z;rw[a]at f
    have g:E4 t p (k+1)=λj=>if j=aM p k then aM p x.par.toNat+1 else E4 t p k j:=by
     funext w;rw[xb,a];by_cases l:w=aM p k
     ·rw[if_pos ⟨b,l.symm⟩,if_pos l]
     ·rw[if_neg (λhh=>l hh.2.symm),if_neg l]
    generalize aM p x.par.toNat=c at*
    generalize F:aM p k=v1 at*
    generalize E:E4 t p k v1=ov at*
    refine vj [] [.pre [I (v1:Nat)],.pre [I (c:Nat)]] rfl (by(and_intros);(all_goals first|exact zk _|((first|exact A|exact C))))<|gm [(0,tp t but g1 g2),(3,.pi (bY p)),(5,.po b5 0),(8,I (v1:Nat)),(9,I (c:Nat)),(14,nk t.ms),(15,I t.ms.length),(16,I k)]<|aa (dZ True (el [(0,tp t but g1 g2),(3,.pi (bY p)),(5,.po b5 0),(8,I (v1:Nat)),(9,I (c:Nat)),(14,nk t.ms),(15,I t.ms.length),(16,I k),(47,B (decide (v1=c\/(ov≠0/\ov≠c+1))))]) [(b5,.cells 240 (mR (E4 t p k)))] [] ?_ ?_)
    ·by_cases c1:v1=c
     ·have H:(((v1:Nat):Int)==((c:Nat):Int))=true:=by rw[beq_iff_eq];omega
      refine js [(34,true)] [] rfl (by(and_intros);(all_goals first|exact zk _|((rfl)))) ?_;refine⟨(),trivial,ao ⟨rfl,rfl,rfl,rfl,rfl,rfl,rfl,rfl,?_,trivial⟩⟩;show B true=B _;simp [c1]
     ·have H:(((v1:Nat):Int)==((c:Nat):Int))=false:=by rw[beq_eq_false_iff_ne];omega
      by_cases u:ov=0
      ·have J:(((ov:Nat):Int)!=0)=false:=by rw[u];rfl
       refine js [(34,false),(39,false)] [.O1 0 (I (ov:Nat))] rfl (by(and_intros);(all_goals first|exact zk _|((exact v)))) ?_;refine⟨(),trivial,ao ⟨rfl,rfl,rfl,rfl,rfl,rfl,rfl,rfl,?_,trivial⟩⟩;show B false=B _;simp [c1,u]
      ·have J:(((ov:Nat):Int)!=0)=true:=by rw[bne_iff_ne];omega
       refine js [(34,false),(39,true)] [.O1 0 (I (ov:Nat)),.O1 0 (I (ov:Nat))] rfl (by(and_intros);(all_goals first|exact zk _|((exact v)))) ?_;refine⟨(),trivial,ao ⟨rfl,rfl,rfl,rfl,rfl,rfl,rfl,rfl,?_,trivial⟩⟩;show B (((ov:Nat):Int)!=((c:Nat):Int)+1)=B _;refine congrArg B ?_;rw[an,bne_iff_ne,decide_eq_true_iff];omega
    intro _ _;refine ag rfl (λhd=>?_) (λhd=>af ?_)
    ·rw[decide_eq_true_iff]at hd;refine aC rfl<|ab (aB ?_);show B false=B _;refine congrArg B ?_;symm;rw[Bool.eq_false_iff];intro n;exact f.1 (Mp.1 n k hc) hd
    ·rw[decide_eq_false_iff_not]at hd;refine W5 [.gI 0] rfl ⟨⟨zz,zz⟩,⟨zz,zz⟩,⟨rfl,rfl,rfl,rfl,?_⟩,trivial⟩ ?_
     ·show 0+((v1:Nat):Int).toNat*1+1<=6;omega
     refine dS rfl ⟨zz,trivial⟩ ?_;refine⟨k+1,⟨hc,next (f.2 hd)⟩,zz,aj (ar ?_) eL⟩;show [(b5,cP.cells 240 (bK (mR (E4 t p k)) (0+v1*1) [I ((c+1:Nat):Int)]))]=_;rw[wq _ _ z,g]
  ·simp only[nL]at hc;have e:k=t.ms.length:=zz
   subst e;exact ay ⟨(),Mp.2 r,aj (bB.Hv 0) (ao trivial)⟩
 ·intro _ n;refine aC rfl<|ab (aB ?_);show B _=B _;rw[n]
abbrev oK (s:Sp):List AV:=[I s.1,I s.2]
abbrev TF (f:Nat->Sp):List AV:=[I (f 0).1,I (f 0).2,I (f 1).1,I (f 1).2,I (f 2).1,I (f 2).2,I (f 3).1,I (f 3).2,I (f 4).1,I (f 4).2,I (f 5).1,I (f 5).2]
theorem EM (f:Nat->Sp){k:Nat}(h:k<6):eX (some 2) ((TF f).drop (0+k*2))=some (.agg (oK (f k))):=by
 match k,h with
 |0,_=>rfl
 |1,_=>rfl
 |2,_=>rfl
 |3,_=>rfl
 |4,_=>rfl
 |5,_=>rfl
theorem N6 (f:Nat->Sp){k:Nat}(h:k<6):jO (some 2) (k*2) (TF f)=some (.agg (oK (f k))):=by
 match k,h with
 |0,_=>rfl
 |1,_=>rfl
 |2,_=>rfl
 |3,_=>rfl
 |4,_=>rfl
 |5,_=>rfl
theorem Ez (f:Nat->Sp)(s:Sp){k:Nat}(h:k<6):bK (TF f) (0+k*2) (oK s)=TF (λj=>if j=k then s else f j):=by
 match k,h with
 |0,_=>rfl
 |1,_=>rfl
 |2,_=>rfl
 |3,_=>rfl
 |4,_=>rfl
 |5,_=>rfl
theorem A1 {b:List Sp}(a:b.length=6)(s:Sp){k:Nat}(h:k<6):bK (eN b) (0+k*2) (oK s)=eN (b.set k s):=by
 have e:(λj=>if j=k then s else cu b j)=cu (b.set k s):=by
  funext j;rw[rW _ _ _ _ zz];by_cases e:j=k
  ·grind
  ·grind
 have:=Ez (cu b) s h;rw[e]at this;exact this
abbrev PO (s:Sp):Value:=.agg #[.int .i64 s.1,.int .i64 s.2]
def Ch (n:Int)(s:Sp):Prop:= -n<=s.1/\s.1<=n/\ -n<=s.2/\s.2<=n
theorem qN {n:Int}(c: -9223372036854775808<=n)(d:n<=9223372036854775807):(cR .i64 n).wf=true:=by have a:cB.min= -9223372036854775808:=rfl;have b:cB.max=9223372036854775807:=rfl;simp [Lit.wf];omega
theorem Is {s:Sp}(h:Ch 1000000 s):bJ ad 5 96 (PO s):=by
 obtain⟨a0,a1,c,d⟩:=h;have a:ad.cellsOf 96=2:=zw
 have b:ad.cellsOf 3=1:=zw
 refine⟨?_,[.int .i64 s.1,.int .i64 s.2],?_⟩
 ·simp [b4,b3,a]
 ·simp [b7,bk,b3,bi,a,b,qN (n:=s.1) zz zz,qN (n:=s.2) zz zz]
theorem aaE {x y:Sp}:PO x=PO y↔x=y:=zx
theorem uh {d:Nat}{a b:Operand}{env:Env}{H:Heap}{x y:Sp}(ha:bu env a= .agg (oK x))(c:bu env b= .agg (oK y))(e:Ch 1000000 x)(f:Ch 1000000 y):
  ∀(r:Option Nat) (N:Nat) (D:List Nat),Q1 ad r N (.nI true 96 a b) (some d) env H D [(d,B (!decide (x=y)))]:=by
 intro r N D
 exact aF.nI (neg:=true) (m:=5) (DD:=5) zq zw zw zw zw (u:=PO x) (v:=PO y) (by rw[ha];rfl) (by rw[c];rfl) (Is e) (Is f) (decide (x=y)) zx ⟨rfl,rfl,rfl⟩
structure BB (n:Int)(b:List Sp):Prop where
 len:b.length=6
 bd: ∀k,Ch n (cu b k)
theorem BB.step {n:Int}{b:List Sp}(h:BB n b)(a:0<=n){x y:Nat}(hx:x<6)(hy:y<6):BB (n+60) (fZ b x y):=by
 have hl:=h.len;refine⟨by rw[vz];exact hl,λk=>?_⟩;unfold fZ;rw[rW _ _ _ _ zx,rW _ _ _ _ zz];have e:=h.bd x;have c:=h.bd y;have d:=h.bd k;unfold Ch nT mm at*
 split
 ·grind
 ·grind
theorem Ou {b:List Sp}(k:BB 900000 b)(g:Nat){x y:Nat}(hx:x<6)(hy:y<6):
  il ad 330 [.po g 0,I (x:Nat),I (y:Nat)] [(g,.cells 370 (eN b))] (λr Ho=>r=B (kU b x y)/\Ho=[(g,.cells 370 (eN (fZ b x y)))]):=by
 have hl:=k.len
 have o:=k.bd x
 have j:=k.bd y
 have l1:=EM (cu b) hx
 have l2:=EM (cu b) hy
 have sV:fZ b x y=(b.set x (nT (cu b x) (cu b y))).set y (mm (cu b x) (cu b y)):=rfl
 have c:kU b x y=(decide (nT (cu b x) (cu b y)≠cu b x)||decide (mm (cu b x) (cu b y)≠cu b y)):=rfl
 rw[sV,c]
 have n:Ch 1000000 (nT (cu b x) (cu b y)):=by unfold Ch nT at*;simp only;omega
 have i:Ch 1000000 (mm (cu b x) (cu b y)):=by unfold Ch mm at*;simp only;omega
 have f:Ch 1000000 (cu b x):=by unfold Ch at*;omega
 have h:Ch 1000000 (cu b y):=by unfold Ch at*;omega
 have p:nT (cu b x) (cu b y)=(max (cu b x).1 ((cu b y).1-60),min (cu b x).2 ((cu b y).2-15)):=rfl
 have q:mm (cu b x) (cu b y)=(max (cu b y).1 ((cu b x).1+15),min (cu b y).2 ((cu b x).2+60)):=rfl
 generalize nT (cu b x) (cu b y)=a at*
 generalize mm (cu b x) (cu b y)=d at*
 generalize s:cu b x=sx at*
 generalize u:cu b y=e at*
 unfold Ch at o j
 refine bq afj.ok<|aC rfl<|vj [] [.O1 0 (.agg (oK sx)),.O1 0 (.agg (oK e)),.aI,.aI] rfl (by(and_intros);(all_goals first|exact zk _|((first|exact l1|exact l2|rfl|decide))))<|ae (aj (aq (t:=7) rfl) (aq (t:=8) rfl))<|gm [(0,.po g 0),(1,I (x:Nat)),(2,I (y:Nat)),(7,.pi (oK sx)),(8,.pi (oK e))]<|bc [.aI] rfl (by(and_intros);(all_goals first|exact zk _|((first|rfl|decide))))<|ae (aq (t:=9) rfl)<|ae (ao (l:=[(0,.po g 0),(1,I (x:Nat)),(2,I (y:Nat)),(7,.pi (oK sx)),(8,.pi (oK e)),(9,.pi (oK a))]) ⟨rfl,rfl,rfl,rfl,rfl,by rw[p];rfl,trivial⟩)<|bc [.aI] rfl (by(and_intros);(all_goals first|exact zk _|((first|rfl|decide))))<|ae (aq (t:=10) rfl)<|ae (ao (l:=[(0,.po g 0),(1,I (x:Nat)),(2,I (y:Nat)),(7,.pi (oK sx)),(8,.pi (oK e)),(9,.pi (oK a)),(10,.pi (oK d))]) ⟨rfl,rfl,rfl,rfl,rfl,rfl,by rw[q];rfl,trivial⟩)<|aa (xh [] [] rfl ⟨⟨zz,zz⟩,trivial⟩ ?_)
 refine aT.hd (gs:=[]) (hs:=[.gI 0]) rfl ⟨⟨rfl,rfl,rfl,rfl,?_⟩,trivial⟩ ?_
 ·show 0+((x:Nat):Int).toNat*2+2<=12
  omega
 refine ae (aj (ar (H':=[(g,.cells 370 (eN (b.set x a)))]) ?_) (ao (l:=[(0,.po g 0),(1,I (x:Nat)),(2,I (y:Nat)),(7,.pi (oK sx)),(8,.pi (oK e)),(9,.pi (oK a)),(10,.pi (oK d))]) ⟨rfl,rfl,rfl,rfl,rfl,rfl,rfl,trivial⟩)) ?_
 ·show [(g,cP.cells _ (bK (eN b) (0+x*2) (oK a)))]=_
  rw[A1 hl a hx]
 refine aa (xh [] [] rfl ⟨⟨zz,zz⟩,trivial⟩ ?_)
 refine aT.hd (gs:=[]) (hs:=[.gI 0]) rfl ⟨⟨rfl,rfl,rfl,rfl,?_⟩,trivial⟩ ?_
 ·show 0+((y:Nat):Int).toNat*2+2<=12
  omega
 refine ae (aj (ar (H':=[(g,.cells 370 (eN ((b.set x a).set y d)))]) ?_) (ao (l:=[(7,.pi (oK sx)),(8,.pi (oK e)),(9,.pi (oK a)),(10,.pi (oK d))]) ⟨rfl,rfl,rfl,rfl,trivial⟩)) ?_
 ·show [(g,cP.cells _ (bK (eN (b.set x a)) (0+y*2) (oK d)))]=_
  rw[A1 zx d hy]
 by_cases m:a=sx
 ·have v:(!decide (a=sx))=false:=zx
  refine uk [(60,false)] [.op (B (!decide (a=sx))),.op (B (!decide (d=e)))] rfl (by(and_intros);(all_goals first|exact zk _|((first|exact uh rfl rfl n f|exact uh rfl rfl i h))))<|ab ⟨.inr rfl,_,_,_,rfl,.one (.tmp rfl rfl),⟨?_,rfl⟩,ap _⟩
  show B _=B _
  refine congrArg B ?_
  rw[an];simp [m]
 ·have v:(!decide (a=sx))=true:=zx
  refine uk [(60,true)] [.op (B (!decide (a=sx)))] rfl (by(and_intros);(all_goals first|exact zk _|((first|exact uh rfl rfl n f|exact uh rfl rfl i h))))<|ab ⟨.inr rfl,_,_,_,rfl,.one (.tmp rfl rfl),⟨?_,rfl⟩,ap _⟩
  show B _=B _
  refine congrArg B ?_
  rw[an];simp [m]
def Ij (ms:List eY)(p:List Nat)(i:Nat):Option (Nat×Nat):=match ms[i]? with
 |some x=>if x.par= -1 then none else some ((p[x.par.toNat]?).getD 0,(p[i]?).getD 0)
 |none=>none
def lD (ms:List eY)(p:List Nat)(k:Nat):List (Nat×Nat):=(bx k).filterMap (Ij ms p)
theorem Se {ms:List eY}{p:List Nat}{k:Nat}{x:eY}(hx:ms[k]? =some x)(h:x.par= -1):lD ms p (k+1)=lD ms p k:=by
 have e:Ij ms p k=none:=by unfold Ij;rw[hx];simp only[h,if_true]
 unfold lD;rw[a7,bn];simp [e]
theorem ON {ms:List eY}{p:List Nat}{k:Nat}{x:eY}(hx:ms[k]? =some x)(h:x.par≠ -1):lD ms p (k+1)=lD ms p k++[(aM p x.par.toNat,aM p k)]:=by
 have e:Ij ms p k=some (aM p x.par.toNat,aM p k):=by unfold Ij;rw[hx];simp only[if_neg h];rfl
 unfold lD;rw[a7,bn];simp [e]
theorem rJ: ∀(l1 l2:List (Nat×Nat)) (s:List Sp×Bool),aW (l1++l2) s=aW l2 (aW l1 s)
 |[],_,_=>rfl
 |(a,c)::l1,l2,s=>by
  simp
  exact rJ l1 l2 _
theorem sR {n:Nat}{p:List Nat}(a:n<=6)(hg:BC n p):DA n p/\ ∀i,aM p i<6:=by
 have key: ∀i,aM p i<6:=by
  intro i;by_cases hi:i<n
  ·have:=hg.lt i hi;have:=hg.le;omega
  ·unfold aM;rw[az (by rw[hg.len];omega)];show 0<6;omega
 exact⟨⟨hg.len,a,λi=>zx⟩,key⟩
theorem FN {n m:Int}(h:n<=m){s:Sp}(b:Ch n s):Ch m s:=by unfold Ch at*;omega
theorem QZ {t:aX}(h:t.OK)(p:List Nat):BB 199 (nh t p 6):=by
 refine⟨kH t p 6,λk=>?_⟩;by_cases hk:k<6
 ·rw[CI t p hk];have:=DL h p k t.ms.length (cD _);unfold Ch;omega
 ·have e:cu (nh t p 6) k=(0,0):=by unfold cu;rw[az (by rw[kH];omega)];rfl
  rw[e];unfold Ch;simp
theorem Sh {ks:List (Nat×Nat)}{b:List Sp}(h:BB 199 b)(hk: ∀k∈ks,k.1<b.length/\k.2<b.length)(he:bX (aW ks (b,false)).1=false):BB 199 (aW ks (b,false)).1:=by
 obtain⟨s1,_⟩:=gX ks b false hk;refine⟨by rw[iR];exact h.len,λk=>?_⟩;by_cases a:k<6
 ·have d:=qZ he (k:=k) (by rw[iR,h.len];exact a);have c:=s1.2 k;have f:=h.bd k;unfold BI at c;unfold Ch at*
  omega
 ·have e:cu (aW ks (b,false)).1 k=(0,0):=by unfold cu;rw[az (by rw[iR,h.len];omega)];rfl
  rw[e];unfold Ch;simp
def abH (t:aX)(p:List Nat)(r:AV):Prop:= ∃b,r= .bZ [.agg (eN b),B (!bX (eh t p 6))]/\(bX (eh t p 6)=false->b=eh t p 6)
theorem ZM:(ad.info? 370).bind (·.zero)=some (.agg #[.int .i64 0,.int .i64 0,.int .i64 0,.int .i64 0,.int .i64 0,.int .i64 0,.int .i64 0,.int .i64 0,.int .i64 0,.int .i64 0,.int .i64 0,.int .i64 0]):=zw
theorem yD {b:List Sp}(hl:b.length=6):bX b=false↔ ∀k,k<6->(cu b k).1<=(cu b k).2:=by
 constructor
 ·intro h k hk;exact qZ h zz
 ·intro h;unfold bX;rw[List.any_eq_false];intro x hx;obtain⟨k,hk⟩:=bs hx;have a:=(be.1 hk).1;have:=h k zz;unfold cu at this;rw[hk]at this;simp only[Option.getD_some]at this;simp;omega
structure UG (t:aX)(p:List Nat)(b:List Sp)(more:Bool):Prop where
 bb:BB 199 b
 go:more=true->eh t p 6=kY (kids t.ms p) b
 end_:more=false->eh t p 6=b/\bX b=false
theorem UG.next {t:aX}(h:t.OK){p:List Nat}(hg:BC t.ms.length p)(hk:EJ t p){b:List Sp}(hi:UG t p b true):
  (bX (aW (kids t.ms p) (b,false)).1=true->bX (eh t p 6)=true)/\
  (bX (aW (kids t.ms p) (b,false)).1=false->UG t p (aW (kids t.ms p) (b,false)).1 (aW (kids t.ms p) (b,false)).2/\((aW (kids t.ms p) (b,false)).2=true->width (aW (kids t.ms p) (b,false)).1<width b)):=by
 have c: ∀k∈kids t.ms p,k.1<b.length/\k.2<b.length/\k.1≠k.2:=by
  have:=zZ h hg hk (w:=6) (by have:=hg.le;have:=h.Ax;omega)
  rw[kH]at this
  rw[hi.bb.len]
  exact this
 have d: ∀k∈kids t.ms p,k.1<b.length/\k.2<b.length:=λk hk=>⟨(c k hk).1,(c k hk).2.1⟩
 have e:=hi.go rfl
 obtain⟨s1,_⟩:=gX (kids t.ms p) b false d
 constructor
 ·intro he
  by_cases f:bX b=true
  ·rw[e,qw f];exact f
  ·have a:bX b=false:=by simpa using f
   cases hm:(aW (kids t.ms p) (b,false)).2 with
   |true=>rw[e,yz c a hm,qw he];exact he
   |false=>rw[e,yY a hm];exact he
 ·intro he
  have a:bX b=false:=by
   cases f:bX b with
   |false=>rfl
   |true=>rw[Ao s1 f]at he;cases he
  refine⟨⟨Sh hi.bb d he,λhm=>?_,λhm=>?_⟩,λhm=>F2 c hm he⟩
  ·rw[e,yz c a hm]
  ·rw[e,yY a hm]
   exact⟨rfl,he⟩
end Go.Px
