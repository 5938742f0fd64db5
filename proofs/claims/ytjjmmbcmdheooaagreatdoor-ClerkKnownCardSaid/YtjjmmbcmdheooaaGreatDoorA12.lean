/- Part 12 of the proof of a statement of this seat (a logic of pure contracts; the functions; their contracts). No conditions. -/
import Derived.Test.YtjjmmbcmdheooaaGreatDoorA11
open Array.mk renaming injEq->ek
open Bool renaming false_eq_true->ap,or_eq_false_iff->a6,or_false->bk,not_eq_true'->bI,not_eq_true->b1,not_eq_false'->b7
open Go.Lit renaming int->bi
open Go.Program renaming keyLits->c8
open Go.Proofs.Tryz renaming prog->ad,underlying244->bA,underlying474->cb,underlying3->cD
open Go.Value renaming formed->dl,cells->ds
open Go.Value.agg renaming injEq->ec
open Go.Value.int renaming injEq->ej
open Int renaming natCast_inj->b3,pow_pos->dn
open List renaming getElem?_eq_some_iff->an,mem_of_getElem?->az,mem_append->a7,length_map->a8,getElem?_map->be,any_cons->bn,range_succ->bs,any_nil->bt,range->bx,perm_append_comm->b4,filter_append->b8,mem_singleton->b9,ext_getElem?->cc,foldl_append->cr,mem_map->cA,mem_flatMap->cB,all_cons->de,map_take->dk
open List.Perm renaming swap->en
open List.Sublist renaming refl->b0
open List.cons renaming injEq->ea,inj->er
open Nat renaming pow_le_pow_right->b6,le_refl->cR
open Option renaming map_some->c7
namespace Go.Px
open Go.Proofs
structure bz.wf (x:bz):Prop where
 c0:0<=x.c
 c1:x.c<256
 s0: -9223372036854775808<=x.s
 s1:x.s<=9223372036854775807
theorem E8 {k:Nat}(h:k<=61):(2:Int)^k<=2305843009213693952:=by
 have b:2^k<=2^61:=b6 zz h;have a:((2^k:Nat):Int)=(2:Int)^k:=zj
 rw[<-a];omega
theorem Nd (l:List bz)(i:Nat)(x:bz)(hx:l[i]? =some x)(a:x.wf):Ev ad 264 [oZ l,I i] (B (ah 97 122 [x.c])):=by refine ak aeY.ok<|aC rfl<|bc [.cells x.enc,.bW,.ret (B (ah 97 122 [x.c]))] rfl ⟨⟨zz,by simp [hx]⟩,gi (by have:=a.c0;omega) (by have:=a.c1;omega),rfl,jd 97 122 [x.c],trivial⟩<|ab (aB ?_);rfl
theorem Pl (l:List bz)(i:Nat)(x:bz)(hx:l[i]? =some x):Ev ad 265 [oZ l,I i] (B (decide (cW (l.take i) x.c>=0))):=by have a:=(an.1 hx).1;refine ak adW.ok<|aC rfl<|vj [] [.cells x.enc,.wC [oZ (l.take i),U x.c] (I (cW (l.take i) x.c))] rfl ⟨⟨⟨trivial,zz⟩,zj,by simp;omega⟩,⟨zz,by simp [hx]⟩,⟨wG _ _,fL (by show [AV.sl 3 ((l.map bz.enc).take i),U x.c]=_;rw[oZ,dk])⟩,trivial⟩<|ab (aB ?_);rfl
theorem Ox (l:List bz)(i:Nat)(x:bz)(n:Int)(hx:l[i]? =some x)(a:0<=n)(c:n<62):Ev ad 266 [oZ l,I i,.pi [I n]] (B (ah 0 (2^n.toNat-1) [x.s])):=by
 have d:(2:Int)^n.toNat<9223372036854775808:=by have:=E8 (k:=n.toNat) zz;omega
 have b:(0:Int)<2^n.toNat:=dn zz;have e:(1:Int)*2^n.toNat-1=2^n.toNat-1:=zz
 refine ak ag9.ok<|aC rfl<|vj [] [.cells x.enc,.bW,.ret (B (ah 0 (1*2^n.toNat-1) [x.s]))] rfl ⟨⟨zz,a,zz,zz⟩,⟨zz,zz⟩,⟨zz,by simp [hx]⟩,rfl,jd 0 (1*2^n.toNat-1) [x.s],trivial⟩<|ab (aB ?_);rw[<-e];rfl
theorem NG (l:List bz)(i:Nat)(x:bz)(hx:l[i]? =some x):Ev ad 267 [oZ l,I i] (B (x.s==0&& !x.q)):=by
 refine ak ae9.ok<|aC rfl ?_;by_cases h:x.s=0
 ·refine uk [(11,true)] [.cells x.enc,.cells x.enc] rfl (by simp [hx,h])<|ab (aB ?_);show B _=B _;simp [h]
 ·refine uk [(11,false)] [.cells x.enc] rfl (by simp [hx,h])<|ab (aB ?_);show B _=B _;simp [h]
def K0 (n:Int):List (List AV):=[[I 6,.fn (.func 264) [] []],[I 5,.fn (.func 265) [] []],[I 7,.fn (.func 266) [] [.pi [I n]]],[I 2,.fn (.func 267) [] []]]
theorem RC (n:Int):Ev ad 190 [I n] (.sl 2 (K0 n)):=by refine ak ae6.ok<|bc [.bW] rfl ⟨⟨rfl,rfl⟩,trivial⟩<|bc [.bW] rfl ⟨rfl,trivial⟩<|ab (aB ?_);rfl
def eC (n:Int)(ls:List bz)(i:Nat):Int:=match ls[i]? with
 |none=>0
 |some x=>if ah 97 122 [x.c]=true then 6 else if decide (cW (ls.take i) x.c>=0)=true then 5 else if ah 0 (2^n.toNat-1) [x.s]=true then 7 else if (x.s==0&& !x.q)=true then 2 else 0
def Bc (n:Int)(ls:List bz)(i:Nat)(x:bz):Nat->Prop
 |0=>True
 |1=>ah 97 122 [x.c]=false
 |2=>ah 97 122 [x.c]=false/\decide (cW (ls.take i) x.c>=0)=false
 |3=>ah 97 122 [x.c]=false/\decide (cW (ls.take i) x.c>=0)=false/\ah 0 (2^n.toNat-1) [x.s]=false
 |_=>ah 97 122 [x.c]=false/\decide (cW (ls.take i) x.c>=0)=false/\ah 0 (2^n.toNat-1) [x.s]=false/\(x.s==0&& !x.q)=false
theorem Jb (b:dv)(a:jX)(i:Nat)(x:bz)(hx:a.ls[i]? =some x)(m:x.wf)(g:0<=b.n)(f:b.n<62):Ev ad 189 [I i,.agg x.enc,.pi b.enc,.pi a.enc] (I (eC b.n a.ls i)):=by
 refine ak aeA.ok<|bc [.bW] rfl ⟨⟨rfl,rfl⟩,trivial⟩<|aa<|bc [.ret (.sl 2 (K0 b.n))] rfl ⟨RC b.n,trivial⟩<|bE (Bc b.n a.ls i x 4) (el []) [] [] ?_ ?_
 ·refine dE (λk:Nat=>k<=4/\Bc b.n a.ls i x k) (λk=>el [(0,I i),(3,.pi a.enc),(11,.sl 2 (K0 b.n)),(12,I 4),(13,I k)]) (λk=>4-k) 0 ⟨zz,trivial⟩
   eL ?_
  rintro k ⟨hk,e⟩;refine aC rfl<|aa (ag rfl (λhc=>?_) (λhc=>?_))
  ·simp only[decide_eq_true_eq]at hc;have l:k<4:=zz
   refine af (aa (au ?_));obtain rfl|rfl|rfl|rfl:k=0\/k=1\/k=2\/k=3:=zz
   ·refine bc [.cells [I 6,.fn (.func 264) [] []],.aI] rfl ⟨⟨zz,rfl⟩,rfl,⟨rfl,rfl,rfl,zq⟩,trivial⟩<|ae (aq (t:=8) rfl)<|aa<|iO [.ret (B (ah 97 122 [x.c]))] rfl ⟨Nd a.ls i x hx m,trivial⟩<|ag rfl (λd=>?_) (λd=>?_)
    ·refine aC rfl<|ab (aB ?_);show I _=I _;simp only[eC,hx,Bc]at e ⊢;first|(simp [d];done)|simp [e,d]
    ·refine af<|dS rfl ⟨zz,trivial⟩ ?_;exact⟨0+1,⟨zz,by simp only[Bc]at e ⊢;first|(simp [d];done)|simp [e,d]⟩,zz,eL⟩
   ·refine bc [.cells [I 5,.fn (.func 265) [] []],.aI] rfl ⟨⟨zz,rfl⟩,rfl,⟨rfl,rfl,rfl,zq⟩,trivial⟩<|ae (aq (t:=8) rfl)<|aa<|iO [.ret (B (decide (cW (a.ls.take i) x.c>=0)))] rfl ⟨Pl a.ls i x hx,trivial⟩<|ag rfl (λd=>?_) (λd=>?_)
    ·refine aC rfl<|ab (aB ?_);show I _=I _;simp only[eC,hx,Bc]at e ⊢;first|(simp [d];done)|simp [e,d]
    ·refine af<|dS rfl ⟨zz,trivial⟩ ?_;exact⟨1+1,⟨zz,by simp only[Bc]at e ⊢;first|(simp [d];done)|simp [e,d]⟩,zz,eL⟩
   ·refine bc [.cells [I 7,.fn (.func 266) [] [.pi [I b.n]]],.aI] rfl ⟨⟨zz,rfl⟩,rfl,⟨rfl,rfl,rfl,zq⟩,trivial⟩<|ae (aq (t:=8) rfl)<|aa<|iO [.ret (B (ah 0 (2^b.n.toNat-1) [x.s]))] rfl ⟨Ox a.ls i x b.n hx g f,trivial⟩<|ag rfl (λd=>?_) (λd=>?_)
    ·refine aC rfl<|ab (aB ?_);show I _=I _;simp only[eC,hx,Bc]at e ⊢;first|(simp [d];done)|simp [e,d]
    ·refine af<|dS rfl ⟨zz,trivial⟩ ?_;exact⟨2+1,⟨zz,by simp only[Bc]at e ⊢;first|(simp [d];done)|simp [e,d]⟩,zz,eL⟩
   ·refine bc [.cells [I 2,.fn (.func 267) [] []],.aI] rfl ⟨⟨zz,rfl⟩,rfl,⟨rfl,rfl,rfl,zq⟩,trivial⟩<|ae (aq (t:=8) rfl)<|aa<|iO [.ret (B (x.s==0&& !x.q))] rfl ⟨NG a.ls i x hx,trivial⟩<|ag rfl (λd=>?_) (λd=>?_)
    ·refine aC rfl<|ab (aB ?_);show I _=I _;simp only[eC,hx,Bc]at e ⊢;first|(simp [d];done)|simp [e,d]
    ·refine af<|dS rfl ⟨zz,trivial⟩ ?_;exact⟨3+1,⟨zz,by simp only[Bc]at e ⊢;first|(simp [d];done)|simp [e,d]⟩,zz,eL⟩
  ·simp only[decide_eq_false_iff_not]at hc;have:k=4:=zz
   subst this;exact ay ⟨(),e,ao trivial⟩
 ·intro _ e;refine aC rfl<|ab (aB ?_);simp only[eC,hx,Bc]at e ⊢;obtain⟨f,h,j,h4⟩:=e;rw[f,h,j,h4];rfl
theorem Kq (x a:jX):Ev ad 187 [.agg x.enc,.pi a.enc] (B (x.name==a.name)):=by refine ak aea.ok<|bc [.bW] rfl ⟨⟨rfl,rfl⟩,trivial⟩<|aC rfl<|ab (aB ?_);show B _=B _;simp
structure jX.wf (a:jX):Prop where
 name:a.name.length<=9223372036854775807
 ls: ∀x∈a.ls,x.wf
structure cQ.wf (s:cQ):Prop where
 a0: -9223372036854775808<=s.a
 a1:s.a<=9223372036854775807
 t:s.t.length<=9223372036854775807
structure dv.wf (b:dv):Prop where
 n0: -9223372036854775808<=b.n
 n1:b.n<=9223372036854775807
 al: ∀a∈b.al,a.wf
 ss: ∀s∈b.ss,s.wf
def eH (b:dv)(i:Nat):Int:=match b.al[i]? with
 |none=>0
 |some a=>if fl a.name=true then(if (b.al.take i).any (λx=>x.name==a.name)=true then 5 else if ah 1 6 [(a.ls.length:Int)]=true then 3 else(aA (eC b.n a.ls) a.ls.length 0).2)else 6
theorem OL (b:dv)(i:Nat)(a:jX)(ha:b.al[i]? =some a)(c:a.wf)(d:0<=b.n)(e:b.n<62):Ev ad 185 [I i,.agg a.enc,.pi b.enc] (I (eH b i)):=by
 have f:=(an.1 ha).1;refine ak acM.ok<|bc [.bW] rfl ⟨⟨rfl,rfl⟩,trivial⟩<|cX (eH b i=(aA (eC b.n a.ls) a.ls.length 0).2) (el [(2,.pi b.enc),(4,.pi a.enc)]) [] [] ?_ ?_
 ·refine bc [.ret (B (fl a.name))] rfl ⟨tZ a.name c.name,trivial⟩<|ag rfl (λhc=>?_) (λhc=>?_)
  ·simp only[bI]at hc;refine aC rfl<|ab (aB ?_);show I _=I _;simp [eH,ha,hc]
  ·simp only[b7]at hc;refine bc [.wC [W8 (b.al.take i),.fn (.func 187) [] [.pi a.enc]] (B ((b.al.take i).any (λx=>x.name==a.name)))] rfl ⟨⟨⟨trivial,zz⟩,zj,by simp;omega⟩,⟨E1 _ _ _ _ (λx _=>Kq x a),fL (by show [AV.sl 2 ((b.al.map jX.enc).take i),.fn (.func 187) [] [.pi a.enc]]=_;rw[<-dk])⟩,trivial⟩<|ag rfl (λhd=>?_) (λhd=>?_)
   ·refine aC rfl<|ab (aB ?_);show I _=I _;simp only[eH,ha,hc,hd,if_true]
   ·refine bc [.bW,.ret (B (ah 1 6 [((a.ls.map bz.enc).length:Int)]))] rfl ⟨rfl,jd 1 6 [((a.ls.map bz.enc).length:Int)],trivial⟩<|ag rfl (λhe=>?_) (λhe=>?_)<;>rw[a8]at he
    ·refine aC rfl<|ab (aB ?_);show I _=I _;simp only[eH,ha,hc,hd,he,if_true,if_false,ap]
    ·refine af ⟨(),?_,eL⟩;simp only[eH,ha,hc,hd,he,if_true,if_false,ap]
 ·intro _ he;refine bc [.ret (.bZ [I (aA (eC b.n a.ls) a.ls.length 0).1,I (aA (eC b.n a.ls) a.ls.length 0).2])] rfl ⟨GY a.ls _ _ _ (λk x hx=>Jb b a k x hx (c.ls x (az hx)) d e),trivial⟩<|aC rfl<|ab (aB ?_);rw[he];rfl
def dR (b:dv)(i:Nat):Int:=match b.ss[i]? with
 |none=>0
 |some s=>if ah 0 ((b.al.length:Int)-1) [s.a]=true then 4 else if ah 1 5 [(s.t.length:Int)]=true then 3 else match b.al[s.a.toNat]? with
  |none=>0
  |some a=>if s.t.all (λc=>decide (0<=cW a.ls c.toNat))=true then 0 else 6
theorem Ns (b:dv)(i:Nat)(s:cQ)(hs:b.ss[i]? =some s)(l:s.wf)(j:b.al.length<100):Ev ad 192 [I i,.agg s.enc,.pi b.enc] (I (dR b i)):=by
 refine ak ags.ok ?_;have m:=l.t;refine bc [.bW] rfl ⟨⟨rfl,rfl⟩,trivial⟩<|cX (∃a,0<=s.a/\b.al[s.a.toNat]? =some a/\dR b i=if s.t.all (λc=>decide (0<=cW a.ls c.toNat))=true then 0 else 6) (el [(2,.pi b.enc),(4,.pi s.enc)]) [] [] ?_ ?_
 ·refine bc [.bW,.ret (B (ah 0 (((b.al.map jX.enc).length:Int)-1) [s.a]))] rfl ⟨by simp;omega,rfl,jd 0 (((b.al.map jX.enc).length:Int)-1) [s.a],trivial⟩<|ag rfl (λhc=>?_) (λhc=>?_)<;>rw[a8]at hc
  ·refine aC rfl<|ab (aB ?_);show I _=I _;simp only[dR,hs,hc,if_true]
  ·refine bc [.bW,.ret (B (ah 1 5 [(s.t.length:Int)]))] rfl ⟨rfl,jd 1 5 [(s.t.length:Int)],trivial⟩<|ag rfl (λhd=>?_) (λhd=>?_)
   ·refine aC rfl<|ab (aB ?_);show I _=I _;simp only[dR,hs,hc,hd,if_true,if_false,ap]
   ·have f:=hc;simp only[ah,bn,bt,bk,a6,decide_eq_false_iff_not]at f;have g:s.a.toNat<b.al.length:=zz
    obtain⟨a,ha⟩:=aL g;refine af ⟨(),⟨a,zz,ha,?_⟩,eL⟩;simp only[dR,hs,hc,hd,ha,if_false,ap]
 ·rintro _ ⟨a,d,ha,he⟩;refine aa<|aC rfl<|bE (dR b i=0) (el []) [] [] ?_ ?_
  ·refine dE (λk:Nat=>k<=s.t.length/\(s.t.all (λc=>decide (0<=cW a.ls c.toNat))=(s.t.drop k).all (λc=>decide (0<=cW a.ls c.toNat)))) (λk=>el [(2,.pi b.enc),(4,.pi s.enc),(24,I s.t.length),(25,I k)]) (λk=>s.t.length-k) 0 ⟨zz,rfl⟩
    eL ?_
   rintro k ⟨hk,hi⟩;refine aC rfl<|aa (ag rfl (λhc=>?_) (λhc=>?_))
   ·simp only[nL]at hc;obtain⟨c,hx⟩:=aL hc;rw[drop_cons hx,de]at hi;refine af (aa (au ?_));refine aC rfl<|aa<|rE [] [.cells a.enc,.byte c,.ret (I (cW a.ls c.toNat))] rfl ⟨⟨d,by simp [ha]⟩,⟨zz,by simpa using hx⟩,wG a.ls c.toNat,trivial⟩<|ag rfl (λe=>?_) (λe=>?_)
    ·simp only[decide_eq_true_eq]at e;refine aC rfl<|ab (aB ?_);show I _=I _;have:decide (0<=cW a.ls c.toNat)=false:=by simp;omega
     rw[he,hi,this];rfl
    ·simp only[decide_eq_false_iff_not]at e;refine af<|dS rfl ⟨zz,trivial⟩ ?_;have:decide (0<=cW a.ls c.toNat)=true:=by simp;omega
     exact⟨k+1,⟨hc,by rw[hi,this];rfl⟩,zz,eL⟩
   ·simp only[nL]at hc;refine ay ⟨(),?_,ao trivial⟩;rw[he,hi,drop_nil hc];rfl
  ·intro _ h;refine aC rfl<|ab (aB ?_);rw[h];rfl
def check (b:dv):Int×Int×Int:=
 if ah 1 4 [b.n]=true then(1,0,7)else if ah 1 3 [(b.al.length:Int)]=true then(2,0,3)else
 if (aA (eH b) b.al.length 0).2=0 then
  (if 5<b.ss.length then(3,0,3)else if (aA (dR b) b.ss.length 0).2=0 then(0,0,0)else(3,(aA (dR b) b.ss.length 0).1,(aA (dR b) b.ss.length 0).2))
 else(2,(aA (eH b) b.al.length 0).1,(aA (eH b) b.al.length 0).2)
theorem Ir (b:dv)(g:b.wf):Ev ad 102 [.agg b.enc] (.bZ [I (check b).1,I (check b).2.1,I (check b).2.2]):=by
 refine ak afT.ok<|bc [.bW] rfl ⟨⟨rfl,rfl⟩,trivial⟩ ?_;have res: ∀{env:Env} {H:Heap} {p q r:Int},check b=(p,q,r)->env 2=I p->env 3=I q->env 4=I r->pD ad [.tmp 2,.tmp 3,.tmp 4] (.bZ [I (check b).1,I (check b).2.1,I (check b).2.2]) .ret env H []:=by intro env H p q r h i j h4;rw[h];exact fh (.inr rfl) (.many zq ⟨.tmp i rfl,.tmp j rfl,.tmp h4 rfl,trivial⟩)
 refine cX (ah 1 4 [b.n]=false/\ah 1 3 [(b.al.length:Int)]=false) (el [(1,.pi b.enc)]) [] [] ?_ ?_
 ·refine bc [.bW,.ret (B (ah 1 4 [b.n]))] rfl ⟨rfl,jd 1 4 [b.n],trivial⟩<|ag rfl (λhc=>?_) (λhc=>?_)
  ·refine aC rfl ?_;exact ab (res (p:=1) (q:=0) (r:=7) (by simp only[check,hc,if_true]) rfl rfl rfl)
  ·refine bc [.bW,.ret (B (ah 1 3 [((b.al.map jX.enc).length:Int)]))] rfl ⟨rfl,jd 1 3 [((b.al.map jX.enc).length:Int)],trivial⟩<|ag rfl (λhd=>?_) (λhd=>?_)<;>rw[a8]at hd
   ·refine aC rfl ?_;exact ab (res (p:=2) (q:=0) (r:=3) (by simp only[check,hc,hd,if_true,if_false,ap]) rfl rfl rfl)
   ·exact af ⟨(),⟨hc,hd⟩,eL⟩
 rintro _ ⟨hc,hd⟩;have d:=hc;have e:=hd;simp only[ah,bn,bt,bk,a6,decide_eq_false_iff_not]at d e;refine bc [.ret (.bZ [I (aA (eH b) b.al.length 0).1,I (aA (eH b) b.al.length 0).2])] rfl ⟨F3 b.al _ _ _ (λk a ha=>OL b k a ha (g.al a (az ha)) zz zz),trivial⟩<|cX ((aA (eH b) b.al.length 0).2=0/\ ¬5<b.ss.length) (el [(1,.pi b.enc)]) [] [] ?_ ?_
 ·refine aC rfl<|ag rfl (λhe=>?_) (λhe=>?_)
  ·simp only[nL]at he;refine aC rfl ?_;exact ab (res (p:=2) (q:=(aA (eH b) b.al.length 0).1) (r:=(aA (eH b) b.al.length 0).2) (by simp only[check,hc,hd,he,if_false,ap]) rfl rfl rfl)
  ·simp only[bne_eq_false_iff_eq]at he;refine aC rfl<|ag rfl (λc=>?_) (λc=>?_)
   ·simp only[nL]at c;have f:5<b.ss.length:=zz
    refine aC rfl ?_;exact ab (res (p:=3) (q:=0) (r:=3) (by simp only[check,hc,hd,he,f,if_true,if_false,ap]) rfl rfl rfl)
   ·simp only[nL]at c;exact af ⟨(),⟨he,zz⟩,eL⟩
 rintro _ ⟨he,c⟩;refine bc [.ret (.bZ [I (aA (dR b) b.ss.length 0).1,I (aA (dR b) b.ss.length 0).2])] rfl ⟨FJ b.ss _ _ _ (λk s hs=>Ns b k s hs (g.ss s (az hs)) zz),trivial⟩<|aa (aa ?_);refine cC rfl<|ag rfl (λhg=>?_) (λhg=>?_)
 ·simp only[nL]at hg;refine aC rfl ?_;exact ab (res (p:=3) (q:=(aA (dR b) b.ss.length 0).1) (r:=(aA (dR b) b.ss.length 0).2) (by simp only[check,hc,hd,he,c,hg,if_true,if_false,ap]) rfl rfl rfl)
 ·simp only[bne_eq_false_iff_eq]at hg;refine af<|aC rfl ?_;exact ab (res (p:=0) (q:=0) (r:=0) (by simp only[check,hc,hd,he,c,hg,if_true,if_false,ap]) rfl rfl rfl)
abbrev bp (b:dv)(m:AV):AV:=.pi (b.enc++[m])
structure KE (b:dv)(i:Nat)(s:cQ)(a:jX)(xs:List bz):Prop where
 hs:b.ss[i]? =some s
 a0:0<=s.a
 ha:b.al[s.a.toNat]? =some a
 len:xs.length=s.t.length
 at_: ∀(k:Nat) (c:UInt8),s.t[k]? =some c->0<=cW a.ls c.toNat/\ ∃x,a.ls[(cW a.ls c.toNat).toNat]? =some x/\xs[k]? =some x
 snd: ∀x∈xs,0<=x.s/\x.s<9223372036854775808
 t5:s.t.length<=5
section
variable {b:dv}{i:Nat}{s:cQ}{a:jX}{xs:List bz}
theorem KE.get (h:KE b i s a xs){k:Nat}{x:bz}(hx:xs[k]? =some x): ∃c,s.t[k]? =some c/\0<=cW a.ls c.toNat/\a.ls[(cW a.ls c.toNat).toNat]? =some x:=by
 have hk:k<s.t.length:=by rw[<-h.len];exact(an.1 hx).1
 obtain⟨c,hc⟩:=aL hk;obtain⟨e,g,f,d⟩:=h.at_ k c hc;rw[hx]at d;cases d;exact⟨c,hc,e,f⟩
theorem XY (ok:KE b i s a xs){k:Nat}{x:bz}(hx:xs[k]? =some x)(m:AV)(n:Int)(g:0<=n)(d:n<64):Ev ad 387 [bp b m,I i,I k,I n] (B (cN x.s n)):=by obtain⟨c,hc,e,f⟩:=ok.get hx;obtain⟨s0,s1⟩:=ok.snd x (az hx);refine ak adJ.ok<|aC rfl<|bc [.cells s.enc,.aI] rfl ⟨⟨zz,by simp [ok.hs]⟩,rfl,⟨rfl,rfl,rfl,zq⟩,trivial⟩<|ae (aq (t:=9) rfl)<|vj [] [.cells a.enc] rfl ⟨⟨ok.a0,by simp [ok.ha]⟩,trivial⟩<|bc [.byte c,.ret (I (cW a.ls c.toNat)),.cells x.enc,.ret (B (cN x.s n))] rfl ⟨⟨zz,zx⟩,wG a.ls c.toNat,⟨e,by simp [f]⟩,PE x n s0 s1 g d,trivial⟩<|ab (aB ?_);rfl
theorem C4 (ok:KE b i s a xs){k:Nat}{x:bz}(hx:xs[k]? =some x)(m:AV):Ev ad 389 [bp b m,I i,I k] (B x.q):=by obtain⟨c,hc,d,e⟩:=ok.get hx;refine ak agc.ok<|aC rfl<|bc [.cells s.enc,.aI] rfl ⟨⟨zz,by simp [ok.hs]⟩,rfl,⟨rfl,rfl,rfl,zq⟩,trivial⟩<|ae (aq (t:=7) rfl)<|vj [] [.cells a.enc] rfl ⟨⟨ok.a0,by simp [ok.ha]⟩,trivial⟩<|bc [.byte c,.ret (I (cW a.ls c.toNat)),.cells x.enc] rfl ⟨⟨zz,zx⟩,wG a.ls c.toNat,⟨d,by simp [e]⟩,trivial⟩<|ab (aB ?_);rfl
end
abbrev Zj (h:List Int):List Value:=[.int .i64 h.length,.int .i64 (h.getD 0 0),.int .i64 (h.getD 1 0),.int .i64 (h.getD 2 0),.int .i64 (h.getD 3 0),.int .i64 (h.getD 4 0)]
abbrev eV (h:List Int):List AV:=(Zj h).map .v
def dy (n:Nat):List bz->List Int->List (List Int)
 |[],h=>[h]
 |x::xs,h=>(if x.q=true then dy n xs h else[])++((bx n).filter (λ(k:Nat)=>cN x.s k)).flatMap (λ(k:Nat)=>dy n xs (h++[(k:Int)]))
def rG (h:List Int):Prop:=h.length<=5/\ ∀v∈h,0<=v/\v<64
def Z9 (b:dv)(i:Nat)(m:AV)(y:AV)(b5:Nat):AV:=.fn (.func 388) [] [.pi [bp b m],.pi [I i],.pi [y],.po b5 0,.pi [.fn (.func 387) [bp b m] []]]
def qf (b:dv)(i:Nat)(m:AV)(y:AV)(b5:Nat):Nat×cP:=(b5,.cells 508 [Z9 b i m y b5])
theorem Jf (b:dv)(i:Nat)(m:AV):Ev ad 385 [bp b m,I i] (.fn (.func 386) [] [.pi [bp b m],.pi [I i]]):=by refine ak agu.ok<|bc [.bW,.bW] rfl ⟨⟨rfl,rfl⟩,⟨rfl,rfl⟩,trivial⟩<|aC rfl<|ab (aB ?_);rfl
theorem pV (n:Nat): ∀(xs:List bz) (h g:List Int),g∈dy n xs h->g.length<=h.length+xs.length
 |[],h,g,hg=>by simp [dy]at hg;subst hg;simp
 |x::xs,h,g,hg=>by
  simp only[dy,a7,cB]at hg
  rcases hg with hg|⟨k,_,hg⟩
  ·split at hg
   ·have:=pV n xs h g hg;simp;omega
   ·cases hg
  ·have:=pV n xs _ g hg
   simp at this ⊢;omega
theorem JP (h:List Int)(n:Int)(hl:h.length<5):bK (eV h) (0+1+((h.length:Int).toNat)*1) [I n]=I h.length::(eV (h++[n])).tail:=by
 match h,hl with
 |[],_=>rfl
 |[_],_=>rfl
 |[_,_],_=>rfl
 |[_,_,_],_=>rfl
 |[_,_,_,_],_=>rfl
abbrev M4 (b:dv)(i:Nat)(m:AV)(y:Fn)(b5 k:Nat)(h:List Int):List (Nat×AV):=
 [(0,I k),(2,.pi [bp b m]),(3,.pi [I i]),(4,.pi [.fn y [] []]),(5,.po b5 0),(6,.pi [.fn (.func 387) [bp b m] []]),(8,.pi (eV h))]
section
variable {X:Type} (T:X->Heap) (step:X->List Int->X) (y:Fn) (b:dv) (i:Nat) (s:cQ) (a:jX) (xs0:List bz) (m:AV)
theorem TO (ok:KE b i s a xs0)(L:0<=b.n)(M:b.n<60)(hy: ∀x h,rG h->Pn ad y [] [.agg (eV h)] (T x) (λr Ho=>r=B true/\Ho=T (step x h)))(b5:Nat):
  ∀(xs:List bz) (k:Nat) (h:List Int) (x:X),xs0.drop k=xs->k<=s.t.length->h.length<=k->(∀v∈h,0<=v/\v<64)->
   il ad 388 [I k,.agg (eV h),.pi [bp b m],.pi [I i],.pi [.fn y [] []],.po b5 0,.pi [.fn (.func 387) [bp b m] []]] (qf b i m (.fn y [] []) b5::T x)
    (λr Ho=>r=B true/\Ho=qf b i m (.fn y [] []) b5::T ((dy b.n.toNat xs h).foldl step x)):=by
 intro xs
 have N:=ok.t5
 induction xs with
 |nil=>
  intro k h x hd hk hh C
  have F:k=s.t.length:=by
   have:=congrArg List.length hd
   simp [ok.len]at this;omega
  refine bq aes.ok<|bc [.bW] rfl ⟨⟨rfl,rfl⟩,trivial⟩<|aJ.scope (aa (aa ?_))
  refine rE [] [.cells s.enc] rfl ⟨⟨zz,by simp [ok.hs]⟩,trivial⟩<|ag rfl (λhc=>?_) (λhc=>?_)
  ·refine aa (av ?_)
   refine kL 2 rfl rfl<|aG (cd (b4 (l₁:=[qf b i m (.fn y [] []) b5]) (l₂:=T x)))<|ai (bP (Hin:=T x) (H0:=[qf b i m (.fn y [] []) b5]) rfl (hy x h ⟨zz,C⟩) rfl rfl (aK _) rfl ?_)
   rintro res d ⟨rfl,rfl⟩
   refine aG (cd (b4 (l₁:=T (step x h)) (l₂:=[qf b i m (.fn y [] []) b5])))<|eZ rfl<|ab ⟨.inr rfl,_,_,_,rfl,.one (.tmp rfl rfl),⟨rfl,?_⟩,b0 _⟩
   rfl
  ·exfalso
   subst F
   have hc:((s.t.length:Int)==(s.t.length:Int))=false:=hc
   simp at hc
 |cons z xs H=>
  intro k h x hd hk hh C
  have A:xs0[k]? =some z:=by
   have:=congrArg (λl=>l[0]?) hd
   simpa using this
  have p:xs0.drop (k+1)=xs:=by
   have:=drop_cons A
   rw[hd]at this
   exact(er this).2.symm
  have K:k<s.t.length:=by rw[<-ok.len];exact(an.1 A).1
  refine bq aes.ok<|bc [.bW] rfl ⟨⟨rfl,rfl⟩,trivial⟩<|aJ.scope (aa (aa ?_))
  refine rE [] [.cells s.enc] rfl ⟨⟨zz,by simp [ok.hs]⟩,trivial⟩<|ag rfl (λhc=>?_) (λhc=>?_)
  ·exfalso
   have hc:((k:Int)==(s.t.length:Int))=true:=hc
   simp at hc
   omega
  refine af<|dZ True (el (M4 b i m y b5 k h)) (qf b i m (.fn y [] []) b5::T ((if z.q=true then dy b.n.toNat xs h else[]).foldl step x)) [] ?_ ?_
  ·cases c:z.q with
   |true=>
    refine aa (av ?_)
    refine Za [(31,true)] [.ret (B z.q),.at 0] 9 rfl rfl ⟨C4 ok A m,⟨c,rfl⟩,c,⟨c,zz⟩,c,trivial⟩<|aT.yes (by show B z.q=B true;rw[c])<|bP (Hin:=qf b i m (.fn y [] []) b5::T x) (H0:=[]) rfl (H (k+1) h x p zz zz C) rfl rfl (aK _) zj ?_
    rintro res d ⟨rfl,rfl⟩
    refine Zb [(31,true)] [] rfl ⟨c,c,trivial⟩<|aD rfl rfl ?_
    refine⟨(),trivial,aj (ar ?_) eL⟩
    simp
   |false=>
    refine aa<|js [(31,false)] [.ret (B z.q)] rfl ⟨C4 ok A m,c,c,c,c,c,c,c,trivial⟩<|aD rfl rfl ?_
    refine⟨(),trivial,aj (ar ?_) eL⟩
    simp
  intro _ _
  refine aa (aJ.label (aa (aa ?_)))
  refine cC rfl ?_
  generalize G:(if z.q=true then dy b.n.toNat xs h else[]).foldl step x=J
  have u: ∀j:Nat,((bx (j+1)).filter (λ(k:Nat)=>cN z.s k)).flatMap (λ(k:Nat)=>dy b.n.toNat xs (h++[(k:Int)]))=
    ((bx j).filter (λ(k:Nat)=>cN z.s k)).flatMap (λ(k:Nat)=>dy b.n.toNat xs (h++[(k:Int)]))++(if cN z.s j=true then dy b.n.toNat xs (h++[(j:Int)])else[]):=by
   intro j
   rw[bs,b8,List.flatMap_append]
   congr 1
   cases hg:cN z.s j<;>simp [hg]
  refine bE True (el []) (qf b i m (.fn y [] []) b5::T ((dy b.n.toNat (z::xs) h).foldl step x)) [] ?_ ?_
  ·refine br (λj:Nat=>j<=b.n.toNat) (λj=>el ((43,I b.n)::(44,I j)::M4 b i m y b5 k h))
    (λj=>qf b i m (.fn y [] []) b5::T ((((bx j).filter (λ(k:Nat)=>cN z.s k)).flatMap (λ(k:Nat)=>dy b.n.toNat xs (h++[(k:Int)]))).foldl step J)) (λ_=>[]) (λj=>b.n.toNat-j) 0 zz
    eL ?_
   intro j O
   generalize g:(((bx j).filter (λ(k:Nat)=>cN z.s k)).flatMap (λ(k:Nat)=>dy b.n.toNat xs (h++[(k:Int)]))).foldl step J=D
   refine aC rfl<|aa (ag rfl (λhc=>?_) (λhc=>?_))
   ·simp only[decide_eq_true_eq]at hc
    have w:j<b.n.toNat:=zz
    refine af (aa (au ?_))
    refine aC rfl<|aa (aa ?_)
    refine iO [.ret (B (cN z.s j))] rfl ⟨XY ok A m j zz zz,trivial⟩<|ag rfl (λo=>?_) (λo=>?_)
    ·simp only[bI]at o
     refine ay<|dS rfl ⟨zz,trivial⟩ ?_
     refine⟨j+1,w,zz,aj (ar ?_) eL⟩
     rw[u,o,<-g];simp
    ·simp only[b7]at o
     refine af<|bc [.aI] rfl ⟨rfl,⟨rfl,rfl,rfl,zq⟩,trivial⟩<|bM (t:=11) rfl (λf=>?_)
     refine aa (av ?_)
     refine OF 5 rfl rfl ⟨⟨zz,by simp;omega⟩,trivial⟩<|ai (aZ (i:=0) rfl rfl rfl rfl rfl rfl (by show 0+1+((h.length:Int).toNat)*1+1<=6;omega) ?_)
     refine aG (ar (H':=(f,.cells 474 (I h.length::(eV (h++[(j:Int)])).tail))::qf b i m (.fn y [] []) b5::T D) ?_) ?_
     ·rw[<-JP h j zz];rfl
     refine eZ rfl<|aa (av ?_)
     refine lz [.at 0] 4 rfl rfl ⟨rfl,⟨zz,zz⟩,trivial⟩<|ai (aZ (i:=0) rfl rfl rfl rfl rfl rfl zj ?_)
     refine aG (ar (H':=(f,.cells 474 (eV (h++[(j:Int)])))::qf b i m (.fn y [] []) b5::T D) ?_) ?_
     ·have e:(((h++[(j:Int)]).length:Nat):Int)=(h.length:Int)+1:=zj
      show (f,cP.cells 474 (I ((h.length:Int)+1)::(eV (h++[(j:Int)])).tail))::_=_
      rw[<-e];rfl
     refine aG (bB.iA (i:=0) 11 rfl rfl)<|eZ rfl<|aa (av ?_)
     refine lz [.at 0] 4 rfl rfl ⟨rfl,zz,trivial⟩<|ai (bP (Hin:=qf b i m (.fn y [] []) b5::T D) (H0:=[]) rfl (H (k+1) (h++[(j:Int)]) D p zz (by simp;omega) (λv hm=>by
      rcases a7.1 hm with hm|hm
      ·exact C v hm
      ·simp only[b9]at hm;omega)) rfl rfl (aK _) zj ?_)
     rintro res d ⟨rfl,rfl⟩
     refine eZ rfl<|aD rfl rfl<|dS rfl ⟨zz,trivial⟩ ?_
     refine⟨j+1,w,zz,aj (ar ?_) eL⟩
     rw[u,o,cr,g];simp
   ·simp only[decide_eq_false_iff_not]at hc
    have E:j=b.n.toNat:=zz
    refine ay ⟨(),trivial,aj (ar ?_) (ao trivial)⟩
    subst E
    rw[<-g,<-G,<-cr];rfl
  ·intro _ _
   refine aC rfl<|ab ⟨.inr rfl,_,_,_,rfl,.one (.tmp rfl rfl),⟨rfl,rfl⟩,b0 _⟩
theorem HU (ok:KE b i s a xs0)(c:0<=b.n)(d:b.n<60)(hy: ∀x h,rG h->Pn ad y [] [.agg (eV h)] (T x) (λr Ho=>r=B true/\Ho=T (step x h)))(x:X):
  il ad 386 [.fn y [] [],.pi [bp b m],.pi [I i]] (T x) (λ_ Ho=>Ho=T ((dy b.n.toNat xs0 []).foldl step x)):=by
 refine bq acp.ok<|bc [.bW] rfl ⟨⟨rfl,rfl⟩,trivial⟩<|bc [.aI] rfl ⟨rfl,⟨rfl,rfl,rfl,zq⟩,trivial⟩<|ae (aq (t:=4) rfl)<|aa (av (ai (aF.alloc rfl (λb5=>?_))))
 refine eZ rfl<|aa (av ?_)
 refine kL 1 rfl rfl<|ai (aZ (i:=0) rfl rfl rfl rfl rfl rfl zq ?_)
 refine eZ rfl<|av<|lz [.at 0] 2 rfl rfl ⟨rfl,trivial⟩<|ai (bP (Hin:=qf b i m (.fn y [] []) b5::T x) (H0:=[]) rfl (TO T step y b i s a xs0 m ok c d hy b5 xs0 0 [] x rfl zz zj zj) rfl rfl (aK _) (by simp;rfl) ?_)
 rintro res e ⟨rfl,rfl⟩
 refine eZ rfl ?_
 refine⟨.inl rfl,_,.bZ [],_,rfl,.many zq trivial,rfl,?_⟩
 simp only[List.append_nil]
 exact List.sublist_cons_self _ _
end
theorem hK:gO ad 474 (bJ ad 5 474):=gO.wide (m:=5) zq zw zw zw
theorem Zy (c0 c1 b c c4 d:Int)(g:(bi .i64 c0).wf=true)(h:(bi .i64 c1).wf=true)(i:(bi .i64 b).wf=true)(j:(bi .i64 c).wf=true)(h4:(bi .i64 c4).wf=true)(k:(bi .i64 d).wf=true):
  bJ ad 5 474 (.agg #[.int .i64 c0,.int .i64 c1,.int .i64 b,.int .i64 c,.int .i64 c4,.int .i64 d]):=by
 have a:ad.cellsOf 474=6:=zw
 have e:ad.cellsOf 244=5:=zw
 have f:ad.cellsOf 3=1:=zw
 refine⟨?_,[.int .i64 c0,.int .i64 c1,.int .i64 b,.int .i64 c,.int .i64 c4,.int .i64 d],?_⟩
 ·simp [dl,cb,a]
 ·simp [ds,c8,cb,bA,cD,a,e,f,g,h,i,j,h4,k,bs]
abbrev rz (h:List Int):Value:=.agg #[.int .i64 h.length,.int .i64 (h.getD 0 0),.int .i64 (h.getD 1 0),.int .i64 (h.getD 2 0),.int .i64 (h.getD 3 0),.int .i64 (h.getD 4 0)]
theorem nj {n:Int}(b:0<=n)(c:n<64):(bi .i64 n).wf=true:=by have a:IntKind.i64.min= -9223372036854775808:=rfl;simp [Lit.wf];omega
theorem rG.get {h:List Int}(hh:rG h)(k:Nat):0<=h.getD k 0/\h.getD k 0<64:=by
 rw[List.getD_eq_getElem?_getD];cases he:h[k]? with
 |none=>simp
 |some v=>simpa using hh.2 v (az he)
theorem rG.wide {h:List Int}(hh:rG h):bJ ad 5 474 (rz h):=
 Zy _ _ _ _ _ _ (nj zz (by have:=hh.1;omega)) (nj (hh.get 0).1 (hh.get 0).2) (nj (hh.get 1).1 (hh.get 1).2) (nj (hh.get 2).1 (hh.get 2).2) (nj (hh.get 3).1 (hh.get 3).2) (nj (hh.get 4).1 (hh.get 4).2)
theorem GZ {h g:List Int}(hh:h.length<=5)(e:rz h=rz g):h=g:=by
 simp only[rz,ec,ek,ea,ej,true_and,b3,and_true]at e;obtain⟨a,b,c,d,f,i⟩:=e;apply cc;intro k
 by_cases hk:k<h.length
 ·grind
 ·grind
abbrev Kn:=List (List Int×Nat)
def fS:Kn->List Int->Option (Nat×Nat)
 |[],_=>none
 |(g,u)::es,h=>if g=h then some (0,u)else(fS es h).map λp=>(p.1+1,p.2)
def nC (es:Kn)(h:List Int)(bit:Nat):Kn:=match fS es h with
 |none=>es++[(h,bit)]
 |some (j,u)=>es.set j (h,u ||| bit)
def jk (es:Kn):List (Value×AV):=es.map λe=>(rz e.1,I e.2)
def vB (es:Kn):Prop:= ∀e∈es,rG e.1/\e.2<32
theorem iY: ∀(es:Kn) (h:List Int),match fS es h with
  |none=> ∀e∈es,e.1≠h
  |some (j,u)=>es[j]? =some (h,u)
 |[],h=>by simp [fS]
 |(g,u)::es,h=>by
  have a:=iY es h
  by_cases hg:g=h
  ·simp [fS,hg]
  ·simp only[fS,if_neg hg]
   cases hk:fS es h with
   |none=>
    rw[hk]at a
    simpa [hg]using a
   |some p=>
    obtain⟨j,v⟩:=p
    rw[hk]at a
    simpa using a
theorem Zn {es:Kn}(hk:vB es){h:List Int}:Av (jk es) (rz h) ((fS es h).map λp=>(p.1,I p.2)):=by
 have hs:=iY es h;cases a:fS es h with
 |none=>rw[a]at hs;refine .none ?_;intro e he;obtain⟨x,hx,rfl⟩:=cA.1 he;exact λe=>hs x hx (GZ (hk x hx).1.1 e)
 |some p=>obtain⟨j,u⟩:=p;rw[a]at hs;refine .some ?_;show (es.map λe=>(rz e.1,I e.2))[j]? =_;rw[be,hs];rfl
theorem Mh {es:Kn}(hk:vB es){h:List Int}(hh:rG h){a:Nat}(c:a<32):vB (nC es h a):=by
 have hs:=iY es h;intro e he;unfold nC at he;cases b:fS es h with
 |none=>
  rw[b]at he;rcases a7.1 he with he|he
  ·exact hk e he
  ·grind
 |some p=>
  obtain⟨j,u⟩:=p;rw[b]at he hs;rcases List.mem_or_eq_of_mem_set he with he|rfl
  ·exact hk e he
  ·exact⟨hh,Nat.or_lt_two_pow (n:=5) (hk _ (az hs)).2 c⟩
theorem Wo {env:Env}: ∀{l:List (Nat×AV)},qX env l->l.all (λp=> !p.2.bC)=true-> ∀t,el l t= .any\/(el l t=env t/\(env t).bC=false)
 |[],_,_,t=>.inl rfl
 |(u,p)::l,h,hl,t=>by
  simp only[de,Bool.and_eq_true,bI]at hl
  simp only[el]
  cases a:Nat.beq t u with
  |true=>
   have:=Nat.eq_of_beq_eq_true a
   subst this
   exact .inr ⟨h.1.symm,by rw[h.1];exact hl.1⟩
  |false=>exact Wo h.2 hl.2 t
theorem IA:(ad.info? 3).bind (·.zero)=some (.int .i64 0):=zw
def jW (es:Kn)(h:List Int):Nat:=match fS es h with|none=>0|some (_,u)=>u
def TI (es:Kn)(h:List Int):Option (Nat×AV):=(fS es h).map λp=>(p.1,I p.2)
theorem MW (es:Kn)(h:List Int):oh false (cv (.int .i64 0)) (TI es h)=I (jW es h):=by unfold TI jW;cases fS es h<;>rfl
def zr (es:Kn)(h:List Int):Kn:=match fS es h with|none=>es++[(h,0)]|some _=>es
theorem PJ (es:Kn)(h:List Int):km (jk es) (rz h) (I (jW es h)) (TI es h)=jk (zr es h):=by
 unfold TI jW zr;have hs:=iY es h;cases a:fS es h with
 |none=>simp [km,jk]
 |some p=>
  obtain⟨j,u⟩:=p;rw[a]at hs;simp only[c7,km];apply cc;intro n;rw[List.getElem?_set];have b:j<(jk es).length:=by have:=(an.1 hs).1;simpa [jk]using this
  split
  ·rename_i e;subst e;show _=(es.map _)[j]?;rw[be,hs];rfl
  ·rfl
def Hu (es:Kn)(h:List Int):Nat:=match fS es h with|none=>es.length|some (j,_)=>j
theorem VA (es:Kn)(h:List Int):sr (jk es) (TI es h)=Hu es h:=by unfold TI Hu;cases fS es h<;>simp [sr,jk]
theorem LX (es:Kn)(h:List Int):(jk (zr es h))[Hu es h]? =some (rz h,I (jW es h)):=by grind [zr,Hu,jW,fS,jk,iY]
theorem Rv (es:Kn)(h:List Int)(bit:Nat):(jk (zr es h)).set (Hu es h) (rz h,I ((jW es h ||| bit:Nat):Int))=jk (nC es h bit):=by
 unfold zr Hu jW nC;cases a:fS es h with
 |none=>simp [jk]
 |some p=>obtain⟨j,u⟩:=p;show (es.map _).set j _=(es.set j _).map _;rw[List.map_set]
theorem Vh {es:Kn}(hk:vB es){h:List Int}(hh:rG h):vB (zr es h):=by
 unfold zr;cases fS es h with
 |none=>
  intro e he;rcases a7.1 he with he|he
  ·exact hk e he
  ·grind
 |some p=>exact hk
theorem vB.ks {es:Kn}(hk:vB es): ∀e∈jk es,bJ ad 5 474 e.1:=by intro e he;obtain⟨x,hx,rfl⟩:=cA.1 he;exact(hk x hx).1.wide
theorem Uu {es:Kn}(hk:vB es)(h:List Int):jW es h<32:=by
 have hs:=iY es h;unfold jW;cases a:fS es h with
 |none=>simp
 |some p=>obtain⟨j,u⟩:=p;rw[a]at hs;exact(hk _ (az hs)).2
theorem NS (b:dv)(i:Nat)(hi:i<5)(bm l:Nat)(es:Kn)(hk:vB es)(h:List Int)(hh:rG h)(Q:cI)
  (o: ∀env,Q .normal env [(bm,.map (jk (nC es h (2^i))))] []) (env:Env) (he:qX env [(3,.pi [bp b (.mo bm)]),(4,.pi [I i]),(5,.pi (eV h))]):
  aJ ad (some l) 33 (.iP [(⟨some 20,none,.load 470 (tm 3) none⟩,[]),(⟨some 21,none,.uM (tm 20)⟩,[0]),(⟨some 22,none,.oN 498 (tm 21) 1 3⟩,[1]),(⟨some 23,none,.load 496 (tm 22) none⟩,[2]),
   (⟨some 24,none,.load 474 (tm 5) (some 6)⟩,[]),(⟨some 25,none,.lookup 496 (tm 23) (tm 24) false 474 3 [.int .i64 0]⟩,[3,4]),(⟨some 26,none,.load 3 (tm 4) none⟩,[]),(⟨some 27,none,.bin .shl 3 (kc 1) (tm 26)⟩,[6]),
   (⟨some 28,none,.bin .or 3 (tm 25) (tm 27)⟩,[5,7]),(⟨some 29,none,.nf 496 (tm 23) (tm 24) 474 3 [.int .i64 0]⟩,[3,4,0,1,2,3,4,6,7]),(⟨some 30,none,.extract (tm 29) 1⟩,[9]),
   (⟨none,none,.uA 496 (tm 23) (tm 30) (tm 28)⟩,[3,10,8,9,0,1,2,3,4,5,6,7,8,9,10])]) Q env [(bm,.map (jk es))] []:=by
 have s:(2:Int)^i<=2305843009213693952:=E8 (k:=i) zz
 have r:(0:Int)<2^i:=dn zz
 have p:=Uu hk h
 have j: ∀env0:Env,env0 23= .mo bm->valOf (env0 24)=some (rz h)->Q1 ad (some l) 33 (.lookup 496 (tm 23) (tm 24) false 474 3 [.int .i64 0]) (some 25) env0 [(bm,.map (jk es))] [] [(25,I (jW es h))]:=by
  intro env0 c d
  exact aF.nD (n:=0) hK IA c rfl d hh.wide hk.ks (Zn hk) ⟨by show ct _ _ (oh false _ (TI es h))=_;rw[MW];rfl,rfl,rfl⟩
 have m: ∀env0:Env,env0 23= .mo bm->valOf (env0 24)=some (rz h)->Q1 ad (some l) 33 (.lookup 496 (tm 23) (tm 24) false 474 3 [.int .i64 0]) (some 25) env0 [(bm,.map (jk (zr es h)))] [] [(25,I (jW es h))]:=by
  intro env0 c d
  exact aF.nD (n:=0) hK IA c rfl d hh.wide (Vh hk hh).ks (.some (LX es h)) ⟨rfl,rfl,rfl⟩
 have e: ∀env0:Env,env0 23= .mo bm->valOf (env0 24)=some (rz h)->O3 ad (some l) 33 (.nf 496 (tm 23) (tm 24) 474 3 [.int .i64 0]) (some 29) env0 [(bm,.map (jk es))] [(bm,.map (jk (zr es h)))] [] [(29,.bZ [I (jW es h),I (Hu es h)])]:=by
  intro env0 c d
  refine aF.nf (n:=0) hK IA c rfl d hh.wide hk.ks (Zn hk) ?_
  have f:=MW es h
  unfold TI at f
  have g:=VA es h
  unfold TI at g
  have a:=PJ es h
  unfold TI at a
  rw[f,g,a]
  exact⟨rfl,rfl,rfl⟩
 refine ae (ao he)<|aJ.Z8 (q:=9) (H1:=[(bm,.map (jk (zr es h)))]) xr
  (.xq [] zq rfl rfl rfl trivial trivial <| .xq [] zq rfl rfl rfl trivial trivial <| .xq [] zq rfl rfl rfl trivial trivial <| .xq [] zq rfl rfl rfl trivial trivial <| .xq [] zq rfl rfl rfl trivial trivial <|
    .cons [25,23,24] true true zq (λ_=>j _ rfl rfl) (λ_=>m _ rfl rfl) rfl rfl <|
    .xq [] zq rfl rfl rfl trivial trivial <| .xq [] zq rfl rfl rfl ⟨zz,zz,zz,zx⟩ ⟨zz,zz,zz,zx⟩ <|
    .xq [] zq rfl rfl rfl ⟨⟨zz,zz⟩,zx,zx⟩ ⟨⟨zz,zz⟩,zx,zx⟩ <|
    .chg [29,23,24] rfl ⟨rfl,e _ rfl rfl⟩ rfl rfl <| .xq [] zq rfl rfl rfl trivial trivial <| .nil) zw<|ai (aF.uA (n:=0) rfl rfl rfl (LX es h) rfl rfl ?_)
 refine bh ?_
 have f:((1:Int)*2^((i:Nat):Int).toNat).toNat=2^i:=zx
 have g:(jk (zr es h)).set (Hu es h) (rz h,I ((jW es h ||| ((1:Int)*2^((i:Nat):Int).toNat).toNat:Nat):Int))=jk (nC es h (2^i)):=by
  rw[f];exact Rv es h (2^i)
 have a:=o
 rw[<-g]at a
 exact a _
def jq (n:Nat):List (List bz)->Nat->Kn->Kn
 |[],_,es=>es
 |xs::a,i,es=>jq n a (i+1) ((dy n xs []).foldl (λes h=>nC es h (2^i)) es)
structure Tt (b:dv)(sps:List (List bz)):Prop where
 n0:0<=b.n
 n1:b.n<60
 len:sps.length=b.ss.length
 HJ:sps.length<=5
 sp: ∀(i:Nat) xs,sps[i]? =some xs-> ∃s a,KE b i s a xs
theorem tB {n:Nat}(a:n<=64): ∀(xs:List bz) (h g:List Int),g∈dy n xs h->(∀v∈h,0<=v/\v<64)-> ∀v∈g,0<=v/\v<64
 |[],h,g,hg,hh=>by simp [dy]at hg;subst hg;exact hh
 |x::xs,h,g,hg,hh=>by
  simp only[dy,a7,cB]at hg
  rcases hg with hg|⟨k,hk,hg⟩
  ·split at hg
   ·exact tB a xs h g hg hh
   ·cases hg
  ·refine tB a xs _ g hg ?_
   intro v hv
   rcases a7.1 hv with hv|hv
   ·exact hh v hv
   ·simp only[b9]at hv
    have:=List.mem_range.1 (List.mem_filter.1 hk).1
    omega
abbrev KX:={es:Kn//vB es}
open Classical in
noncomputable def Ld (i:Nat) (hi:i<5) (x:KX) (h:List Int):KX:=if hh:rG h then⟨nC x.1 h (2^i),Mh x.2 hh (by
 have:2^i<=2^4:=b6 zz zz
 omega)⟩else x
theorem CQ {i:Nat}{hi:i<5}{x:KX}{h:List Int}(hh:rG h):(Ld i hi x h).1=nC x.1 h (2^i):=by unfold Ld;rw[dif_pos hh]
theorem WX {i:Nat}{hi:i<5}: ∀(l:List (List Int)) (x:KX),(∀h∈l,rG h)->(l.foldl (Ld i hi) x).1=l.foldl (λes h=>nC es h (2^i)) x.1
 |[],x,_=>rfl
 |h::l,x,hl=>by
  simp
  rw[WX l _ (λg hg=>hl g (by simp [hg])),CQ (hl h zj)]
theorem Wc (b:dv)(c:List (List bz))(ok:Tt b c):Ev ad 378 [.agg b.enc] (bp b (.mi (jk (jq b.n.toNat c 0 [])))):=by
 have E:=ok.HJ;have q:=ok.len;have v:=ok.n0;have w:=ok.n1;refine ak adl.ok<|bc [.bW] rfl ⟨⟨rfl,rfl⟩,trivial⟩<|aa (av ?_);refine kL 1 rfl rfl<|ai (aF.sU (λbm=>?_));refine Sc [.bW,.aI] rfl ⟨⟨rfl,rfl⟩,rfl,⟨rfl,rfl,rfl,zq⟩,trivial⟩<|ae (aq (t:=3) rfl)<|aa (aa ?_);refine cC rfl<|aJ.gK (λ_:List Nat=>True) (λ_=>el [(3,.pi [bp b (.mo bm)])]) (λf=>(bm,.map (jk (jq b.n.toNat c 0 [])))::f.map λd=>(d,cP.iV)) (λf=>f) ?_ ?_
 ·refine br (X:=Nat×Kn×List Nat) (λx=>x.1<=c.length/\vB x.2.1/\jq b.n.toNat c 0 []=jq b.n.toNat (c.drop x.1) x.1 x.2.1)
   (λx=>el [(3,.pi [bp b (.mo bm)]),(12,I c.length),(13,I x.1)]) (λx=>(bm,.map (jk x.2.1))::x.2.2.map λd=>(d,cP.iV)) (λx=>x.2.2) (λx=>c.length-x.1) (0,[],[]) ⟨zj,(by intro e he;cases he),rfl⟩
   (ao ⟨rfl,by show I _=I _;simp [q],rfl,trivial⟩) ?_
  rintro⟨i,es,f⟩ ⟨hi,hk,g⟩;simp only at hi hk g ⊢;refine aC rfl<|aa (ag rfl (λhc=>?_) (λhc=>?_))
  ·simp only[nL]at hc;obtain⟨xs,hx⟩:=aL hc;obtain⟨s,a,j⟩:=ok.sp i xs hx;have p:i<5:=zz
   rw[drop_cons hx,jq]at g
   have m: ∀h∈dy b.n.toNat xs [],rG h:=λh hh=>⟨by
    have:=pV _ xs [] h hh
    have C:=j.len
    have D:=j.t5
    simp at this;omega,tB zz xs [] h hh zj⟩
   refine af (aa (au ?_));refine bc [.aI] rfl ⟨rfl,⟨rfl,rfl,rfl,zq⟩,trivial⟩<|ae (aq (t:=4) rfl)<|bc [.ret (.fn (.func 386) [] [.pi [bp b (.mo bm)],.pi [I i]])] rfl ⟨Jf b i (.mo bm),trivial⟩<|au<|aJ.wP (X:=KX) (HS:=λx=>[(bm,.map (jk x.1))]) (H0:=f.map λd=>(d,cP.iV)) ⟨es,hk⟩ (λk=>k.1=(dy b.n.toNat xs []).foldl (λes h=>nC es h (2^i)) es)
    (λx args k=> ∃h,rG h/\args=[.agg (eV h)]/\k.1=nC x.1 h (2^i)) (el [(3,.pi [bp b (.mo bm)]),(4,.pi [I i])]) rfl rfl (Wo ⟨rfl,rfl,trivial⟩ rfl) zj ?_ ?_ ?_
   ·rintro l x args k ⟨h,hh,rfl,y⟩;refine⟨rfl,?_⟩;refine iO [.aI] rfl ⟨rfl,⟨rfl,rfl,rfl,zq⟩,trivial⟩ ?_;refine⟨rfl,ae (aq (t:=5) rfl) (au ?_)⟩;refine NS b i p bm l x.1 x.2 h hh _ ?_ _ ⟨rfl,rfl,rfl,trivial⟩;intro env';refine⟨rfl,?_⟩;rw[y];exact b0 _
   ·intro l lo hy;refine(HU (λx:KX=>(l,lo)::[(bm,.map (jk x.1))]) (Ld i p) (.yield l) b i s a xs (.mo bm) j v w ?_ ⟨es,hk⟩).mono ?_
    ·intro x h hh;exact⟨rfl,hy x _ _ ⟨h,hh,rfl,CQ hh⟩⟩
    ·intro r Ho u;exact⟨_,WX _ _ m,u⟩
   ·intro k B o;refine ae (cd (en _ _ _))<|dS rfl ⟨zz,trivial⟩ ?_;refine⟨(i+1,k.1,B::f),⟨hc,k.2,?_⟩,by simp only;omega,eL⟩;rw[g,o]
  ·simp only[nL]at hc;refine ay ⟨f,trivial,aj (ar ?_) eL⟩;rw[g,drop_nil hc];rfl
 ·intro f _;refine aC rfl<|ae (bB.lN (t:=2) (i:=0) rfl rfl) ?_
  have z: ∀f:List Nat,uV (f.map λd=>(d,cP.iV)) f []:=by
   intro f;induction f with
   |nil=>rfl
   |cons d f A=>exact⟨0,rfl,by simpa using A⟩
  refine ab ⟨.inr rfl,[],z f,.one (.tmp ?_ rfl)⟩;show AV.pi _=AV.pi _;simp [Cn]
theorem GU (n:Int):Ev ad 286 [I n] (B false):=by refine ak acv.ok<|aC rfl<|aC rfl<|ab (aB ?_);show B _=B _;simp
def Jd (a b:Int):Int:=if a<b then -1 else if a>b then 1 else 0
theorem XZ (a b:Int):Ev ad 214 [I a,I b] (I (Jd a b)):=by
 refine ak agA.ok<|aC rfl<|bc [.ret (B false)] rfl ⟨GU a,trivial⟩<|bc [.ret (B false)] rfl ⟨GU b,trivial⟩<|aa (aa ?_);refine cC rfl<|ag (b:=false) rfl (λh=>by cases h) (λ_=>af (aa (aa ?_)));refine cC rfl<|ag (b:=false) rfl (λh=>by cases h) (λ_=>af (aa (aa ?_)));refine cC rfl<|ag rfl (λh=>?_) (λh=>?_)
 ·simp only[decide_eq_true_eq]at h;refine aC rfl<|ab (aB ?_);show I _=I _;simp [Jd,h]
 simp only[decide_eq_false_iff_not]at h;refine af (aa (aa ?_));refine cC rfl<|ag rfl (λg=>?_) (λg=>?_)
 ·simp only[decide_eq_true_eq]at g;refine aC rfl<|ab (aB ?_);show I _=I _;simp [Jd,h,g]
 simp only[decide_eq_false_iff_not]at g;refine af<|aC rfl<|ab (aB ?_);show I _=I _;simp [Jd,h,g]
def cmpL:List Int->List Int->Int
 |[],[]=>0
 |[],_::_=> -1
 |_::_,[]=>1
 |a::x,b::y=>if a=b then cmpL x y else if a<b then -1 else 1
theorem M5: ∀(a b:List Int),cmpL a b<0↔dM a b=true
 |[],[]=>by simp [cmpL,dM]
 |[],_::_=>by simp [cmpL,dM]
 |_::_,[]=>by simp [cmpL,dM]
 |a::x,b::y=>by
  simp only[cmpL,dM]
  by_cases h:a=b
  ·simp only[h,if_true];exact M5 x y
  ·simp only[h,if_false]
   by_cases g:a<b<;>simp [g]
theorem BY (a b:List Int):Ev ad 140 [ints a,ints b] (I (cmpL a b)):=by
 refine ak agJ.ok<|cH 0 rfl λha=>?_;simp only[a8]at ha;refine aC rfl<|aa (aa ?_);refine cC rfl<|bE (cmpL a b=cmpL [] (b.drop a.length)/\a.length<=b.length) (el [(0,ints a),(1,ints b)]) [] [] ?_ ?_
 ·refine dE (λk:Nat=>k<=a.length/\k<=b.length/\cmpL a b=cmpL (a.drop k) (b.drop k)) (λk=>el [(0,ints a),(1,ints b),(9,ints a),(10,I a.length),(11,I k)]) (λk=>a.length-k) 0 ⟨zz,zz,rfl⟩
   (ao ⟨rfl,rfl,rfl,by show I _=I _;simp,rfl,trivial⟩) ?_
  rintro k ⟨j,h,c⟩;refine aC rfl<|aa (ag rfl (λhc=>?_) (λhc=>?_))
  ·simp only[nL]at hc;obtain⟨x,hx⟩:=aL hc;refine af (aa (au ?_));refine bc [.cells [I x]] rfl ⟨⟨zz,by simp [hx]⟩,trivial⟩<|aa (aa ?_);refine cC rfl<|ag rfl (λd=>?_) (λd=>?_)
   ·simp only[nL]at d;refine aC rfl<|ab (aB ?_);show I _=I _;rw[c,drop_cons hx,drop_nil (l:=b) zz];rfl
   ·simp only[nL]at d;have f:k<b.length:=zz
    obtain⟨y,hy⟩:=aL f;rw[drop_cons hx,drop_cons hy,cmpL]at c;refine af<|bc [.cells [I y]] rfl ⟨⟨zz,by simp [hy]⟩,trivial⟩<|bc [.ret (I (Jd x y))] rfl ⟨XZ x y,trivial⟩<|aa<|cC rfl<|ag rfl (λhd=>?_) (λhd=>?_)
    ·simp only[nL]at hd;refine aC rfl<|ab (aB ?_);show I _=I _;rw[c];unfold Jd at hd ⊢;by_cases e:x=y
     ·subst e;simp at hd
     ·rw[if_neg e];by_cases g:x<y
      ·simp [g]
      ·have:x>y:=zz
       simp [g,this]
    ·simp only[bne_eq_false_iff_eq]at hd
     have e:x=y:=by
      unfold Jd at hd;by_cases g:x<y
      ·simp [g]at hd
      ·by_cases i:x>y
       ·simp [g,i]at hd
       ·omega
     rw[if_pos e]at c;refine af<|dS rfl ⟨zz,trivial⟩ ?_;exact⟨k+1,⟨hc,f,c⟩,zz,eL⟩
  ·simp only[nL]at hc;have:k=a.length:=zz
   subst this;exact ay ⟨(),⟨by rw[c];simp,h⟩,eL⟩
 ·rintro _ ⟨c,h⟩;refine aa (aa ?_);refine cC rfl<|ag rfl (λd=>?_) (λd=>?_)
  ·simp only[nL]at d;obtain⟨y,hy⟩:=aL d;refine aC rfl<|ab (aB ?_);show I _=I _;rw[c,drop_cons hy];rfl
  ·simp only[nL]at d;refine af<|aC rfl<|ab (aB ?_);show I _=I _;rw[c,drop_nil d];rfl
def cM (set:Int)(n:Nat):List Int:=(((bx n).filter λ(k:Nat)=>cN set k)).map λ(k:Nat)=>(k:Int)
theorem ia (set:Int)(n:Nat):cM set (n+1)=cM set n++(if cN set n=true then[(n:Int)]else[]):=by unfold cM;rw[bs,b8,List.map_append];congr 1;cases hg:cN set n<;>simp [hg]
theorem nG (set:Int)(n:Nat):(cM set n).length<=n:=by grind [cM]
def pad (h:List Int):List Int:=[h.getD 0 0,h.getD 1 0,h.getD 2 0,h.getD 3 0,h.getD 4 0]
theorem YA (c1 b c c4 d:Int)(f:(bi .i64 c1).wf=true)(g:(bi .i64 b).wf=true)(h:(bi .i64 c).wf=true)(h4:(bi .i64 c4).wf=true)(i:(bi .i64 d).wf=true):
  bJ ad 5 244 (.agg #[.int .i64 c1,.int .i64 b,.int .i64 c,.int .i64 c4,.int .i64 d]):=by
 have a:ad.cellsOf 244=5:=zw
 have e:ad.cellsOf 3=1:=zw
 refine⟨?_,[.int .i64 c1,.int .i64 b,.int .i64 c,.int .i64 c4,.int .i64 d],?_⟩
 ·simp [dl,bA,a]
 ·simp [ds,c8,bA,cD,a,e,f,g,h,h4,i,bs]
theorem rG.WS {h:List Int}(hh:rG h):bJ ad 5 244 (.agg #[.int .i64 (h.getD 0 0),.int .i64 (h.getD 1 0),.int .i64 (h.getD 2 0),.int .i64 (h.getD 3 0),.int .i64 (h.getD 4 0)]):=
 YA _ _ _ _ _ (nj (hh.get 0).1 (hh.get 0).2) (nj (hh.get 1).1 (hh.get 1).2) (nj (hh.get 2).1 (hh.get 2).2) (nj (hh.get 3).1 (hh.get 3).2) (nj (hh.get 4).1 (hh.get 4).2)
def cy (h g:List Int):Bool:=if pad h=pad g\/h.length≠g.length then decide (h.length<g.length)else decide (cmpL (pad h) (pad g)<0)
theorem NC (h g:List Int)(hh:rG h)(hg:rG g):Ev ad 379 [.agg (eV h),.agg (eV g)] (B (cy h g)):=by
 refine ak adr.ok<|bc [.bW,.bW] rfl ⟨⟨rfl,rfl⟩,⟨rfl,rfl⟩,trivial⟩ ?_
 have fin: ∀env:Env,qX env [(2,.pi (eV h)),(3,.pi (eV g))]->pad h=pad g\/h.length≠g.length->
   aJ ad none 28 (.seq (.ops [⟨some 17,none,.oN 474 (tm 2) 0 0⟩,⟨some 18,none,.load 3 (tm 17) none⟩,⟨some 19,none,.oN 474 (tm 3) 0 0⟩,⟨some 20,none,.load 3 (tm 19) none⟩,⟨some 21,none,.bin .lss 3 (tm 18) (tm 20)⟩,⟨some 4,none,.rF (tm 21)⟩]) .ret)
    (λe env H D=>e= .ret/\pD ad [.tmp 4] (B (cy h g)) .ret env H D) env [] []:=by
  intro env he a
  refine ae (ao he)<|aC rfl<|ab ⟨rfl,fh (.inr rfl) (.one (.tmp ?_ rfl))⟩
  show B _=B _
  simp [cy,a]
 have c: ∀env:Env,bu env (tm 6)= .agg ((eV h).drop 1)->bu env (tm 8)= .agg ((eV g).drop 1)-> ∀K:Env->Heap->List Nat->Prop,K (ct env (some 9) (B (decide (pad h=pad g)))) [] []->aF ad none 28 (.nI false 244 (tm 6) (tm 8)) (some 9) env [] [] K:=by intro env d f K k;refine aF.nI (m:=5) (DD:=5) zq zw zw zw zw (by rw[d];rfl) (by rw[f];rfl) hh.WS hg.WS (decide (pad h=pad g)) ?_ k;simp [pad]
 refine aa (aa (av ?_));refine kL 4 rfl rfl<|ai (c _ rfl rfl _ ?_);by_cases a:pad h=pad g
 ·refine Zb [(10,true)] [] rfl (by simp [a])<|ax rfl rfl<|mH (fin _ ?_ (.inl a)) (by rintro e env H D ⟨rfl,h⟩;exact h);exact⟨rfl,rfl,trivial⟩
 ·refine Zb [(10,false)] [] rfl (by simp [a])<|ag rfl (λb=>?_) (λb=>?_)
  ·simp only[bne_iff_ne,ne_eq,b3]at b;refine mH (fin _ ?_ (.inr b)) (by rintro e env H D ⟨rfl,h⟩;exact h);exact⟨rfl,rfl,trivial⟩
  ·simp only[bne_eq_false_iff_eq,b3]at b;refine af<|vj [] [.ret (I (cmpL (pad h) (pad g)))] rfl ⟨⟨⟨trivial,trivial⟩,⟨cR 5,zq⟩,zq,zq⟩,⟨⟨trivial,trivial⟩,⟨cR 5,zq⟩,zq,zq⟩,BY (pad h) (pad g),trivial⟩<|ab (aB ?_);show B _=B _;simp [cy,a,b]
theorem RD (h:List Int)(hl:h.length<=5):((pad h).map λx=>[I x]).take (min 5 h.length)++(List.replicate h.length [I 0]).drop (min 5 h.length)=h.map λx=>[I x]:=by
 match h,hl with
 |[],_=>rfl
 |[_],_=>rfl
 |[_,_],_=>rfl
 |[_,_,_],_=>rfl
 |[_,_,_,_],_=>rfl
 |[_,_,_,_,_],_=>rfl
theorem Vk (h:List Int)(hl:h.length<=5):Ev ad 363 [.agg (eV h)] (ints h):=by
 refine ak aeV.ok<|bc [.bW] rfl ⟨⟨rfl,rfl⟩,trivial⟩<|aa (av ?_);refine kL 2 rfl rfl<|ai (aF.gR h.length rfl rfl rfl rfl zz zz rfl (λb=>?_));refine eZ rfl<|aa (av ?_);refine OF 3 rfl rfl ⟨⟨⟨trivial,trivial⟩,⟨cR 5,zq⟩,zq,zq⟩,trivial⟩<|ai (aF.LD (i:=0) (ys:=(pad h).map λx=>[I x]) rfl rfl rfl ?_);refine eZ rfl<|ae (ar (H':=[(b,.arr 3 1 h.length (h.map λx=>[I x]))]) ?_) ?_
 ·have:=RD h hl;simp only[List.length_replicate,a8]at this ⊢;show [(b,cP.arr 3 1 h.length _)]=_;congr 3
 refine aC rfl<|ae (bB.tF (t:=2) (i:=0) (es:=h.map λx=>[I x]) (b:=b) (cap:=h.length) (kk:=1) (T:=3) ?_ rfl) ?_
 ·show AV.so _ _ _=AV.so _ _ _;simp
 refine ab ⟨.inr rfl,[],rfl,.one (.tmp rfl rfl)⟩
def uR (ls:List bz)(c:Int):bz:=(ls[(cW ls c).toNat]?).getD ⟨0,0,false⟩
def je (b:dv)(s:cQ):List bz:=match b.al[s.a.toNat]? with
 |none=>[]
 |some a=>s.t.map λc=>uR a.ls c.toNat
def tk (b:dv):List (List bz):=b.ss.map (je b)
def cS (b:dv):Kn:=jq b.n.toNat (tk b) 0 []
theorem oq {f:Nat->Int}: ∀{m k:Nat},(aA f m k).2=0-> ∀j,k<=j->j<k+m->f j=0
 |0,k,_,j,b,c=>zz
 |m+1,k,h,j,b,c=>by
  simp only[aA]at h
  by_cases a:f k=0
  ·rw[if_pos a]at h
   by_cases e:j=k
   ·subst e;exact a
   ·exact oq h j zz zz
  ·rw[if_neg a]at h
   exact absurd h a
theorem qt {α:Type}(p:α->Bool): ∀(l:List α) (k:Int),0<=k->0<=bD p l k->k<=bD p l k/\ ∃x,l[(bD p l k-k).toNat]? =some x/\p x=true
 |[],k,_,h=>by simp [bD]at h
 |x::l,k,hk,h=>by
  by_cases a:p x=true
  ·have e:bD p (x::l) k=k:=by simp only[bD,a,if_true]
   rw[e];exact⟨Int.le_refl _,x,zj,a⟩
  ·have e:bD p (x::l) k=bD p l (k+1):=by simp only[bD,a,if_false,ap]
   rw[e]at h ⊢
   obtain⟨d,y,b,c⟩:=qt p l (k+1) zz h
   refine⟨zz,y,?_,c⟩
   have:(bD p l (k+1)-k).toNat=(bD p l (k+1)-(k+1)).toNat+1:=zz
   rw[this];simpa using b
theorem Qx (b:dv)(p:b.wf)(h:(check b).2.2=0):Tt b (tk b):=by
 unfold check at h;split at h
 ·simp at h
 rename_i u;split at h
 ·simp at h
 rename_i v;split at h
 ·rename_i w;split at h
  ·simp at h
  rename_i h4;split at h
  ·rename_i z;simp only[ah,bn,bt,bk,b1,a6,decide_eq_false_iff_not]at u v;refine⟨zz,zz,by simp [tk],by simp [tk];omega,?_⟩;intro i xs hx;simp only[tk,be,Option.map_eq_some_iff]at hx;obtain⟨s,hs,rfl⟩:=hx;have A:=(an.1 hs).1;have he:=oq z i zz zz;simp only[dR,hs]at he;split at he
   ·cases he
   rename_i g1;split at he
   ·cases he
   rename_i g2;simp only[ah,bn,bt,bk,b1,a6,decide_eq_false_iff_not]at g1 g2;have j:s.a.toNat<b.al.length:=zz
   obtain⟨a,ha⟩:=aL j;simp only[ha]at he;split at he;case isFalse=>cases he
   rename_i q;have d:=oq w s.a.toNat zz zz;simp only[eH,ha]at d;split at d;case isFalse=>cases d
   split at d
   ·cases d
   split at d
   ·cases d
   have g:je b s=s.t.map λc=>uR a.ls c.toNat:=by simp only[je,ha]
   have l: ∀(k:Nat) (c:UInt8),s.t[k]? =some c->0<=cW a.ls c.toNat/\ ∃x,a.ls[(cW a.ls c.toNat).toNat]? =some x/\(je b s)[k]? =some x:=by
    intro k c hc;have m:0<=cW a.ls c.toNat:=by have:=List.all_eq_true.1 q c (az hc);simpa using this
    obtain⟨_,x,hx,_⟩:=qt _ a.ls 0 zz m;rw[Int.sub_zero]at hx;refine⟨m,x,hx,?_⟩;rw[g,be,hc];simp only[c7,uR];have o:a.ls[(cW a.ls c.toNat).toNat]? =some x:=hx;rw[o];rfl
   refine⟨s,a,hs,zz,ha,by rw[g];simp,l,?_,zz⟩;intro x hx;rw[g]at hx;obtain⟨c,hc,rfl⟩:=cA.1 hx;obtain⟨k,hk⟩:=List.mem_iff_getElem?.1 hc;obtain⟨m,y,hy,C⟩:=l k c hk;have e:uR a.ls c.toNat=y:=by simp only[uR,hy];rfl
   rw[e];have B:=(an.1 hy).1;have f:=oq d (cW a.ls c.toNat).toNat zz zz;simp only[eC,hy]at f;split at f
   ·cases f
   split at f
   ·cases f
   split at f
   ·cases f
   rename_i r;simp only[ah,bn,bt,bk,b1,a6,decide_eq_false_iff_not]at r;have:=E8 (k:=b.n.toNat) zz;omega
  ·grind
 ·grind
def gv (b:dv)(many:Int)(l:List Int):Int:=if (check b).2.2=0 then(if ah 0 (many-1) l=true then 4 else 0)else(check b).2.2
abbrev C1 (b:dv):AV:=bp b (.mi (jk (cS b)))
theorem FO (b:dv)(a:b.wf)(many:Int)(c:0<=many)(d:many<=9223372036854775807)(l:List Int):Ev ad 361 [.agg b.enc,I many,ints l] (.bZ [if gv b many l=0 then C1 b else .v (.pointer none),I (gv b many l)]):=by
 refine ak acs.ok<|bc [.bW] rfl ⟨⟨rfl,rfl⟩,trivial⟩<|bc [.ret (.bZ [I (check b).1,I (check b).2.1,I (check b).2.2])] rfl ⟨Ir b a,trivial⟩<|cX (gv b many l=0/\(check b).2.2=0) (el [(3,.pi b.enc)]) [] [] ?_ ?_
 ·refine aC rfl<|ag rfl (λhc=>?_) (λhc=>?_)
  ·simp only[nL]at hc;have he:gv b many l=(check b).2.2:=by simp [gv,hc]
   refine aC rfl<|ab (fh (.inr rfl) (.many zq ⟨.tmp ?_ ?_,.tmp ?_ rfl,trivial⟩))
   ·rw[he,if_neg hc];rfl
   ·rw[he,if_neg hc];rfl
   ·rw[he];rfl
  ·simp only[bne_eq_false_iff_eq]at hc;refine bc [.ret (B (ah 0 (many-1) l))] rfl ⟨⟨zz,zz⟩,jd 0 (many-1) l,trivial⟩<|ag rfl (λhd=>?_) (λhd=>?_)
   ·have he:gv b many l=4:=by simp [gv,hc,hd]
    refine aC rfl<|ab (fh (.inr rfl) (.many zq ⟨.tmp ?_ ?_,.tmp ?_ rfl,trivial⟩))
    ·rw[he];rfl
    ·rw[he];rfl
    ·rw[he];rfl
   ·exact af ⟨(),⟨by simp [gv,hc,hd],hc⟩,eL⟩
 ·rintro _ ⟨he,hc⟩;refine bc [.ret (C1 b)] rfl ⟨Wc b (tk b) (Qx b a hc),trivial⟩<|ab (fh (.inr rfl) (.many zq ⟨.tmp ?_ ?_,.tmp ?_ rfl,trivial⟩))
  ·rw[he];rfl
  ·rw[he];rfl
  ·rw[he];rfl
end Go.Px
