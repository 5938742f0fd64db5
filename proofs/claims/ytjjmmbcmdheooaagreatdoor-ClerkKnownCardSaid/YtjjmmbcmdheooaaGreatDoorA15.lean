/- Part 15 of the proof of a statement of this seat (a logic of pure contracts; the functions; their contracts). No conditions. -/
import Derived.Test.YtjjmmbcmdheooaaGreatDoorA14
open And renaming intro->bx
open Bool renaming and_eq_true->b1,or_eq_true->b6,or_false->dn
open ByteArray renaming size->er
open Classical renaming not_not->ej
open Go.Lib renaming countB->c8,count_miss->de,splitK->dk,index->ea,splitB->ec,count->en
open Go.Proofs.Tryz renaming prog->ad
open Go.RowKit.Below renaming refl->ek
open Go.Value renaming string->bt
open Int renaming toNat_natCast->b0
open List renaming getElem?_eq_some_iff->an,length_map->ap,getElem?_map->az,mem_of_getElem?->a6,mem_iff_getElem?->a7,mem_range->a8,length_cons->bi,mem_map->bk,getElem?_range->bm,take_of_length_le->bs,mem_singleton->bA,getElem?_append_left->bI,map_map->b4,take_succ_cons->b7,length_append->b8,pairwise_map->b9,take_add_one->cb,all_eq_true->cr,cons_append->cA,length_take->cB,mem_flatMap->cD,isPrefixOf->cR,map_append->c7,replicate->dl,mem_cons->ds
open List.Pairwise renaming imp->bn
open Nat renaming le_refl->be
open Option.some renaming injEq->cc
namespace Go.Px
open Go.Proofs
theorem P8 (n lo hi:Int):Ev ad 200 [I n,.pi [I lo],.pi [I hi]] (B (decide (n<lo)||decide (n>hi))):=by
 refine ak ag3.ok<|aC rfl ?_;by_cases h:n<lo
 ·refine uk [(8,true)] [] rfl (by simp [h])<|ab (aB ?_);show B _=B _;simp [h]
 ·refine uk [(8,false)] [] rfl (by simp [h])<|ab (aB ?_);show B _=B _;simp [h]
theorem lf (lo hi:Int)(l:List Int):Ev ad 127 [I lo,I hi,ints l] (B (ah lo hi l)):=by refine ak aeo.ok<|bc [.bW,.bW] rfl ⟨⟨rfl,rfl⟩,⟨rfl,rfl⟩,trivial⟩<|bc [.ret (B (ah lo hi l))] rfl ⟨jg l _ _ _ (λn _=>P8 n lo hi),trivial⟩<|ab (aB ?_);rfl
abbrev nU.enc (x:nU):List AV:=[I x.nu,I x.wo,I x.fa,I x.ma]
abbrev V5.enc (x:V5):List AV:=[I x.J3,I x.th]
abbrev ky (l:List nU):AV:=.sl 4 (l.map nU.enc)
abbrev MP (l:List V5):AV:=.sl 2 (l.map V5.enc)
abbrev lH.enc (c:lH):List AV:=[I c.wo,I c.fa,strs c.pe,I c.la,ky c.co,MP c.ru]
structure lH.wf (c:lH):Prop where
 pe: ∀x∈c.pe,x.length<=9223372036854775807
 pn:c.pe.length<=9223372036854775807
 cn:c.co.length<=9223372036854775807
 rn:c.ru.length<=9223372036854775807
abbrev ZA:=List UInt8
theorem Qs (l:List nU)(g:Nat)(a:List AV)(f:Nat->Int)(e:l.length<=9223372036854775807)(h: ∀(i:Nat) (x:nU),l[i]? =some x->Ev ad g (I i::.agg x.enc::a) (I (f i))):
  Ev ad 130 [ky l,.fn (.func g) [] a] (.bZ [I (aA f l.length 0).1,I (aA f l.length 0).2]):=by
 refine ak aco.ok<|aC rfl<|aa (aa ?_)
 refine cC rfl<|ae (ao (l:=[(1,.fn (.func g) [] a),(9,ky l),(10,I l.length),(11,I (0:Nat))]) ⟨rfl,rfl,by show I _=I _;simp,rfl,trivial⟩)<|ua (.fn (.func g) [] a) (ky l) l.length f e rfl rfl (λk hk C Q K=>?_) (λenv c d=>?_) (λb=>?_)
 ·obtain⟨x,hx⟩:=aL hk
  refine bc [.cells x.enc,.aI] rfl ⟨⟨zz,by simp [hx]⟩,rfl,⟨rfl,rfl,rfl,zq⟩,trivial⟩<|bc [.ret (I (f k))] rfl ⟨h k x hx,trivial⟩<|ae ?_ K
  exact eL
 ·exact fh (.inr rfl) (.many zq ⟨.tmp c rfl,.tmp d rfl,trivial⟩)
 ·refine aC rfl<|ab (dm ?_ ?_)
  ·rw[b];rfl
  ·rw[b];rfl
theorem PR (l:List V5)(g:Nat)(a:List AV)(f:Nat->Int)(e:l.length<=9223372036854775807)(h: ∀(i:Nat) (x:V5),l[i]? =some x->Ev ad g (I i::.agg x.enc::a) (I (f i))):
  Ev ad 132 [MP l,.fn (.func g) [] a] (.bZ [I (aA f l.length 0).1,I (aA f l.length 0).2]):=by
 refine ak af7.ok<|aC rfl<|aa (aa ?_)
 refine cC rfl<|ae (ao (l:=[(1,.fn (.func g) [] a),(9,MP l),(10,I l.length),(11,I (0:Nat))]) ⟨rfl,rfl,by show I _=I _;simp,rfl,trivial⟩)<|ua (.fn (.func g) [] a) (MP l) l.length f e rfl rfl (λk hk C Q K=>?_) (λenv c d=>?_) (λb=>?_)
 ·obtain⟨x,hx⟩:=aL hk
  refine bc [.cells x.enc,.aI] rfl ⟨⟨zz,by simp [hx]⟩,rfl,⟨rfl,rfl,rfl,zq⟩,trivial⟩<|bc [.ret (I (f k))] rfl ⟨h k x hx,trivial⟩<|ae ?_ K
  exact eL
 ·exact fh (.inr rfl) (.many zq ⟨.tmp c rfl,.tmp d rfl,trivial⟩)
 ·refine aC rfl<|ab (dm ?_ ?_)
  ·rw[b];rfl
  ·rw[b];rfl
theorem O4 (l:List ZA)(g:Nat)(a:List AV)(f:Nat->Int)(e:l.length<=9223372036854775807)(h: ∀(i:Nat) (x:ZA),l[i]? =some x->Ev ad g (I i::bg x::a) (I (f i))):
  Ev ad 128 [strs l,.fn (.func g) [] a] (.bZ [I (aA f l.length 0).1,I (aA f l.length 0).2]):=by
 refine ak afq.ok<|aC rfl<|aa (aa ?_)
 refine cC rfl<|ae (ao (l:=[(1,.fn (.func g) [] a),(9,strs l),(10,I l.length),(11,I (0:Nat))]) ⟨rfl,rfl,by show I _=I _;simp,rfl,trivial⟩)<|ua (.fn (.func g) [] a) (strs l) l.length f e rfl rfl (λk hk C Q K=>?_) (λenv c d=>?_) (λb=>?_)
 ·obtain⟨x,hx⟩:=aL hk
  refine bc [.cells [bg x]] rfl ⟨⟨zz,by simp [hx]⟩,trivial⟩<|bc [.ret (I (f k))] rfl ⟨h k x hx,trivial⟩<|ae ?_ K
  exact eL
 ·exact fh (.inr rfl) (.many zq ⟨.tmp c rfl,.tmp d rfl,trivial⟩)
 ·refine aC rfl<|ab (dm ?_ ?_)
  ·rw[b];rfl
  ·rw[b];rfl
theorem Hm (n lo hi:Int):Ev ad 195 [I n,.pi [I lo],.pi [I hi]] (B (decide (n<lo)||decide (n>hi))):=by
 refine ak adH.ok<|aC rfl ?_;by_cases h:n<lo
 ·refine uk [(8,true)] [] rfl (by simp [h])<|ab (aB ?_);show B _=B _;simp [h]
 ·refine uk [(8,false)] [] rfl (by simp [h])<|ab (aB ?_);show B _=B _;simp [h]
theorem jY (lo hi:Int)(l:List Int):Ev ad 109 [I lo,I hi,ints l] (B (ah lo hi l)):=by refine ak adm.ok<|bc [.bW,.bW] rfl ⟨⟨rfl,rfl⟩,⟨rfl,rfl⟩,trivial⟩<|bc [.ret (B (ah lo hi l))] rfl ⟨jg l _ _ _ (λn _=>Hm n lo hi),trivial⟩<|ab (aB ?_);rfl
abbrev ie (lg:Nat)(lc:List AV)(least:Int)(x:qh):List AV:=[bg x.nm,ints x.ed,.fn (.func lg) [] lc,I least]
section
variable (lg:Nat) (lc:List AV) (least:Int) (l:List qh)
theorem No (g:Nat)(a:List AV)(p:qh->Bool)(h: ∀x∈l,Ev ad g (.agg (ie lg lc least x)::a) (B (p x))):Ev ad 270 [.sl 4 (l.map (ie lg lc least)),.fn (.func g) [] a] (I (bD p l 0)):=by refine tU ac4.ok (ie lg lc least) 4 l p _ rfl (λk x hx C Q K=>?_);refine bc [.cells (ie lg lc least x),.ret (B (p x))] rfl ⟨⟨zz,by simp [hx]⟩,h x (a6 hx),trivial⟩<|ae ?_ K;exact eL
theorem Gk (g:Nat)(a:List AV)(f:Nat->Int)(h: ∀(i:Nat) (x:qh),l[i]? =some x->Ev ad g (I i::.agg (ie lg lc least x)::a) (I (f i))):
  Ev ad 111 [.sl 4 (l.map (ie lg lc least)),.fn (.func g) [] a] (.bZ [I (aA f l.length 0).1,I (aA f l.length 0).2]):=by
 refine ak aeK.ok<|cH 0 rfl λha=>?_
 simp only[ap]at ha
 refine aC rfl<|aa<|aC rfl<|ae (ao (l:=[(1,.fn (.func g) [] a),(9,.sl 4 (l.map (ie lg lc least))),(10,I l.length),(11,I (0:Nat))]) ⟨rfl,rfl,by show I _=I _;simp,rfl,trivial⟩)<|ua (.fn (.func g) [] a) (.sl 4 (l.map (ie lg lc least))) l.length f zz rfl rfl (λk hk C Q K=>?_) (λenv c d=>?_) (λb=>?_)
 ·obtain⟨x,hx⟩:=aL hk
  refine bc [.cells (ie lg lc least x),.aI] rfl ⟨⟨zz,by simp [hx]⟩,rfl,⟨rfl,rfl,rfl,zq⟩,trivial⟩<|bc [.ret (I (f k))] rfl ⟨h k x hx,trivial⟩<|ae ?_ K
  exact eL
 ·exact fh (.inr rfl) (.many zq ⟨.tmp c rfl,.tmp d rfl,trivial⟩)
 ·refine aC rfl<|ab (dm ?_ ?_)
  ·rw[b];rfl
  ·rw[b];rfl
theorem Sk (x y:qh):Ev ad 197 [.agg (ie lg lc least y),.pi (ie lg lc least x)] (B (y.nm==x.nm)):=by refine ak agE.ok<|bc [.bW] rfl ⟨⟨rfl,rfl⟩,trivial⟩<|aC rfl<|ab (aB ?_);show B _=B _;simp
theorem MG (i:Nat)(x:qh)(hx:l[i]? =some x)(a:Nat->Bool)(d:Ev ad lg (I x.ed.length::lc) (B (a x.ed.length)))(j:x.nm.length<=9223372036854775807):
  Ev ad 113 [.sl 4 (l.map (ie lg lc least)),I i] (I (eR a least l i)):=by
 have p:=(an.1 hx).1
 have c:eR a least l i=if fl x.nm=false then 6 else if (l.take i).any (λy=>y.nm==x.nm)=true then 5 else if a x.ed.length=true then 3 else if ah least 9 x.ed=true then 7 else 0:=by
  unfold eR;rw[hx]
 have g:=tZ x.nm j
 have e:=vV aeC.ok (l.take i) (λy=>y.nm==x.nm) (No lg lc least (l.take i) 197 [.pi (ie lg lc least x)] (λy=>y.nm==x.nm) (λy _=>Sk lg lc least x y))
 have f:=jY least 9 x.ed
 generalize fl x.nm=k at c g
 generalize (l.take i).any (λy=>y.nm==x.nm)=b2 at c e
 generalize a x.ed.length=m at c d
 generalize ah least 9 x.ed=o at c f
 refine ak adB.ok<|aC rfl<|bc [.cells (ie lg lc least x),.aI] rfl ⟨⟨zz,by simp [hx]⟩,rfl,⟨rfl,rfl,rfl,zq⟩,trivial⟩<|ae (aq (t:=5) rfl)<|cX (eR a least l i=0) (el []) [] [] ?_ ?_
 ·refine bc [.ret (B k)] rfl ⟨g,trivial⟩ ?_
  cases k with
  |false=>
   rw[if_pos rfl]at c
   refine ax rfl rfl<|aC rfl<|ab (aB ?_)
   rw[c];rfl
  |true=>
   rw[if_neg zq]at c
   refine cJ rfl rfl<|bc [.wC [.sl 4 ((l.take i).map (ie lg lc least)),.fn (.func 197) [] [.pi (ie lg lc least x)]] (B b2)] rfl ⟨⟨⟨trivial,zz⟩,zj,by simp;omega⟩,⟨e,fL (by rw[List.map_take];rfl)⟩,trivial⟩ ?_
   cases b2 with
   |true=>
    rw[if_pos rfl]at c
    refine ax rfl rfl<|aC rfl<|ab (aB ?_)
    rw[c];rfl
   |false=>
    rw[if_neg zq]at c
    refine cJ rfl rfl ?_
    have hl:((x.ed.map λn=>[I n]).length:Int)=x.ed.length:=zj
    refine bc [.ret (B m)] rfl ⟨hl▸d,trivial⟩ ?_
    cases m with
    |true=>
     rw[if_pos rfl]at c
     refine ax rfl rfl<|aC rfl<|ab (aB ?_)
     rw[c];rfl
    |false=>
     rw[if_neg zq]at c
     refine cJ rfl rfl<|bc [.ret (B o)] rfl ⟨f,trivial⟩ ?_
     cases o with
     |true=>
      rw[if_pos rfl]at c
      refine ax rfl rfl<|aC rfl<|ab (aB ?_)
      rw[c];rfl
     |false=>
      rw[if_neg zq]at c
      refine ag (b:=false) rfl (λh=>by cases h) (λ_=>af ⟨(),c,ao trivial⟩)
 ·intro _ h
  refine aC rfl<|ab (aB ?_)
  rw[h];rfl
end
abbrev qh.enc (x:qh):List AV:=[bg x.nm,ints x.ed]
abbrev lE (l:List qh):AV:=.sl 2 (l.map qh.enc)
abbrev kK.enc (d:kK):List AV:=[I d.st,I d.le,I d.we,lE d.cs,lE d.hs]
structure kK.wf (d:kK):Prop where
 st0: -9223372036854775808<=d.st
 st1:d.st<=9223372036854775807
 le0: -9223372036854775808<=d.le
 le1:d.le<=9223372036854775807
 cs: ∀x∈d.cs,x.nm.length<=9223372036854775807
 hs: ∀x∈d.hs,x.nm.length<=9223372036854775807
theorem Jx (d:kK)(n:Nat):Ev ad 110 [I n,.pi d.enc] (B (pP d n)):=by refine ak aeZ.ok<|aC rfl<|aC rfl<|ab (aB ?_);rfl
theorem K1 (d:kK)(n:Nat):Ev ad 114 [I n,.pi d.enc] (B (pY d n)):=by refine ak agj.ok<|aC rfl<|bc [.bW,.ret (B (pY d n))] rfl ⟨rfl,jY d.le d.st [(n:Int)],trivial⟩<|ab (aB ?_);rfl
theorem IQ {d:Nat}{lc:List AV}{a:Int}{l:List qh}{i:Nat}{x:qh}{b:Nat->Bool}(hx:l[i]? =some x)(c:Ev ad d (I x.ed.length::lc) (B (b x.ed.length)))(e:x.nm.length<=9223372036854775807):
  Ev ad 112 [I i,.agg (ie d lc a x),.pi [.sl 4 (l.map (ie d lc a))]] (I (eR b a l i)):=by
 refine ak adn.ok<|bc [.bW] rfl ⟨⟨rfl,rfl⟩,trivial⟩<|bc [.ret (I (eR b a l i))] rfl ⟨MG d lc a l i x hx b c e,trivial⟩<|ab (aB ?_)
 rfl
theorem Kc {d:Nat}{lc:List AV}{a:Int}{l:List qh}{i:Nat}{x:qh}{b:Nat->Bool}(hx:l[i]? =some x)(c:Ev ad d (I x.ed.length::lc) (B (b x.ed.length)))(e:x.nm.length<=9223372036854775807):
  Ev ad 115 [I i,.agg (ie d lc a x),.pi [.sl 4 (l.map (ie d lc a))]] (I (eR b a l i)):=by
 refine ak afa.ok<|bc [.bW] rfl ⟨⟨rfl,rfl⟩,trivial⟩<|bc [.ret (I (eR b a l i))] rfl ⟨MG d lc a l i x hx b c e,trivial⟩<|ab (aB ?_)
 rfl
abbrev ME (b5:Nat)(b:Nat)(lc:List AV)(a:Int)(l:List qh)(y:Option (Nat×Nat)):Heap:=[(b5,.cells 208 [yt y l.length])]++xg y 210 4 (l.map (ie b lc a))
theorem DF (d:kK)(s:d.wf):Ev ad 57 [.agg d.enc] (.bZ [I (dH d).1,I (dH d).2.1,I (dH d).2.2]):=by
 have F:((d.cs.map qh.enc).length:Int)=d.cs.length:=zj
 have G:((d.hs.map qh.enc).length:Int)=d.hs.length:=zj
 have res: ∀{Q:cI} {env:Env} {H:Heap} {x y r:Int},(∀env H,pD ad [.tmp 2,.tmp 3,.tmp 4] (.bZ [I (dH d).1,I (dH d).2.1,I (dH d).2.2]) .ret env H []->Q .ret env H [])->dH d=(x,y,r)->env 2=I x->env 3=I y->env 4=I r->Q .ret env H []:=by intro Q env H x y r C h z A h4;refine C _ _ ?_;rw[h];exact fh (.inr rfl) (.many zq ⟨.tmp z rfl,.tmp A rfl,.tmp h4 rfl,trivial⟩)
 have a:dH d=if (ah 1 6 [d.st]||ah 1 d.st [d.le]||ah 0 9 [d.we])=true then(1,0,7)
  else if 4<d.cs.length then(2,0,3)
  else if (aA (eR (pP d) 0 d.cs) d.cs.length 0).2≠0 then(2,(aA (eR (pP d) 0 d.cs) d.cs.length 0).1,(aA (eR (pP d) 0 d.cs) d.cs.length 0).2)
  else if 4<d.hs.length then(3,0,3)
  else if (aA (eR (pY d) (-1) d.hs) d.hs.length 0).2≠0 then(3,(aA (eR (pY d) (-1) d.hs) d.hs.length 0).1,(aA (eR (pY d) (-1) d.hs) d.hs.length 0).2)
  else(0,0,0):=rfl
 have n:=jY 1 6 [d.st];have o:=jY 1 d.st [d.le];have q:=jY 0 9 [d.we]
 have f1:=Gk 110 [.pi d.enc] 0 d.cs 112 [.pi [.sl 4 (d.cs.map (ie 110 [.pi d.enc] 0))]] (eR (pP d) 0 d.cs)
  (λi x hx=>IQ hx (Jx d _) (s.cs x (a6 hx)))
 have f2:=Gk 114 [.pi d.enc] (-1) d.hs 115 [.pi [.sl 4 (d.hs.map (ie 114 [.pi d.enc] (-1)))]] (eR (pY d) (-1) d.hs)
  (λi x hx=>Kc hx (K1 d _) (s.hs x (a6 hx)))
 generalize ah 1 6 [d.st]=m at n a;generalize ah 1 d.st [d.le]=b2 at o a;generalize ah 0 9 [d.we]=b3 at q a;generalize (aA (eR (pP d) 0 d.cs) d.cs.length 0).1=J at f1 a;generalize (aA (eR (pP d) 0 d.cs) d.cs.length 0).2=u at f1 a;generalize (aA (eR (pY d) (-1) d.hs) d.hs.length 0).1=n1 at f2 a;generalize (aA (eR (pY d) (-1) d.hs) d.hs.length 0).2=w at f2 a;refine ak S57.ok<|bc [.bW] rfl ⟨⟨rfl,rfl⟩,trivial⟩<|cX ((m||b2||b3)=false/\d.cs.length<=4) (el [(1,.pi d.enc)]) [] [] ?_ ?_
 ·refine dZ True (el [(1,.pi d.enc),(10,B (m||b2||b3))]) [] [] ?_ ?_
  ·cases m with
   |true=>refine js [(15,true),(23,true)] [.bW,.ret (B true)] rfl (by(repeat' (with_reducible apply bx));(all_goals first|exact zk _|((first|rfl|exact n)))) ?_;exact⟨(),trivial,eL⟩
   |false=>
    cases b2 with
    |true=>refine js [(15,false),(23,true)] [.bW,.ret (B false),.bW,.ret (B true)] rfl (by(repeat' (with_reducible apply bx));(all_goals first|exact zk _|((first|rfl|exact n|exact o)))) ?_;exact⟨(),trivial,eL⟩
    |false=>refine js [(15,false),(23,false)] [.bW,.ret (B false),.bW,.ret (B false),.bW,.ret (B b3)] rfl (by(repeat' (with_reducible apply bx));(all_goals first|exact zk _|((first|rfl|exact n|exact o|exact q)))) ?_;exact⟨(),trivial,eL⟩
  ·intro _ _;generalize (m||b2||b3)=bb at a;cases bb with
   |true=>rw[if_pos rfl]at a;refine ax rfl rfl<|aC rfl ?_;exact ab (res (λ_ _ h=>h) a rfl rfl rfl)
   |false=>
    rw[if_neg zq]at a;refine cJ rfl rfl<|aC rfl ?_;by_cases h4:4<d.cs.length
    ·rw[if_pos h4]at a;refine ax rfl (by rw[decide_eq_true_iff];omega)<|aC rfl ?_;exact ab (res (λ_ _ h=>h) a rfl rfl rfl)
    ·exact aD rfl (by rw[decide_eq_false_iff_not];omega) ⟨(),⟨rfl,zz⟩,eL⟩
 rintro _ ⟨D,E⟩;rw[D,if_neg zq,if_neg zz]at a;refine bc [.aI] rfl ⟨rfl,trivial⟩<|bM (t:=5) rfl λb5=>aa (aa ?_);refine cC rfl<|aJ.gK (Y:=Option (Nat×Nat)) (λy=>y=none->d.cs=[]) (λ_=>el [(1,.pi d.enc),(5,.po b5 0)]) (λy=>ME b5 110 [.pi d.enc] (0) d.cs y) (λ_=>[]) ?_ ?_
 ·refine br (X:=Nat×Option (Nat×Nat)) (λx=>x.1<=d.cs.length/\(x.2=none->d.cs.take x.1=[])) (λx=>el [(1,.pi d.enc),(5,.po b5 0),(35,lE d.cs),(36,I d.cs.length),(37,I x.1)])
   (λx=>ME b5 110 [.pi d.enc] (0) (d.cs.take x.1) x.2) (λ_=>[]) (λx=>d.cs.length-x.1) (0,none) ⟨zj,λ_=>rfl⟩ (ao ⟨rfl,rfl,rfl,by show I _=I _;simp,rfl,trivial⟩) ?_
  rintro⟨k,y⟩ ⟨hk,hy⟩;simp only at hk hy ⊢;refine aC rfl<|aa (ag rfl (λhc=>?_) (λhc=>?_))
  ·simp only[nL]at hc;obtain⟨x,hx⟩:=aL hc;have f:d.cs.take (k+1)=d.cs.take k++[x]:=by rw[cb,hx];rfl
   have c:(d.cs.take k).length=k:=by rw[cB];omega
   refine af (aa (au ?_));refine bc [.cells x.enc,.aI] rfl ⟨⟨zz,by simp [hx]⟩,rfl,⟨rfl,rfl,rfl,zq⟩,trivial⟩<|ae (aq (t:=7) rfl)<|av<|lz [.at 0] 1 rfl rfl ⟨rfl,trivial⟩<|aG (bB.Mx (t:=41) (H:=[(b5,.cells 208 [yt y (d.cs.take k).length])]) rfl zj (λe=>by rw[hy e];rfl)) ?_;have p:((d.cs.take k).map (ie 110 [.pi d.enc] (0))).length=k:=by rw[ap,c]
   refine lz [.bW] 8 rfl rfl ⟨rfl,⟨by show (((d.cs.take k).map (ie 110 [.pi d.enc] (0))).length+1)*56<=_;omega,by show ((d.cs.take k).map (ie 110 [.pi d.enc] (0))).length+1<=_;omega⟩,trivial⟩<|aT.Qw (t:=49) (es:=(d.cs.take (k+1)).map (ie 110 [.pi d.enc] (0))) (by rw[f,c7];rfl) (λl g=>?_);refine ai (aZ (i:=0) rfl rfl rfl rfl rfl rfl (by show 1<=1;decide) ?_);refine bh<|dS rfl ⟨zz,trivial⟩ ?_;refine⟨(k+1,l),⟨by simp only;omega,λe=>by simpa using g e⟩,by simp only;omega,aj (ar ?_) eL⟩;show [(b5,cP.cells _ [yt l ((d.cs.take (k+1)).map (ie 110 [.pi d.enc] (0))).length])]++_=_;rw[ap]
  ·simp only[nL]at hc;rw[bs zz]at hy ⊢;exact ay ⟨y,hy,eL⟩
 ·intro y hy;refine ae (bB.Ma (H:=[(b5,.cells 208 [yt y d.cs.length])]) (j:=0) [] [] rfl rfl zj (λe=>by rw[hy e];rfl))<|ae (ar (H':=[(b5,.cells 208 [.sl 4 (d.cs.map (ie 110 [.pi d.enc] 0))])]) rfl) ?_;clear hy y;refine aa (aa ?_);refine iO [.at 0,.Fq [.sl 4 (d.cs.map (ie 110 [.pi d.enc] 0)),.fn (.func 112) [] [.pi [.sl 4 (d.cs.map (ie 110 [.pi d.enc] 0))]]] (.bZ [I J,I u])] rfl ⟨rfl,⟨f1,rfl,.refl _,.fn ⟨.po (i:=0) rfl,trivial⟩,trivial⟩,trivial⟩<|aa<|cC rfl ?_;by_cases b:u=0
  case neg=>rw[if_pos b]at a;refine ax rfl zx<|aC rfl ?_;exact ab (res (λ_ _ h=>h) a rfl rfl rfl)
  rw[if_neg (by simp [b])]at a;refine aD rfl (by rw[b];rfl)<|aa (aa ?_);refine cC rfl ?_;by_cases h4:4<d.hs.length
  ·rw[if_pos h4]at a;refine ax rfl (by rw[decide_eq_true_iff];omega)<|aC rfl ?_;exact ab (res (λ_ _ h=>h) a rfl rfl rfl)
  rw[if_neg h4]at a;refine aD rfl zx<|lV [.gI 0] rfl ⟨⟨rfl,rfl,rfl,rfl,be 1⟩,trivial⟩<|aa (aa ?_);refine cC rfl<|ae (aj (ar (H':=[(b5,.cells 208 [.nil])]) rfl) (cx (j:=0) [.v (.slice none 0 0)] rfl ⟨(λS v h=>by simp only[aR]at h ⊢;exact h),trivial⟩))<|aJ.gK (Y:=Option (Nat×Nat)) (λy=>y=none->d.hs=[]) (λ_=>el [(1,.pi d.enc),(5,.po b5 0)]) (λy=>ME b5 114 [.pi d.enc] (-1) d.hs y) (λ_=>[]) ?_ ?_
  ·refine br (X:=Nat×Option (Nat×Nat)) (λx=>x.1<=d.hs.length/\(x.2=none->d.hs.take x.1=[])) (λx=>el [(1,.pi d.enc),(5,.po b5 0),(66,lE d.hs),(67,I d.hs.length),(68,I x.1)])
    (λx=>ME b5 114 [.pi d.enc] (-1) (d.hs.take x.1) x.2) (λ_=>[]) (λx=>d.hs.length-x.1) (0,none) ⟨zj,λ_=>rfl⟩ (ao ⟨rfl,rfl,rfl,by show I _=I _;simp,rfl,trivial⟩) ?_
   rintro⟨k,y⟩ ⟨hk,hy⟩;simp only at hk hy ⊢;refine aC rfl<|aa (ag rfl (λhc=>?_) (λhc=>?_))
   ·simp only[nL]at hc;obtain⟨x,hx⟩:=aL hc;have f:d.hs.take (k+1)=d.hs.take k++[x]:=by rw[cb,hx];rfl
    have c:(d.hs.take k).length=k:=by rw[cB];omega
    refine af (aa (au ?_));refine bc [.cells x.enc,.aI] rfl ⟨⟨zz,by simp [hx]⟩,rfl,⟨rfl,rfl,rfl,zq⟩,trivial⟩<|ae (aq (t:=9) rfl)<|av<|lz [.at 0] 1 rfl rfl ⟨rfl,trivial⟩<|aG (bB.Mx (t:=72) (H:=[(b5,.cells 208 [yt y (d.hs.take k).length])]) rfl zj (λe=>by rw[hy e];rfl)) ?_;have p:((d.hs.take k).map (ie 114 [.pi d.enc] (-1))).length=k:=by rw[ap,c]
    refine lz [.bW] 8 rfl rfl ⟨rfl,⟨by show (((d.hs.take k).map (ie 114 [.pi d.enc] (-1))).length+1)*56<=_;omega,by show ((d.hs.take k).map (ie 114 [.pi d.enc] (-1))).length+1<=_;omega⟩,trivial⟩<|aT.Qw (t:=80) (es:=(d.hs.take (k+1)).map (ie 114 [.pi d.enc] (-1))) (by rw[f,c7];rfl) (λl g=>?_);refine ai (aZ (i:=0) rfl rfl rfl rfl rfl rfl (by show 1<=1;decide) ?_);refine bh<|dS rfl ⟨zz,trivial⟩ ?_;refine⟨(k+1,l),⟨by simp only;omega,λe=>by simpa using g e⟩,by simp only;omega,aj (ar ?_) eL⟩;show [(b5,cP.cells _ [yt l ((d.hs.take (k+1)).map (ie 114 [.pi d.enc] (-1))).length])]++_=_;rw[ap]
   ·simp only[nL]at hc;rw[bs zz]at hy ⊢;exact ay ⟨y,hy,eL⟩
  ·intro y hy;refine ae (bB.Ma (H:=[(b5,.cells 208 [yt y d.hs.length])]) (j:=0) [] [] rfl rfl zj (λe=>by rw[hy e];rfl))<|ae (ar (H':=[(b5,.cells 208 [.sl 4 (d.hs.map (ie 114 [.pi d.enc] (-1)))])]) rfl) ?_;clear hy y;refine aa (aa ?_);refine iO [.at 0,.Fq [.sl 4 (d.hs.map (ie 114 [.pi d.enc] (-1))),.fn (.func 115) [] [.pi [.sl 4 (d.hs.map (ie 114 [.pi d.enc] (-1)))]]] (.bZ [I n1,I w])] rfl ⟨rfl,⟨f2,rfl,.refl _,.fn ⟨.po (i:=0) rfl,trivial⟩,trivial⟩,trivial⟩<|aa<|cC rfl ?_;by_cases b:w=0
   case neg=>rw[if_pos b]at a;refine ax rfl (by rw[bne_iff_ne];exact b)<|aC rfl ?_;exact ab (res (λ_ _ h=>h) a rfl rfl rfl)
   rw[if_neg (by simp [b])]at a;refine aD rfl (by rw[b];rfl)<|aC rfl ?_;exact ab (res (λ_ _ h=>h) a rfl rfl rfl)
abbrev Wd:=List UInt8
def pB (s w:Wd):Bool:=decide (s=[])||decide (s=w)
def Ek (f:List Wd->Nat)(w:Wd):List Wd->Nat
 |[]=>f []+1
 |s::ss=>if pB s w=true then min (f ss) (min (1+f (s::ss)) (1+Ek f w ss))else min (1+f ss) (min (1+f (s::ss)) (1+Ek f w ss))
def nr:List Wd->List Wd->Nat
 |[],ss=>ss.length
 |w::ws,ss=>Ek (nr ws) w ss
theorem E3 (ws:List Wd):nr ws []=ws.length:=by
 induction ws with
 |nil=>rfl
 |cons w ws a=>simp only[nr,Ek,a,bi]
theorem G2 (w:Wd)(ws:List Wd)(s:Wd)(ss:List Wd):nr (w::ws) (s::ss)=if pB s w=true then min (nr ws ss) (min (1+nr ws (s::ss)) (1+nr (w::ws) ss))else min (1+nr ws ss) (min (1+nr ws (s::ss)) (1+nr (w::ws) ss)):=rfl
theorem Qi (w:Wd)(ws ss:List Wd):nr (w::ws) ss<=nr ws ss+1:=by
 cases ss with
 |nil=>simp [E3]
 |cons s ss=>rw[G2];split<;>omega
def xA:List Wd->List Wd->Bool
 |[],[]=>true
 |s::ss,w::ws=>pB s w&&xA ss ws
 |_,_=>false
theorem AY: ∀{ss ws:List Wd},xA ss ws=true->ss.length=ws.length
 |[],[],_=>rfl
 |_::ss,_::ws,h=>by
  simp only[xA,b1]at h
  simp [AY h.2]
def fI:List Wd->List Wd->Nat
 |[],[]=>4
 |[],_::_=>3
 |_::_,[]=>2
 |w::ws,s::ss=>
  if pB s w=true then(if nr ws ss<=1+nr ws (s::ss)/\nr ws ss<=1+nr (w::ws) ss then 0 else if nr ws (s::ss)<=nr (w::ws) ss then 2 else 3)
  else(if nr ws ss<=nr ws (s::ss)/\nr ws ss<=nr (w::ws) ss then 1 else if nr ws (s::ss)<=nr (w::ws) ss then 2 else 3)
def rL (s:Wd):Bool:=(decide (1<=s.length)&&decide (s.length<=8))&&s.all λc=>decide (97<=c.toNat)&&decide (c.toNat<=122)
def jb (l:List Wd):Bool:=l.all rL
def cG (l:List Wd):Int:=if 15<l.length then 3 else if jb l=true then 0 else 6
theorem kE {l:List Wd}:cG l=0↔l.length<=15/\jb l=true:=by grind [cG,jb]
structure Mark where
 k:Int
 w:Wd
 deriving DecidableEq
def lW:Nat->List Wd->List Wd->List Mark
 |0,_,_=>[]
 |f+1,ws,ss=>
  if fI ws ss=0 then⟨0,[]⟩::lW f ws.tail ss.tail
  else if fI ws ss=1 then⟨1,ss.headD []⟩::lW f ws.tail ss.tail
  else if fI ws ss=2 then⟨2,[]⟩::lW f ws.tail ss
  else if fI ws ss=3 then⟨3,ss.headD []⟩::lW f ws ss.tail
  else[]
def jR (a b:List Wd):Int:=if cG a=0 then cG b else cG a
def iF (a b:List Wd):List Mark×Int×Int:=if jR a b=0 then(lW (a.length+b.length) a b,(nr a b:Nat),0)else([],0,jR a b)
theorem nB {a b:List Wd}:jR a b=0↔cG a=0/\cG b=0:=by grind [jR,cG]
structure Part where
 words:List Wd
 lo:Int
 hi:Int
 deriving DecidableEq
structure Form where
 name:Wd
 parts:List Part
 deriving DecidableEq
structure Shelf where
 w:Int
 bH:List Form
 deriving DecidableEq
def Part.roomy (p:Part):Bool:=decide (p.words=[])
def bl (ps:List Part):List (Int×Int):=(ps.filter Part.roomy).map λp=>(p.lo,p.hi)
def upto (lo hi:Int):List Nat:=(List.range (hi+1-lo).toNat).map λk=>lo.toNat+k
def jc:List (Int×Int)->List (List Nat)
 |[]=>[[]]
 |r::rs=>(upto r.1 r.2).flatMap λn=>(jc rs).map (n:: ·)
def qM (n:Nat):List Wd:=dl n []
def eW:List Part->List Nat->List Wd
 |[],_=>[]
 |p::ps,ms=>if p.roomy=true then qM (ms.headD 0)++eW ps ms.tail else p.words++eW ps ms
def si:List Part->List (List Wd)->List Wd
 |[],_=>[]
 |p::ps,a=>if p.roomy=true then a.headD []++si ps a.tail else p.words++si ps a
def jN:List Part->List Nat->List Wd->List (List Wd)
 |[],_,_=>[]
 |p::ps,ms,l=>if p.roomy=true then l.take (ms.headD 0)::jN ps ms.tail (l.drop (ms.headD 0))else jN ps ms (l.drop p.words.length)
def mD (ps:List Part)(l:List Wd):List (List Nat):=(jc (bl ps)).filter λm=>xA (eW ps m) l
theorem Gn {lo hi:Int}(h:0<=lo){n:Nat}:n∈upto lo hi↔lo<=n/\(n:Int)<=hi:=by
 unfold upto;simp;constructor
 ·grind
 ·rintro⟨a,b⟩;exact⟨n-lo.toNat,zz,zz⟩
theorem Hk (lo hi:Int):(upto lo hi).Pairwise (·< ·):=by unfold upto;rw[b9];exact bn (λh=>zz) List.pairwise_lt_range
def InR:List (Int×Int)->List Nat->Prop
 |[],[]=>True
 |r::rs,m::ms=>(r.1<=m/\(m:Int)<=r.2)/\InR rs ms
 |_,_=>False
def RNN (rs:List (Int×Int)):Prop:= ∀r∈rs,0<=r.1
theorem GP: ∀{rs:List (Int×Int)} {ms:List Nat},RNN rs->(ms∈jc rs↔InR rs ms)
 |[],ms,_=>by
  simp only[jc,bA]
  cases ms<;>simp [InR]
 |r::rs,ms,h=>by
  have a:=h r zj
  have b:=λms=>GP (rs:=rs) (ms:=ms) (λx hx=>h x (by simp [hx]))
  simp only[jc,cD,bk]
  constructor
  ·rintro⟨n,c,m,hm,rfl⟩
   exact⟨(Gn a).1 c,(b m).1 hm⟩
  ·intro hm
   cases ms with
   |nil=>exact hm.elim
   |cons m ms=>exact⟨m,(Gn a).2 hm.1,ms,(b ms).2 hm.2,rfl⟩
def DS:List Nat->List Nat->Bool
 |_,[]=>false
 |[],_::_=>true
 |a::x,b::y=>if a=b then DS x y else decide (a<b)
theorem Hj: ∀{rs:List (Int×Int)} {ms:List Nat},ms∈jc rs->ms.length=rs.length
 |[],ms,h=>by simp only[jc,bA]at h;subst h;rfl
 |r::rs,ms,h=>by
  simp only[jc,cD,bk]at h
  obtain⟨n,_,m,hm,rfl⟩:=h
  simp [Hj hm]
theorem yN: ∀rs:List (Int×Int),(jc rs).Pairwise (λa b=>DS a b=true)
 |[]=>by simp [jc]
 |r::rs=>by
  have d:=yN rs
  simp only[jc]
  rw[List.pairwise_flatMap]
  refine⟨?_,?_⟩
  ·intro n _
   rw[b9]
   exact bn (λh=>by simp only[DS,if_true];exact h) d
  ·refine bn ?_ (Hk r.1 r.2)
   intro a b c x hx y hy
   obtain⟨e,_,rfl⟩:=bk.1 hx
   obtain⟨f,_,rfl⟩:=bk.1 hy
   simp only[DS]
   rw[if_neg zz,decide_eq_true_iff];exact c
theorem wX: ∀a:List Nat,DS a a=false
 |[]=>rfl
 |x::a=>by simp [DS,wX a]
theorem JW (rs:List (Int×Int)):(jc rs).Nodup:=bn (λ{a b} h e=>by rw[e,wX]at h;cases h) (yN rs)
theorem xU: ∀{rs:List (Int×Int)},(∀r∈rs,0<=r.1/\r.2<=3)->(jc rs).length<=4^rs.length
 |[],_=>by simp [jc]
 |r::rs,h=>by
  obtain⟨b,c⟩:=h r zj
  have a:=xU (rs:=rs) (λx hx=>h x (by simp [hx]))
  simp only[jc,List.length_flatMap,ap,List.map_const',List.sum_replicate_nat,bi]
  have:(upto r.1 r.2).length<=4:=by simp [upto];omega
  rw[Nat.pow_succ,Nat.mul_comm (4^rs.length)]
  exact Nat.mul_le_mul this a
theorem sf (p:Part)(ps:List Part):bl (p::ps)=if p.roomy=true then(p.lo,p.hi)::bl ps else bl ps:=by grind [bl]
def aV (c:UInt8):List UInt8->List (List UInt8)
 |[]=>[[]]
 |x::l=>if x=c then[]::aV c l else match aV c l with
  |[]=>[[x]]
  |w::ws=>(x::w)::ws
theorem DN (c:UInt8): ∀t,aV c t≠[]
 |[]=>by simp [aV]
 |x::l=>by
  simp only[aV]
  split
  ·simp
  ·split<;>simp
structure FR (p:Part):Prop where
 w3:p.words.length<=3
 ok:jb p.words=true
 room:(p.words≠[]/\p.lo=0/\p.hi=0)\/(p.words=[]/\0<=p.lo/\p.lo<=p.hi/\1<=p.hi/\p.hi<=3)
structure A9 (f:Form):Prop where
 p5:f.parts.length<=5
 parts: ∀p∈f.parts,FR p
theorem Kx {ps:List Part}{r:Int×Int}(h:r∈bl ps): ∃p∈ps,p.words=[]/\r=(p.lo,p.hi):=by grind [bl,Part.roomy]
theorem Bv {ps:List Part}(h: ∀p∈ps,FR p): ∀r∈bl ps,0<=r.1/\r.1<=r.2/\1<=r.2/\r.2<=3:=by
 intro r b;obtain⟨p,a,c,rfl⟩:=Kx b;rcases (h p a).room with⟨g,_⟩|⟨_,g⟩
 ·grind
 ·exact g
theorem OQ (ps:List Part):(bl ps).length<=ps.length:=by unfold bl;rw[ap];exact List.length_filter_le _ _
def sS (p:Part):Int:=
 if 3<p.words.length then 3
 else if jb p.words=true then
  (if p.words≠[]then(if p.lo=0/\p.hi=0 then 0 else 2)else if (ah 0 3 [p.lo,p.hi]||decide (p.hi=0))=true then 7 else if p.hi<p.lo then 2 else 0)
 else 6
def nR (ps:List Part)(k:Nat):Int:=match ps[k]? with|none=>0|some p=>sS p
def kN (a:List Form)(i:Nat):Int:=match a[i]? with
 |none=>0
 |some f=>if fl f.name=true then(if (a.take i).any (λx=>x.name==f.name)=true then 5 else if 5<f.parts.length then 3 else(aA (nR f.parts) f.parts.length 0).2)else 6
def eD (s:Shelf):Int×Int×Int:=
 if ah 8 30 [s.w]=true then(1,0,7)
 else if 4<s.bH.length then(2,0,3)
 else if (aA (kN s.bH) s.bH.length 0).2=0 then(0,0,0)else(2,(aA (kN s.bH) s.bH.length 0).1,(aA (kN s.bH) s.bH.length 0).2)
structure BD (s:Shelf):Prop where
 w8:8<=s.w
 w30:s.w<=30
 f4:s.bH.length<=4
 bH: ∀f∈s.bH,fl f.name=true/\A9 f
 names:(s.bH.map (·.name)).Nodup
theorem Dp {p:Part}:sS p=0↔FR p:=by
 unfold sS;by_cases e:3<p.words.length
 ·rw[if_pos e];exact⟨λh=>(by cases h),λh=>absurd h.w3 zz⟩
 rw[if_neg e];by_cases c:jb p.words=true
 case neg=>rw[if_neg c];exact⟨λh=>(by cases h),λh=>absurd h.ok c⟩
 rw[if_pos c];by_cases d:p.words≠[]
 ·rw[if_pos d];by_cases h4:p.lo=0/\p.hi=0
  ·rw[if_pos h4];exact⟨λ_=>⟨zz,c,.inl ⟨d,h4.1,h4.2⟩⟩,λ_=>rfl⟩
  ·rw[if_neg h4];refine⟨λh=>(by cases h),λh=>?_⟩;rcases h.room with⟨_,a⟩|⟨a,_⟩
   ·exact absurd a h4
   ·exact absurd a d
 ·rw[if_neg d];have b:p.words=[]:=ej.1 d;by_cases h4:(ah 0 3 [p.lo,p.hi]||decide (p.hi=0))=true
  ·rw[if_pos h4];refine⟨λh=>(by cases h),λh=>?_⟩;rcases h.room with⟨a,_⟩|⟨_,a⟩
   ·exact absurd b a
   ·exfalso;simp [ah]at h4;omega
  ·rw[if_neg h4];have g:0<=p.lo/\p.lo<=3/\0<=p.hi/\p.hi<=3/\p.hi≠0:=by simp [ah]at h4;omega
   by_cases f:p.hi<p.lo
   ·rw[if_pos f];refine⟨λh=>(by cases h),λh=>?_⟩;rcases h.room with⟨a,_⟩|⟨_,a⟩
    ·exact absurd b a
    ·omega
   ·rw[if_neg f];exact⟨λ_=>⟨zz,c,.inr ⟨b,zz,zz,zz,zz⟩⟩,λ_=>rfl⟩
theorem zh {f:Nat->Int}: ∀{m k:Nat},(aA f m k).2=0-> ∀j,k<=j->j<k+m->f j=0
 |0,k,_,j,b,c=>zz
 |m+1,k,h,j,b,c=>by
  simp only[aA]at h
  by_cases a:f k=0
  ·rw[if_pos a]at h
   by_cases e:j=k
   ·subst e;exact a
   ·exact zh h j zz zz
  ·rw[if_neg a]at h
   exact absurd h a
theorem vR {f:Nat->Int}: ∀{m k:Nat},(∀j,k<=j->j<k+m->f j=0)->(aA f m k).2=0
 |0,k,_=>rfl
 |m+1,k,h=>by
  simp only[aA]
  rw[if_pos (h k zz zz)]
  exact vR (λj a b=>h j zz zz)
theorem AG {f:Nat->Int}{m:Nat}:(aA f m 0).2=0↔ ∀j,j<m->f j=0:=
 ⟨λh j a=>zh h j zz zz,λh=>vR (λj _ a=>h j zz)⟩
theorem zE {α β:Type}[DecidableEq β](f:α->β)(l:List α):(l.map f).Nodup↔ ∀(i:Nat) (x:α),l[i]? =some x-> ∀y∈l.take i,f y≠f x:=by
 constructor
 ·intro h i x hx y hy e;obtain⟨j,a⟩:=a7.1 hy;rw[List.getElem?_take]at a;split at a
  ·rename_i k;have c:(l.map f)[j]? =some (f x):=by rw[az,a];simp [e]
   have d:(l.map f)[i]? =some (f x):=by rw[az,hx];rfl
   obtain⟨a1,b⟩:=an.1 c;obtain⟨m,b2⟩:=an.1 d;have:=(List.getElem_inj h).1 (b.trans b2.symm);omega
  ·cases a
 ·intro h;rw[List.Nodup,List.pairwise_iff_getElem];intro i j hi a g e;simp only[ap]at hi a;simp only[List.getElem_map]at e;refine h j l[j] zj l[i] ?_ e;rw[a7];exact⟨i,zx⟩
theorem II {ps:List Part}:(aA (nR ps) ps.length 0).2=0↔ ∀p∈ps,FR p:=by
 rw[AG];constructor
 ·intro h p b;obtain⟨j,a⟩:=a7.1 b;have:=h j (an.1 a).1;unfold nR at this;rw[a]at this;exact Dp.1 this
 ·intro h j a;unfold nR;have hx:ps[j]? =some ps[j]:=zj
  rw[hx];exact Dp.2 (h _ (a6 hx))
theorem xC {a:List Form}{i:Nat}{f:Form}(e:a[i]? =some f):kN a i=0↔(fl f.name=true/\A9 f)/\ ∀y∈a.take i,y.name≠f.name:=by
 simp only[kN,e];by_cases b:fl f.name=true
 case neg=>rw[if_neg b];exact⟨λh=>(by cases h),λh=>absurd h.1.1 b⟩
 rw[if_pos b];by_cases c:(a.take i).any (λx=>x.name==f.name)=true
 ·grind
 rw[if_neg c];simp only[List.any_eq_true,beq_iff_eq,not_exists,not_and]at c;by_cases d:5<f.parts.length
 ·rw[if_pos d];exact⟨λh=>(by cases h),λh=>absurd h.1.2.p5 zz⟩
 rw[if_neg d,II];exact⟨λh=>⟨⟨b,zz,h⟩,c⟩,λh=>h.1.2.parts⟩
theorem xx {s:Shelf}:(eD s).2.2=0↔BD s:=by
 unfold eD;by_cases b:ah 8 30 [s.w]=true
 ·rw[if_pos b];refine⟨λh=>(by cases h),λh=>?_⟩;have:=h.w8;have:=h.w30;simp [ah]at b;omega
 rw[if_neg b];have d:8<=s.w/\s.w<=30:=by simp [ah]at b;omega
 by_cases c:4<s.bH.length
 ·rw[if_pos c];exact⟨λh=>(by cases h),λh=>absurd h.f4 zz⟩
 rw[if_neg c]
 have key:(aA (kN s.bH) s.bH.length 0).2=0↔(∀f∈s.bH,fl f.name=true/\A9 f)/\(s.bH.map (·.name)).Nodup:=by
  rw[AG,zE];constructor
  ·intro h;constructor
   ·intro f e;obtain⟨i,hi⟩:=a7.1 e;exact((xC hi).1 (h i (an.1 hi).1)).1
   ·intro i f hi;exact((xC hi).1 (h i (an.1 hi).1)).2
  ·rintro⟨a,h4⟩ i hi;have hx:s.bH[i]? =some s.bH[i]:=zj
   exact(xC hx).2 ⟨a _ (a6 hx),h4 i _ hx⟩
 by_cases a:(aA (kN s.bH) s.bH.length 0).2=0
 ·rw[if_pos a];exact⟨λ_=>⟨d.1,d.2,zz,(key.1 a).1,(key.1 a).2⟩,λ_=>rfl⟩
 ·rw[if_neg a];exact⟨λh=>absurd h a,λh=>absurd (key.2 ⟨h.bH,h.names⟩) a⟩
def gj (s:Shelf)(n:Int):Int:=if (eD s).2.2=0 then(if ah 0 ((s.bH.length:Int)-1) [n]=true then 4 else 0)else(eD s).2.2
def qb (e:Int)(l:List Wd):Int:=if e=0 then cG l else e
def partsOf (s:Shelf)(n:Int):List Part:=match s.bH[n.toNat]? with|some f=>f.parts|none=>[]
def eJ (s:Shelf)(n:Int)(l:List Wd):List (List Wd)×Int×Int:=
 if qb (gj s n) l=0 then(match mD (partsOf s n) l with
  |[]=>([],0,9)
  |m::ms=>(jN (partsOf s n) m l,((m::ms).length:Nat),0))
 else([],0,qb (gj s n) l)
theorem Mq: ∀{rs:List (Int×Int)} {ms:List Nat} {i:Nat} {r:Int×Int} {m:Nat},InR rs ms->rs[i]? =some r->ms[i]? =some m->r.1<=m/\(m:Int)<=r.2
 |r0::rs,c::ms,0,r,m,h,a,b=>by
  simp only[List.getElem?_cons_zero,cc]at a b
  subst a b
  exact h.1
 |r0::rs,c::ms,i+1,r,m,h,a,b=>Mq h.2 (by simpa using a) (by simpa using b)
 |[],_,i,r,m,h,a,b=>by simp at a
 |_::_,[],i,r,m,h,a,b=>h.elim
theorem xZ: ∀(ps:List Part) (a:List (List Wd)),(∀p∈ps,p.words.length<=3)->(∀f∈a,f.length<=3)->(si ps a).length<=3*ps.length
 |[],_,_,_=>by simp [si]
 |p::ps,a,b,hf=>by
  simp only[si]
  split
  ·have d:=xZ ps a.tail (λq c=>b q (by simp [c])) (λf h=>hf f (List.mem_of_mem_tail h))
   have:(a.headD []).length<=3:=by
    cases a with
    |nil=>simp
    |cons f a=>exact hf f zj
   rw[b8,bi];omega
  ·have d:=xZ ps a (λq c=>b q (by simp [c])) hf
   have:=b p zj
   simp;omega
section
variable {s:Shelf} (V:BD s) {n:Nat} {f:Form} (hf:s.bH[n]? =some f)
include V hf
end
abbrev Part.enc (p:Part):List AV:=[strs p.words,I p.lo,I p.hi]
abbrev fX (l:List Part):AV:=.sl 3 (l.map Part.enc)
abbrev Form.enc (f:Form):List AV:=[bg f.name,fX f.parts]
abbrev sP (l:List Form):AV:=.sl 2 (l.map Form.enc)
abbrev Shelf.enc (s:Shelf):List AV:=[I s.w,sP s.bH]
abbrev Mark.enc (m:Mark):List AV:=[I m.k,bg m.w]
abbrev Kf (l:List Mark):AV:=.sl 2 (l.map Mark.enc)
abbrev qD (l:List (List Wd)):AV:=.sl 1 (l.map λf=>[strs f])
def Vt (s:Wd):Prop:=s.length<=9223372036854775807
def WN (l:List Wd):Prop:= ∀s∈l,Vt s
structure Part.wf (p:Part):Prop where
 words:WN p.words
 Ul: -9223372036854775808<=p.lo
 lo1:p.lo<=9223372036854775807
 ud: -9223372036854775808<=p.hi
 Mr:p.hi<=9223372036854775807
structure Form.wf (f:Form):Prop where
 name:Vt f.name
 parts: ∀p∈f.parts,p.wf
structure Shelf.wf (s:Shelf):Prop where
 w0: -9223372036854775808<=s.w
 w1:s.w<=9223372036854775807
 bH: ∀f∈s.bH,f.wf
instance:Inhabited nz:=⟨⟨[],0,0⟩⟩
instance:Inhabited Form:=⟨⟨[],[]⟩⟩
instance:Inhabited qh:=⟨⟨[],[]⟩⟩
instance:Inhabited nU:=⟨⟨0,0,0,0⟩⟩
theorem Tn (l:List Form)(g:Nat)(a:List AV)(f:Form->Wd)(c:l.length<=1000000)(h: ∀x∈l,Ev ad g (.agg x.enc::a) (bg (f x))):Ev ad 217 [sP l,.fn (.func g) [] a] (strs (l.map f)):=by
 refine dV afO.ok (kh []) (lh [(0,{n:=l.length,E:=λk=>[(1,.fn (.func g) [] a),(5,.aI 9 1 ((l.take k).map λx=>[bg (f x)])),(8,sP l),(9,I l.length),(10,I k)],I:=λk=>True,K:=λk=>[(12,[.i (.cells (nx l k).enc)]),(17,[.i (.ret (bg (f (nx l k))))])]})]) ?_;repeat' first|apply aP|apply aO|apply aN|apply aw|apply bx|(intro b;(try simp only[nL]at b);(try contradiction))
 all_goals try exact fi _
 ·exact⟨h _ (fE b)⟩
 ·exact⟨rfl,by rw[BW b,b4];rfl⟩
theorem RJ (l:List qh)(g:Nat)(a:List AV)(f:qh->Wd)(c:l.length<=1000000)(h: ∀x∈l,Ev ad g (.agg x.enc::a) (bg (f x))):Ev ad 219 [lE l,.fn (.func g) [] a] (strs (l.map f)):=by
 refine dV af4.ok (kh []) (lh [(0,{n:=l.length,E:=λk=>[(1,.fn (.func g) [] a),(5,.aI 9 1 ((l.take k).map λx=>[bg (f x)])),(8,lE l),(9,I l.length),(10,I k)],I:=λk=>True,K:=λk=>[(12,[.i (.cells (nx l k).enc)]),(17,[.i (.ret (bg (f (nx l k))))])]})]) ?_;repeat' first|apply aP|apply aO|apply aN|apply aw|apply bx|(intro b;(try simp only[nL]at b);(try contradiction))
 all_goals try exact fi _
 ·exact⟨h _ (fE b)⟩
 ·exact⟨rfl,by rw[BW b,b4];rfl⟩
theorem Qk (l:List nz)(g:Nat)(a:List AV)(f:nz->Wd)(c:l.length<=1000000)(h: ∀x∈l,Ev ad g (.agg x.enc::a) (bg (f x))):Ev ad 221 [tj l,.fn (.func g) [] a] (strs (l.map f)):=by
 refine dV acO.ok (kh []) (lh [(0,{n:=l.length,E:=λk=>[(1,.fn (.func g) [] a),(5,.aI 9 1 ((l.take k).map λx=>[bg (f x)])),(8,tj l),(9,I l.length),(10,I k)],I:=λk=>True,K:=λk=>[(12,[.i (.cells (nx l k).enc)]),(17,[.i (.ret (bg (f (nx l k))))])]})]) ?_;repeat' first|apply aP|apply aO|apply aN|apply aw|apply bx|(intro b;(try simp only[nL]at b);(try contradiction))
 all_goals try exact fi _
 ·exact⟨h _ (fE b)⟩
 ·exact⟨rfl,by rw[BW b,b4];rfl⟩
theorem H6 (l:List Int)(g:Nat)(a:List AV)(f:Int->Wd)(c:l.length<=1000000)(h: ∀x∈l,Ev ad g (I x::a) (bg (f x))):Ev ad 295 [ints l,.fn (.func g) [] a] (strs (l.map f)):=by
 refine dV agX.ok (kh []) (lh [(0,{n:=l.length,E:=λk=>[(1,.fn (.func g) [] a),(5,.aI 9 1 ((l.take k).map λx=>[bg (f x)])),(8,ints l),(9,I l.length),(10,I k)],I:=λk=>True,K:=λk=>[(12,[.i (.cells [I (nx l k)])]),(17,[.i (.ret (bg (f (nx l k))))])]})]) ?_;repeat' first|apply aP|apply aO|apply aN|apply aw|apply bx|(intro b;(try simp only[nL]at b);(try contradiction))
 all_goals try exact fi _
 ·exact⟨h _ (fE b)⟩
 ·exact⟨rfl,by rw[BW b,b4];rfl⟩
theorem O8 (x:Form):Ev ad 218 [.agg x.enc] (bg x.name):=by exact gA af8.ok [] []
theorem IZ (x:qh):Ev ad 220 [.agg [bg x.nm,ints x.ed]] (bg x.nm):=by exact gA adh.ok [] []
theorem Py (x:nz):Ev ad 222 [.agg x.enc] (bg x.nm):=by exact gA adk.ok [] []
theorem Zo {c:UInt8}: ∀{s:List UInt8} {t:List UInt8},(∀x∈s,x≠c)->aV c (s++c::t)=s::aV c t
 |[],t,_=>by simp [aV]
 |y::s,t,h=>by
  simp only[cA,aV]
  rw[if_neg (h y zj),Zo (λx hx=>h x (by simp [hx]))]
theorem aaa {c:UInt8}: ∀{s:List UInt8},(∀x∈s,x≠c)->aV c s=[s]
 |[],_=>rfl
 |y::s,h=>by
  simp only[aV]
  rw[if_neg (h y zj),aaa (λx hx=>h x (by simp [hx]))]
theorem Yh (c:UInt8): ∀s:List UInt8,(ea s [c]= -1/\ ∀x∈s,x≠c)\/ ∃i:Nat,ea s [c]=i/\s=s.take i++c::s.drop (i+1)/\ ∀x∈s.take i,x≠c
 |[]=>.inl ⟨rfl,zj⟩
 |b::l=>by
  have g:cR [c] (b::l)=(c==b):=by simp [cR]
  unfold ea
  rw[g]
  by_cases e:c=b
  ·subst e
   rw[if_pos zj]
   exact .inr ⟨0,rfl,rfl,zj⟩
  ·rw[if_neg (by simpa using e)]
   rcases Yh c l with⟨a,d⟩|⟨i,a,d,f⟩
   ·rw[a,if_pos zq]
    refine .inl ⟨rfl,λx hx=>?_⟩
    rcases ds.1 hx with rfl|hx
    ·exact λh=>e h.symm
    ·exact d x hx
   ·rw[a,if_neg zj]
    refine .inr ⟨i+1,zz,?_,λx hx=>?_⟩
    ·rw[b7,List.drop_succ_cons,cA,<-d]
    ·rw[b7]at hx
     rcases ds.1 hx with rfl|hx
     ·exact λh=>e h.symm
     ·exact f x hx
theorem Ic (c:UInt8): ∀(n:Nat) (s:List UInt8),s.length<=n->dk [c] 0 (en s [c]) s=aV c s:=by
 intro n;induction n with
 |zero=>
  intro s h;have:s=[]:=List.length_eq_zero_iff.1 zz;subst this;rcases Yh c []with⟨a,-⟩|⟨i,a,b,-⟩
  ·rw[de a];rfl
  ·grind
 |succ n e=>
  intro s h;rcases Yh c s with⟨a,b⟩|⟨i,a,b,d⟩
  ·rw[de a,aaa b];rfl
  ·rw[Lib.count_hit zj a,Nat.add_comm,dk,if_neg (by rw[a];simp),a,b0];have hl:(s.drop (i+1)).length<=n:=by have:=congrArg List.length b;simp only[b8,bi]at this;omega
   have:=e _ hl;show s.take i::dk [c] 0 (en (s.drop (i+1)) [c]) (s.drop (i+1))=_;rw[this];conv=>rhs;rw[b]
   rw[Zo d]
theorem fK {c:UInt8}: ∀(s:List UInt8),(aV c s).length<=s.length+1
 |[]=>by simp [aV]
 |x::l=>by
  have a:=fK (c:=c) l
  simp only[aV]
  split
  ·simp;omega
  ·split
   ·simp
   ·rename_i w ws e
    rw[e]at a
    simp only[bi]at a ⊢;omega
theorem BN {S:aE}: ∀(a:List ByteArray) (l:List (List UInt8)),a.map (·.data.toList)=l->aS S (l.map λs=>[bg s]).flatten (a.map bt)
 |[],l,h=>by subst h;simp [aS]
 |b::a,l,h=>by
  subst h
  have:=BN (S:=S) a _ rfl
  simp only[List.map_cons,List.flatten_cons,List.singleton_append,aS]
  exact⟨_,_,rfl,by simp only[aR],this⟩
theorem my (s:List UInt8)(c:UInt8)(hs:s.length<=1000000):Ev ad 22 [bg s,bg [c]] (strs (aV c s)):=by
 refine dN (T:=9) ⟨⟨_,Tryz.func22,zw,zw⟩,λS w t hg g l=>?_⟩;simp only[aS,aR]at l;obtain⟨v1,n,rfl,rfl,r,o,rfl,rfl,rfl⟩:=l;have j:(⟨s.toArray⟩:ByteArray).size=s.length:=by simp [er]
 obtain⟨m,hm⟩:=FP hg;have d:=Lib.splitB_all (⟨[c].toArray⟩:ByteArray) (be 1) 0 _ ⟨s.toArray⟩ rfl;have i:=Ic c s.length s (be _);have hd:=Lib.splitB_data ⟨[c].toArray⟩ 0 (c8 ⟨s.toArray⟩ ⟨[c].toArray⟩) ⟨s.toArray⟩;have hd:(ec ⟨[c].toArray⟩ 0 (c8 ⟨s.toArray⟩ ⟨[c].toArray⟩) ⟨s.toArray⟩).map (·.data.toList)=aV c s:=hd.trans i;have p:=fK (c:=c) s;refine(Any.strings_Split {Tryz.DW with} Tryz.DW.i9 ⟨s.toArray⟩ ⟨[c].toArray⟩ m w (by rw[j];omega) hm (be 1)).mono ?_;rintro e w' ⟨rfl,rfl⟩;generalize c8 ⟨s.toArray⟩ ⟨[c].toArray⟩=cn at hd d;generalize ec ⟨[c].toArray⟩ 0 cn ⟨s.toArray⟩=f at hd d;have h:f.length=(aV c s).length:=zx
 rw[<-d];have a:=(ek w.heap.size w).alloc (be _) (.cells (f.map bt).toArray 9);refine⟨_,S,some w.heap.size,rfl,ph _,g.sA (λb hs=>a.block b (g.lt hs)),λb hs=>.inl hs,a,?_⟩;simp only[bF];refine .inr ⟨w.heap.size,f.length,rfl,zx,be _,λhh=>Nat.lt_irrefl _ (g.lt hh),.cells (f.map bt).toArray 9 (0,0),Array.getElem?_push_size,?_⟩;have k:(f.map bt).take (((aV c s).map λs=>[bg s]).length*1)=f.map bt:=bs (by simp [h]);refine⟨f.map bt,rfl,zx,zx,by rw[h];have:maxLen=9223372036854775807:=rfl;omega,?_,?_,?_⟩
 ·grind
 ·rw[k];exact BN f _ hd
 ·rw[k];intro v q;obtain⟨x,_,rfl⟩:=bk.1 q;rfl
theorem AI {t:aX}{p:List Nat}:ES t p=true↔ ∀i,i<t.ms.length->(t.m i).par≠ -1->aM p (t.m i).par.toNat≠aM p i/\ ∀k,k<i->(t.m k).par≠ -1->aM p k=aM p i->aM p (t.m i).par.toNat=aM p (t.m k).par.toNat:=by grind [ES,aM]
theorem Qd {ms:List eY}{p:List Nat}{a c:Nat}:(a,c)∈kids ms p↔ ∃i x,ms[i]? =some x/\x.par≠ -1/\a=aM p x.par.toNat/\c=aM p i:=by
 unfold kids;rw[List.mem_filterMap];constructor
 ·rintro⟨i,hi,h⟩;rw[a8]at hi;obtain⟨x,hx⟩:=aL hi;rw[hx]at h;simp only at h;split at h
  ·cases h
  ·rename_i b;simp only[cc,Prod.mk.injEq]at h;exact⟨i,x,hx,b,h.1.symm,h.2.symm⟩
 ·rintro⟨i,x,hx,b,rfl,rfl⟩;refine⟨i,a8.2 (an.1 hx).1,?_⟩;rw[hx];simp only[if_neg b];rfl
theorem Rf {b:List Sp}(c:List Sp){k:Nat}(h:k<b.length):cu (b++c) k=cu b k:=by unfold cu;rw[bI h]
theorem JT {b:List Sp}(c:List Sp){x y:Nat}(hx:x<b.length)(hy:y<b.length):fZ (b++c) x y=fZ b x y++c/\kU (b++c) x y=kU b x y:=by grind [fZ,kU,Rf]
theorem vz (b:List Sp)(x y:Nat):(fZ b x y).length=b.length:=by simp [fZ]
theorem yF (c:List Sp): ∀(ks:List (Nat×Nat)) (b:List Sp) (m:Bool),(∀k∈ks,k.1<b.length/\k.2<b.length)->aW ks (b++c,m)=((aW ks (b,m)).1++c,(aW ks (b,m)).2)
 |[],b,m,_=>rfl
 |(x,y)::ks,b,m,h=>by
  obtain⟨hx,hy⟩:=h (x,y) zj
  simp only[aW]
  obtain⟨a,d⟩:=JT c hx hy
  rw[a,d]
  exact yF c ks _ _ (λk hk=>by rw[vz];exact h k (by simp [hk]))
theorem iR: ∀(ks:List (Nat×Nat)) (b:List Sp) (m:Bool),(aW ks (b,m)).1.length=b.length
 |[],b,m=>rfl
 |(x,y)::ks,b,m=>by
  simp only[aW]
  rw[iR ks,vz]
theorem Bt (b c:List Sp):bX (b++c)=(bX b||bX c):=by simp [bX]
theorem OD (b c:List Sp):width (b++c)=width b+width c:=by simp [width]
theorem AT (c:List Sp)(hc:bX c=false)(ks:List (Nat×Nat)): ∀(f:Nat) (b:List Sp),(∀k∈ks,k.1<b.length/\k.2<b.length)->iC ks f (b++c)=iC ks f b++c
 |0,b,_=>rfl
 |f+1,b,h=>by
  simp only[iC]
  rw[Bt,hc,dn,yF c ks b false h]
  by_cases he:bX b=true
  ·rw[if_pos he,if_pos he]
  ·rw[if_neg he,if_neg he]
   by_cases hm:(aW ks (b,false)).2=true
   ·rw[if_pos hm,if_pos hm]
    exact AT c hc ks f _ (λk hk=>by rw[iR];exact h k hk)
   ·rw[if_neg hm,if_neg hm]
theorem IM {b:List Sp}(c:List Sp)(hc:bX c=false){ks:List (Nat×Nat)}(h: ∀k∈ks,k.1<b.length/\k.2<b.length/\k.1≠k.2):kY ks (b++c)=kY ks b++c:=by grind [kY,width,AT,rN,OD]
theorem Ag {ks:List (Nat×Nat)}: ∀(f:Nat) (b:List Sp),(∀k∈ks,k.1<b.length/\k.2<b.length)->nF (iC ks f b) b
 |0,b,_=>nF.refl b
 |f+1,b,h=>by
  simp only[iC]
  obtain⟨s1,_⟩:=gX ks b false h
  split
  ·exact nF.refl b
  ·split
   ·exact(Ag f _ (λk hk=>by rw[iR];exact h k hk)).trans s1
   ·exact s1
theorem kH (t:aX)(p:List Nat)(w:Nat):(nh t p w).length=w:=by simp [nh]
theorem pb (t:aX)(p:List Nat)(k a:Nat):fW t p (k+1) a=if aM p k=a then(max (fW t p k a).1 (t.m k).lo,min (fW t p k a).2 (t.m k).hi)else fW t p k a:=by unfold fW;rw[List.range_succ,List.foldl_append];rfl
theorem xR (t:aX)(p:List Nat)(a:Nat): ∀(k i:Nat),i<k->aM p i=a->(t.m i).lo<=(fW t p k a).1/\(fW t p k a).2<=(t.m i).hi
 |0,i,h,_=>zz
 |k+1,i,h,e=>by
  rw[pb]
  by_cases b:i=k
  ·subst b
   rw[if_pos e]
   simp only
   omega
  ·have:=xR t p a k i zz e
   split
   ·simp only;omega
   ·exact this
theorem yI (t:aX)(p:List Nat)(a:Nat): ∀(k:Nat),(∀i,i<k->aM p i≠a)->fW t p k a=(0,199)
 |0,_=>rfl
 |k+1,h=>by
  rw[pb,if_neg (h k zz)]
  exact yI t p a k (λi hi=>h i zz)
theorem DL {t:aX}(h:t.OK)(p:List Nat)(a:Nat): ∀(k:Nat),k<=t.ms.length->0<=(fW t p k a).1/\(fW t p k a).1<=199/\0<=(fW t p k a).2/\(fW t p k a).2<=199
 |0,_=>by
  show (0:Int)<=0/\(0:Int)<=199/\(0:Int)<=199/\(199:Int)<=199
  omega
 |k+1,hk=>by
  rw[pb]
  have b:=DL h p a k zz
  have hm:=h.at (i:=k) zz
  have c:=hm.Ul
  have d:=hm.lh
  have e:=hm.Mr
  split
  ·simp only;omega
  ·exact b
theorem CI (t:aX)(p:List Nat){w k:Nat}(h:k<w):cu (nh t p w) k=fW t p t.ms.length k:=by unfold cu nh;rw[az,bm h];rfl
def spare (n:Nat):List Sp:=dl n (0,199)
theorem yG (n:Nat):bX (spare n)=false:=by unfold bX spare;rw[List.any_replicate];split<;>rfl
theorem OX {t:aX}{p:List Nat}(hg:BC t.ms.length p){w:Nat}(c:gw p<=w):nh t p w=nh t p (gw p)++spare (w-gw p):=by
 apply List.ext_getElem?;intro i;by_cases h:i<gw p
 ·rw[bI (by rw[kH];exact h)];unfold nh;rw[az,az,bm h,bm zz]
 ·rw[List.getElem?_append_right (by rw[kH];omega),kH];unfold nh spare;rw[az,List.getElem?_replicate];by_cases a:i<w
  ·rw[bm a,if_pos zz];show some _=some _;rw[yI t p i _ (λj b e=>h (by rw[<-e];exact hg.lt j b))]
  ·grind
def EJ (t:aX)(p:List Nat):Prop:= ∀i,i<t.ms.length->(t.m i).par≠ -1->aM p (t.m i).par.toNat≠aM p i
theorem zZ {t:aX}(h:t.OK){p:List Nat}(hg:BC t.ms.length p)(hk:EJ t p){w:Nat}(m:gw p<=w): ∀k∈kids t.ms p,k.1<(nh t p w).length/\k.2<(nh t p w).length/\k.1≠k.2:=by rintro⟨a,c⟩ hm;obtain⟨i,x,hx,e,rfl,rfl⟩:=Qd.1 hm;have hi:=(an.1 hx).1;have b:=h.TJ i x hx;have j:=b.Ce;have l:=b.Ca;have f:=hg.lt i hi;have g:=hg.lt x.par.toNat zz;have d:=hk i hi (by rw[aX.oV hx];exact e);rw[aX.oV hx]at d;rw[kH];exact⟨zx,zx,d⟩
theorem Kk {t:aX}(h:t.OK){p:List Nat}(hg:BC t.ms.length p)(hk:EJ t p){w:Nat}(a:gw p<=w):eh t p w=eh t p (gw p)++spare (w-gw p):=by unfold eh;rw[OX hg a];exact IM _ (yG _) (zZ h hg hk (be _))
theorem vI {t:aX}(h:t.OK){p:List Nat}(hg:BC t.ms.length p)(hk:EJ t p){w:Nat}(a:gw p<=w):bX (eh t p w)=bX (eh t p (gw p)):=by rw[Kk h hg hk a,Bt,yG,dn]
theorem Ka {t:aX}(h:t.OK){p:List Nat}(hg:BC t.ms.length p)(hk:EJ t p){w:Nat}(a:gw p<=w):nF (eh t p w) (nh t p w):=
 Ag _ _ (λk hm=>⟨(zZ h hg hk a k hm).1,(zZ h hg hk a k hm).2.1⟩)
theorem qZ {b:List Sp}(h:bX b=false){k:Nat}(hk:k<b.length):(cu b k).1<=(cu b k).2:=by grind [cu,bX,only]
theorem pX {t:aX}{a b:Nat}:uu t a b=0↔im t.gz (2^(t.m a).sp.toNat ||| 2^(t.m b).sp.toNat)=true/\Vg (t.m a).v (t.m b).v/\max (t.m a).lo (t.m b).lo<=min (t.m a).hi (t.m b).hi/\(t.m a).par≠b/\(t.m b).par≠a:=by grind [uu,Vg,im]
theorem qY {p:List Nat}{i:Nat}(h:i<p.length):p[i]? =some (aM p i):=by unfold aM;rw[List.getElem?_eq_getElem h];rfl
theorem CL {t:aX}{p:List Nat}(hl:p.length=t.ms.length):jw (λj i=>uu t j i !=0) p=true↔ ∀i,i<t.ms.length-> ∀j,j<i->aM p j=aM p i->uu t j i=0:=by grind [jw,aM]
theorem lj {p:List Nat}{a i:Nat}:i∈Ui p a↔i<p.length/\aM p i=a:=by unfold Ui;rw[List.mem_filter,a8,beq_iff_eq]
theorem A8 {t:aX}(h:t.OK){p:List Nat}(hl:p.length=t.ms.length){c:Nat}(hi: ∃i,i<t.ms.length/\aM p i=c):
  JC t (Ui p c)=true↔Bd t p c/\ ∀i,i<t.ms.length->aM p i=c-> ∀j,j<t.ms.length->aM p j=c->Vg (t.m i).v (t.m j).v:=by
 obtain⟨r,ud,n⟩:=hi
 have d:r∈Ui p c:=lj.2 ⟨zz,n⟩
 unfold JC
 rw[b1,Il zz (λi hi=>(h.at (by rw[<-hl];exact(lj.1 hi).1)).v0),b6,decide_eq_true_iff,Iz h.gz h.wf (by
  intro e
  rw[List.map_eq_nil_iff]at e
  rw[e]at d;cases d)]
 have u:(∃g,∀j∈(Ui p c).map (λi=>(t.m i).sp),g∈kI t.gz j.toNat)↔Bd t p c:=by
  refine exists_congr λg=>⟨λhg i hi he=>hg _ (bk.2 ⟨i,lj.2 ⟨zz,he⟩,rfl⟩),λhg j k=>?_⟩
  obtain⟨i,hi,rfl⟩:=bk.1 k
  obtain⟨q,f⟩:=lj.1 hi
  exact hg i zz f
 rw[u]
 have l:(Ui p c).length<2->Bd t p c:=by
  intro f
  obtain⟨g,hg⟩:=List.exists_mem_of_ne_nil _ (Qm h.gz (Ea h ud))
  refine⟨g,λi hi he=>?_⟩
  have o:i∈Ui p c:=lj.2 ⟨zz,he⟩
  have:i=r:=by
   match y:Ui p c,f,d,o with
   |[x],_,a,b=>
    simp only[bA]at a b
    rw[a,b]
  rw[this];exact hg
 constructor
 ·rintro⟨⟨_,f⟩,s⟩
  exact⟨s.elim l id,λi hi he j k w=>f i (lj.2 ⟨zz,he⟩) j (lj.2 ⟨zz,w⟩)⟩
 ·rintro⟨q,f⟩
  exact⟨⟨λi _=>.inl rfl,λi hi j k=>f i (by rw[<-hl];exact(lj.1 hi).1) (lj.1 hi).2 j (by rw[<-hl];exact(lj.1 k).1) (lj.1 k).2⟩,.inr q⟩
theorem JL {t:aX}(h:t.OK){p:List Nat}(hg:BC t.ms.length p):pH t p=true↔ ∀a,a<gw p->Bd t p a:=by
 unfold pH;rw[cr];have c:=hg.le;have e:=h.Ax;constructor
 ·intro hh a d;have:=hh a (a8.2 zz);rw[b6,beq_iff_eq]at this;have b:=hg.on a d;rcases this with this|this
  ·exact absurd b (Dh.1 this)
  ·exact(C6 h b).1 this
 ·intro hh a _;rw[b6,beq_iff_eq];by_cases b: ∃i,i<t.ms.length/\aM p i=a
  ·right;obtain⟨i,hi,he⟩:=b;exact(C6 h ⟨i,hi,he⟩).2 (hh a (by rw[<-he];exact hg.lt i hi))
  ·exact .inl (Dh.2 b)
theorem XE {t:aX}(h:t.OK)(but:Nat->Bool){p:List Nat}(B:p∈gF t.ms.length):
  ((jw (λj i=>uu t j i !=0) p&&iJ t p)&&(pH t p&&vW t but p))=Yf t but p:=by
 have hg:=lK B
 have E:=h.Ax
 have z:=hg.le
 rw[Bool.eq_iff_iff]
 unfold iJ Yf
 simp only[b1]
 rw[CL hg.len,JL h hg,cr]
 constructor
 ·rintro⟨⟨o,q,m⟩,h4,y⟩
  have b:EJ t p:=λi hi f=>(AI.1 m i hi f).1
  refine⟨⟨λa d=>?_,y⟩,m,?_⟩
  ·rw[a8]at d
   refine(A8 h hg.len (hg.on a d)).2 ⟨h4 a d,λi hi he j x w=>?_⟩
   by_cases s:i=j
   ·subst s;exact .inr (.inr rfl)
   ·by_cases u:j<i
    ·have:=(pX.1 (o i hi j u (by rw[he,w]))).2.1
     unfold Vg at*;omega
    ·have:=(pX.1 (o j x i zz (by rw[he,w]))).2.1
     unfold Vg at*;omega
  ·rw[vI h hg b zz]at q;exact q
 ·rintro⟨⟨o,q⟩,m,h4⟩
  have b:EJ t p:=λi hi f=>(AI.1 m i hi f).1
  have v:=λa d=>(A8 h hg.len (hg.on a d)).1 (o a (a8.2 d))
  refine⟨⟨λi hi j x he=>?_,by rw[vI h hg b zz];exact h4,m⟩,λa d=>(v a d).1,q⟩
  have l:=hg.lt i hi
  obtain⟨⟨g,hs⟩,C⟩:=v (aM p i) l
  refine pX.2 ⟨(KT h zz hi).2 ⟨g,hs j zz he,hs i hi rfl⟩,C j zz he i hi rfl,?_,?_,?_⟩
  ·have c:=Ka h hg b (be (gw p))
   have r:bX (eh t p (gw p))=false:=by simpa using h4
   have A:=qZ r (k:=aM p i) (by rw[c.1,kH];exact l)
   have n:=c.2 (aM p i)
   rw[CI t p l]at n
   have D:=xR t p (aM p i) t.ms.length i hi rfl
   have b2:=xR t p (aM p i) t.ms.length j zz he
   obtain⟨s1,F⟩:=n
   omega
  ·intro e
   have:=b j zz zz
   rw[e,b0]at this
   exact this he.symm
  ·intro e
   have:=b i hi zz
   rw[e,b0]at this
   exact this he
theorem mC {t:aX}(h:t.OK)(but:Nat->Bool):jy t but=dz t but:=by unfold jy dz dJ;rw[vp _ _ _ _ rfl,<-xl,List.filter_filter];refine List.filter_congr λp a=>?_;rw[<-XE h but a,Bool.and_comm]
end Go.Px
