/- Part 18 of the proof of a statement of this seat (a logic of pure contracts; the functions; their contracts). No conditions. -/
import Derived.Test.YtjjmmbcmdheooaaGreatDoorA17
open And renaming intro->a6
open Bool renaming eq_iff_iff->bi,true_and->b9
open ByteArray renaming size->bm,mk->cA
open Go.Lib renaming join_cons->cb,join->cr
open Go.Proofs.Any renaming strings_Join_none->bx
open Go.Proofs.Tryz renaming prog->ad
open Go.RowKit.Below renaming refl->b6
open Go.Utf8 renaming decode->bt
open Go.Value renaming int->b0
open Int renaming toNat_natCast->b3
open List renaming length_map->ap,getElem?_eq_some_iff->a7,replicate->a8,length_cons->be,length_nil->bk,range->bn,sublist_append_right->bs,length_replicate->bA,map_cons->b1,size_toArray->b4,append_nil->b7,foldl_cons->b8
open List.Sublist renaming refl->az
open Nat renaming le_refl->an,pow_lt_pow_right->bI
open Option.some renaming injEq->cc
namespace Go.Px
open Go.Proofs Go.MapKept
theorem I5 {lo hi:Int}{l:List Int}:ah lo hi l=false↔ ∀n∈l,lo<=n/\n<=hi:=by grind [ah,only]
theorem xw {t:aX}{x:eY}{i:Nat}:qc t x i=0↔(0<=x.sp/\x.sp<t.gz.ss.length)/\(-1<=x.v/\x.v<t.vC)/\(-1<=x.par/\x.par<t.ms.length)/\0<=x.lo/\x.lo<=x.hi/\x.hi<=199/\x.par≠i:=by grind [only,qc,ah]
theorem C9 {t:aX}{x:ry}:E2 t x=0↔0<=x.a/\x.a<t.ms.length/\0<=x.b/\x.b<t.ms.length/\x.a≠x.b:=by grind [only,E2,ah]
abbrev kG (t:aX):Int:=(iQ t).2.2
theorem kf {t:aX}(E:t.wf):kG t=0↔t.OK/\t.ms.length<=5:=by
 have e:=I5 (lo:=1) (hi:=4) (l:=[t.vC]);simp only[List.mem_cons,List.not_mem_nil,or_false,forall_eq]at e;have q:=eQ (f:=lC t) (m:=t.ms.length);have r:=eQ (f:=lG t) (m:=t.fr.length)
 have a:(∀j,j<t.ms.length->lC t j=0)↔ ∀(i:Nat) (x:eY),t.ms[i]? =some x->qc t x i=0:=by
  constructor
  ·intro h i x hx;have:=h i (a7.1 hx).1;unfold lC at this;rw[hx]at this;exact this
  ·intro h j k;obtain⟨x,hx⟩:=aL k;unfold lC;rw[hx];exact h j x hx
 have b:(∀j,j<t.fr.length->lG t j=0)↔ ∀x∈t.fr,E2 t x=0:=by
  constructor
  ·intro h x hx;obtain⟨i,hi⟩:=List.getElem?_of_mem hx;have:=h i (a7.1 hi).1;unfold lG at this;rw[hi]at this;exact this
  ·intro h j k;obtain⟨x,hx⟩:=aL k;unfold lG;rw[hx];exact h x (List.mem_of_getElem? hx)
 unfold kG iQ;by_cases c:(check t.gz).2.2=0
 case neg=>rw[if_pos c];exact⟨λh=>absurd h c,λh=>absurd (qe.2 h.1.gz) c⟩
 rw[if_neg (by simp [c])];cases n:ah 1 4 [t.vC]with
 |true=>rw[if_pos rfl];rw[n]at e;exact⟨λh=>by simp at h,λh=>by have:=e.2 ⟨h.1.Vx,h.1.RM⟩;cases this⟩
 |false=>
 rw[if_neg zq];have s:=e.1 n;by_cases D:5<t.ms.length
 ·grind
 rw[if_neg D];by_cases h4:(aA (lC t) t.ms.length 0).2=0
 case neg=>rw[if_pos h4];refine⟨λh=>absurd h h4,λh=>absurd (q.2 (a.2 λi x hx=>xw.2 ?_)) h4⟩;have o:=h.1.TJ i x hx;exact⟨⟨o.OS,o.NN⟩,⟨o.v0,o.v1⟩,⟨o.Ce,o.Ca⟩,o.Ul,o.lh,o.Mr,o.own⟩
 rw[if_neg (by simp [h4])];by_cases p:4<t.fr.length
 ·rw[if_pos p];exact⟨λh=>by simp at h,λh=>by have:=h.1.GO;omega⟩
 rw[if_neg p];by_cases d:(aA (lG t) t.fr.length 0).2=0
 case neg=>rw[if_pos d];exact⟨λh=>absurd h d,λh=>absurd (r.2 (b.2 λx hx=>C9.2 (h.1.tie x hx))) d⟩
 rw[if_neg (by simp [d])];refine⟨λ_=>⟨?_,zz⟩,λ_=>rfl⟩;refine⟨qe.1 c,E.gz,s.1,s.2,zz,λi x hx=>?_,zz,λx hx=>C9.1 (b.1 (r.1 d) x hx)⟩;obtain⟨⟨a1,u⟩,⟨v,w⟩,⟨y,z⟩,A,B,C,g⟩:=xw.1 (a.1 (q.1 h4) i x hx);exact⟨a1,u,v,w,y,z,A,B,C,g⟩
theorem Em:ik 0=λ_=>false:=by funext i;unfold ik cN;rw[Int.zero_ediv];rfl
abbrev ir:Nat->Bool:=λ_=>false
def iv (t:aX)(e:Int):Int:=if e≠0 then e else if (dz t ir).isEmpty=true then 8 else 0
def sv (t:aX)(a:Int):Int:=if kG t≠0 then kG t else a
theorem lT {t:aX}{e:Int}:iv t e=0↔e=0/\dz t ir≠[]:=by
 unfold iv;by_cases h:e=0
 ·grind
 ·grind
theorem DQ {t:aX}{e:Int}:sv t e=0↔kG t=0/\e=0:=by
 unfold sv;by_cases h:kG t=0
 ·grind
 ·grind
theorem Ls:Ev ad 137 [] (I 0):=by refine ak agZ.ok<|aC rfl<|aC rfl<|ab (aB ?_);rfl
theorem T2 (t:aX)(x:eY)(b:Nat)(e: -9223372036854775807<=t.vC)(f:t.vC<=9223372036854775807)(c:t.ms.length<=1000)(d:t.gz.ss.length<=1000):
  il ad 310 [.po b 0,.pi x.enc] [(b,.cells 33 t.enc)] (λr Ho=>r=I (qc t x t.ms.length)/\Ho=[(b,.cells 33 t.enc)]):=by
 have a:(t.ms.map eY.enc).length=t.ms.length:=ap _
 have g:=Be t x (((t.ms.map eY.enc).length:Nat):Int) e f c d
 have h:qc t x t.ms.length=qc t x (((t.ms.map eY.enc).length:Nat):Int):=by rw[a]
 rw[h]
 refine bq adO.ok<|aC rfl<|bc [.at 0,.at 0,.ret (I (qc t x (((t.ms.map eY.enc).length:Nat):Int)))] rfl (by(repeat' (with_reducible apply a6));(all_goals first|exact zk _|((first|rfl|exact g)))) ?_
 exact ab ⟨.inr rfl,_,_,_,rfl,.one (.tmp rfl rfl),⟨rfl,rfl⟩,az _⟩
abbrev Uf:AV:=.v (.pointer none)
def Zu (t:aX)(a:Int)(b:Heap)(r:AV)(Ho:Heap):Prop:=
 (iv t (sv t a)=0/\ ∃(g1 g2:Nat) (m:MS t),r= .bZ [tp t 0 g1 g2,I 0]/\Ho=m.heap g1 g2++b)\/(iv t (sv t a)≠0/\r= .bZ [Uf,I (iv t (sv t a))]/\Ho=b)
theorem XV {t:aX}{b:Int}{a:Heap}{env:Env}{x:Int}(he:iv t (sv t b)=x)(d:x≠0)(h4:env 4=Uf)(c:env 5=I x){H:Heap}(hs:a.Sublist H):wM ad [.tmp 4,.tmp 5] (Zu t b a) .ret env H []:=
 ⟨.inr rfl,_,.bZ [Uf,I x],a,rfl,.many zq (show fN (ja ad env _) [.tmp 4,.tmp 5] [Uf,I x]from⟨.tmp h4 rfl,.tmp c rfl,trivial⟩),.inr ⟨zx,by rw[he],rfl⟩,hs⟩
theorem xp (t:aX)(m:t.wf)(g:Nat)(a:List AV)(d:Int)(c:Heap)(u:kG t=0->il ad g a c (λr Ho=>r=I d/\Ho=c)):
  il ad 136 [.agg t.enc,.fn (.func g) [] a] c (Zu t d c):=by
 have i:=CP t m
 have w:=kf m
 have v:kG t=(iQ t).2.2:=rfl
 refine bq ael.ok<|bc [.bW] rfl ⟨⟨rfl,rfl⟩,trivial⟩<|aa (aa ?_)
 refine iO [.ret (.bZ [I (iQ t).1,I (iQ t).2.1,I (iQ t).2.2])] rfl ⟨i,trivial⟩<|aa<|cC rfl ?_
 by_cases e:kG t=0
 case neg=>
  refine ag (b:=true) (by show B _=B _;exact congrArg B zx) (λ_=>?_) (λh=>by cases h)
  refine aC rfl ?_
  exact ab (XV (by unfold iv sv;rw[if_pos e,if_pos e]) e rfl rfl (az _))
 refine ag (b:=false) (by show B _=B _;exact congrArg B zx) (λh=>by cases h) (λ_=>af ?_)
 refine aa (aa (av ?_))
 refine kL 1 rfl rfl<|ai (bP (Hin:=c) (H0:=[]) rfl (show il ad g a _ _ from u e) rfl rfl (aK _) zj ?_)
 rintro x o ⟨rfl,k⟩
 rw[k,b7]
 refine eZ rfl<|aa<|cC rfl ?_
 by_cases j:d=0
 case neg=>
  refine ag (b:=true) (by show B _=B _;exact congrArg B zx) (λ_=>?_) (λh=>by cases h)
  refine aC rfl ?_
  have he:sv t d=d:=by unfold sv;rw[if_neg (by simp [e])]
  exact ab (XV (by unfold iv;rw[he,if_pos j]) j rfl rfl (az _))
 refine ag (b:=false) (by show B _=B _;exact congrArg B zx) (λh=>by cases h) (λ_=>af ?_)
 have f:=(w.1 e).1
 have he:sv t d=0:=DQ.2 ⟨e,j⟩
 refine aa (av ?_)
 refine kL 1 rfl rfl<|ai (bU (Hin:=[]) (H0:=c) (Gb t 0) rfl rfl (aK _) rfl ?_)
 rintro y p ⟨g1,g2,rfl,rfl⟩
 refine eZ rfl<|aa (aa (av ?_))
 refine kL 1 rfl rfl<|ai (bU (Hin:=(MS.new t).heap g1 g2) (H0:=c) (VK f zz zz g1 g2 (MS.new t)) rfl rfl (aK _) rfl ?_)
 rintro z q ⟨rfl,n,rfl⟩
 rw[Em,mC f]
 refine eZ rfl ?_
 cases s:(dz t ir).isEmpty with
 |true=>
  refine ax rfl rfl<|aC rfl ?_
  exact ab (XV (by unfold iv;rw[if_neg (by simp [he]),if_pos s]) zq rfl rfl (bs _ _))
 |false=>
  refine aD rfl rfl<|aC rfl ?_
  have l:iv t (sv t d)=0:=lT.2 ⟨he,zx⟩
  exact ab ⟨.inr rfl,_,.bZ [tp t 0 g1 g2,I 0],n.heap g1 g2++c,rfl,.many zq (show fN (ja ad _ _) [.tmp 4,.tmp 5] [tp t 0 g1 g2,I 0]from⟨.tmp rfl rfl,.tmp rfl rfl,trivial⟩),.inl ⟨l,g1,g2,n,rfl,rfl⟩,az _⟩
theorem zQ {α X:Type}{f:X->α->J×X}(h: ∀x p,(f x p).1= .go): ∀(L:List α) (x:X),aQ f L x=(.go,L.foldl (λx p=>(f x p).2) x)
 |[],_=>rfl
 |p::L,x=>by
  have e:f x p=(.go,(f x p).2):=Prod.ext (h x p) rfl
  simp only[aQ,b8]
  rw[e]
  exact zQ h L _
theorem AK: ∀{n:Nat},n<=6->(gF n).length<=1000:=by
 intro n h;have: ∀k:Fin 7,(gF k.1).length<=1000:=by decide+kernel
 exact this ⟨n,zz⟩
theorem Of {t:aX}(h:t.OK)(but:Nat->Bool):(jy t but).length<=1000:=by rw[mC h];exact Nat.le_trans (List.length_filter_le _ _) (AK h.Ax)
theorem uc (t:aX):sv t 0=kG t:=by
 unfold sv;by_cases h:kG t=0
 ·grind
 ·rw[if_pos h]
def gq (t:aX):List Int×Int×Int:=
 if iv t (kG t)=0 then(pQ ((dz t ir).headD []),(dz t ir).length,0)else([],0,iv t (kG t))
abbrev BH (x:List Int×Nat)(p:List Nat):J×(List Int×Nat):=(.go,(if x.2=0 then pQ p else x.1,x.2+1))
theorem BG (L:List (List Nat)):aQ BH L ([],0)=(.go,(pQ (L.headD []),L.length)):=by
 rw[zQ (λ_ _=>rfl)]
 have key: ∀(L:List (List Nat)) (l:List Int) (k:Nat),0<k->L.foldl (λx p=>(BH x p).2) (l,k)=(l,k+L.length):=by
  intro L;induction L with
  |nil=>grind
  |cons p L a=>intro l k hk;simp only[b8];rw[if_neg zz,a _ _ zz];simp only[be];congr 1;omega
 cases L with
 |nil=>rfl
 |cons p L=>grind
theorem OZ:ez (.v (.slice none 0 0)) (ints []):=by intro S v h;simp only[aR]at h ⊢;exact .inl ⟨⟨none,h⟩,rfl⟩
theorem Ol {n:Nat}(h:n<=6){p:List Nat}(hl:p.length=n):(jH (chunk 1 6 (bY p)) none none).take n=(pQ p).map λx=>[I x]:=by
 match p,hl with
 |[],e=>subst e;rfl
 |[a],e=>subst e;rfl
 |[a,b],e=>subst e;rfl
 |[a,b,c],e=>subst e;rfl
 |[a,b,c,d],e=>subst e;rfl
 |[a,b,c,d,x],e=>subst e;rfl
 |[a,b,c,d,x,y],e=>subst e;rfl
 |a::b::c::d::x::y::z::l,e=>grind
theorem Cy (t:aX)(w:t.wf):Ev ad 70 [.agg t.enc] (.bZ [ints (gq t).1,I (gq t).2.1,I (gq t).2.2]):=by
 refine ak S70.ok<|bc [.bW,.aI,.aI] rfl ⟨⟨rfl,rfl⟩,rfl,rfl,trivial⟩<|bM (t:=2) rfl λb2=>bM (t:=3) rfl λc=>aa (av ?_);refine kL 1 rfl rfl<|ai (bU (Hin:=[]) (H0:=[(c,.cells 3 [I 0]),(b2,.cells 87 [.v (.slice none 0 0)])]) (xp t w 137 [] 0 [] (λ_=>(Ls.toR []))) rfl rfl (aK _) rfl ?_);rintro E y (⟨d,g1,g2,m,rfl,rfl⟩|⟨d,rfl,rfl⟩)
 case inr=>
  rw[uc]at d ⊢;have q:gq t=([],0,iv t (kG t)):=by unfold gq;rw[if_neg d]
  rw[q];refine eZ rfl<|aa (aa ?_);refine cC rfl<|ag (b:=true) (by show B _=B _;exact congrArg B zx) (λ_=>?_) (λh=>by cases h);refine lV [.gI 1,.gI 0] rfl ⟨⟨rfl,rfl,rfl,rfl,an 1⟩,⟨rfl,rfl,rfl,rfl,an 1⟩,trivial⟩<|ae (cx (j:=1) (bo:=b2) (To:=87) [ints []] rfl ⟨gN 1,trivial⟩) ?_
  exact ab ⟨.inr rfl,_,rfl,.many zq (show fN (ja ad _ _) [.cell 2 87,.cell 3 3,.tmp 4] [ints [],I 0,I (iv t (kG t))]from
   ⟨.dw (n:=none) (i:=1) (cs:=[ints []]) rfl rfl zw rfl,.dw (n:=none) (i:=0) (cs:=[I 0]) rfl rfl zw rfl,.tmp rfl rfl,trivial⟩)⟩
 rw[uc]at d;have a:=((kf w).1 (lT.1 d).1).1;have u:=a.Ax;have q:gq t=(pQ ((dz t ir).headD []),(((dz t ir).length:Nat):Int),0):=by unfold gq;rw[if_pos d]
 have s:jy t (ik 0)=dz t ir:=by rw[Em,mC a]
 have f:=Of a (ik 0);have g:(t.ms.map eY.enc).length=t.ms.length:=ap _;rw[q];refine eZ rfl<|aa (aa ?_);refine cC rfl<|aD rfl rfl<|ae (aj (ar (H':=m.heap g1 g2++[(c,.cells 3 [I 0]),(b2,.cells 87 [.v (.slice none 0 0)])]) zj) (cx (j:=3) (bo:=b2) (To:=87) (cs:=[.v (.slice none 0 0)]) [ints []] rfl ⟨OZ,trivial⟩))<|aa (aa ?_);refine iO [.ret (.fn (.func 209) [] [.pi [tp t 0 g1 g2]])] rfl ⟨zS t 0 g1 g2,trivial⟩<|au<|aJ.fair a (but:=0) zz zz (X:=List Int×Nat) BH (λx=>[(c,.cells 3 [I x.2]),(b2,.cells 87 [ints x.1])]) ([],0) (H0:=[]) m (el [(1,.pi t.enc),(2,.po b2 0),(3,.po c 0)]) rfl zj (qP ⟨rfl,rfl,rfl,trivial⟩ rfl) zq rfl ?_ ?_
 ·intro l o p C m A _ hg;have hk:(aQ BH o ([],0)).2.2<1000:=by rw[BG];rw[A,List.length_append,be]at f;show o.length<1000;omega
  generalize (aQ BH o ([],0)).2=x at hk;obtain⟨ls,k⟩:=x;simp only at hk;refine iO [.aI] rfl ⟨rfl,⟨rfl,rfl,rfl,an 6⟩,trivial⟩ ?_;refine⟨rfl,ae (aq (t:=6) rfl) ?_⟩;refine gm [(1,.pi t.enc),(2,.po b2 0),(3,.po c 0),(6,.pi (bY p))]<|au<|lV [.at 2,.gI 2] rfl ⟨rfl,⟨zz,zz⟩,⟨rfl,rfl,rfl,rfl,an 1⟩,trivial⟩<|bc [.at 2] rfl ⟨rfl,trivial⟩ ?_;by_cases e:k=0
  ·subst e;refine ax rfl rfl<|aa (av ?_);refine kL 3 rfl rfl<|ai (aF.Vn t.ms.length t.ms.length rfl rfl (by rw[g]) (by rw[g]) (an _) zz zz rfl λba=>?_);refine aT.hd (gs:=[]) (hs:=[.gI 4]) rfl ⟨⟨rfl,rfl,rfl,rfl,an 1⟩,trivial⟩<|xh [] [.at 4] rfl ⟨rfl,⟨⟨trivial,trivial⟩,⟨an 6,zq⟩,zq,zq⟩,trivial⟩<|ai (aF.LD (i:=0) rfl rfl rfl ?_);have r:(jH (chunk 1 6 (bY p)) none none).take (min (jH (chunk 1 6 (bY p)) none none).length (a8 t.ms.length ([b0 .i64 0].map AV.v)).length)++(a8 t.ms.length ([b0 .i64 0].map AV.v)).drop (min (jH (chunk 1 6 (bY p)) none none).length (a8 t.ms.length ([b0 .i64 0].map AV.v)).length)=(pQ p).map λx=>[I x]:=by have z:(jH (chunk 1 6 (bY p)) none none).length=6:=rfl;rw[bA,z,Nat.min_eq_right u,Ol u hg.len,List.drop_eq_nil_of_le zj,b7]
   refine aG (aj (ar (H':=(ba,.arr 3 1 t.ms.length ((pQ p).map λx=>[I x]))::(m.heap g1 g2++[(c,.cells 3 [I 1]),(b2,.cells 87 [.so ba (a8 t.ms.length ([b0 .i64 0].map AV.v)).length t.ms.length])])) ?_)
    (bB.mF (i:=0) (j:=3) (b:=ba) (T:=3) (kk:=1) (cap:=t.ms.length) (bo:=b2) (To:=87) (es:=(pQ p).map λx=>[I x]) (cs:=[.so ba (a8 t.ms.length ([b0 .i64 0].map AV.v)).length t.ms.length]) [ints (pQ p)] rfl rfl ⟨.inr ⟨?_,rfl⟩,trivial⟩)) (bh ⟨rfl,m,az _⟩)
   ·rw[<-r];rfl
   ·rw[ap,RG,hg.len,bA]
  ·refine ag (b:=false) (by show B _=B _;refine congrArg B ?_;rw[beq_eq_false_iff_ne];omega) (λh=>by cases h) (λ_=>af ?_);refine⟨rfl,m,?_⟩;simp only[if_neg e];exact az _
 ·intro D F;rw[s,BG];show aJ _ _ _ _ _ _ _ _;refine aa (aJ.SV (gs:=[]) (hs:=[.at 4,.at 3]) [2,30] 4 xr rfl zw ⟨rfl,rfl,trivial⟩ rfl rfl rfl rfl rfl rfl (an 1) rfl ?_);refine aT.hd (gs:=[]) (hs:=[.gI 3]) rfl ⟨⟨rfl,rfl,rfl,rfl,an 1⟩,trivial⟩ ?_
  exact ab ⟨.inr rfl,_,⟨0,rfl,rfl⟩,.many zq (show fN (ja ad _ _) [.cell 2 87,.cell 3 3,.tmp 4] [ints (pQ ((dz t ir).headD [])),I ((dz t ir).length:Nat),I 0]from
   ⟨.dw (n:=none) (i:=3) (cs:=[ints (pQ ((dz t ir).headD []))]) rfl rfl zw rfl,.dw (n:=none) (i:=2) (cs:=[I ((dz t ir).length:Nat)]) rfl rfl zw rfl,.tmp rfl rfl,trivial⟩)⟩
def oI (s x:Sp)(first:Bool):Sp:=if first=true then x else(min s.1 x.1,max s.2 x.2)
theorem Q4 (s x:Sp)(first:Bool):Ev ad 322 [.agg (oK s),.agg (oK x),B first] (.agg (oK (oI s x first))):=by
 refine ak afV.ok<|bc [.bW,.bW,.aI] rfl ⟨⟨rfl,rfl⟩,⟨rfl,rfl⟩,rfl,trivial⟩<|aa (aa ?_);refine cC rfl ?_;cases first with
 |true=>refine ax rfl rfl<|FD rfl ⟨⟨rfl,rfl,rfl,an 2⟩,trivial⟩<|ae (aq (t:=6) rfl) (ab ⟨.inr rfl,[],rfl,.one (.mz (n:=some 2) (cs:=oK x) (bw _ _ _) zw rfl)⟩)
 |false=>refine aD rfl rfl<|FD rfl ⟨⟨rfl,rfl,rfl,an 2⟩,trivial⟩<|ae (aq (t:=6) rfl) (ab ⟨.inr rfl,[],rfl,.one (.mz (n:=some 2) (cs:=oK (oI s x false)) (bw _ _ _) zw rfl)⟩)
def zc (g:List Nat->Sp)(l:List (List Nat)):Sp:=(l.foldl (λ(x:Sp×Bool) p=>(oI x.1 (g p) x.2,false)) ((0,0),true)).1
abbrev MI (g:List Nat->Sp)(x:Sp×Bool)(p:List Nat):J×(Sp×Bool):=(.go,(oI x.1 (g p) x.2,false))
theorem Nr (g:List Nat->Sp)(L:List (List Nat)):(aQ (MI g) L ((0,0),true)).1= .go/\(aQ (MI g) L ((0,0),true)).2.1=zc g L:=by rw[zQ (λ_ _=>rfl)];exact⟨rfl,rfl⟩
def dP (t:aX):Sp×Int:=if iv t (kG t)=0 then(zc (λp=>(((gw p:Nat):Int),((gw p:Nat):Int))) (dz t ir),0)else((0,0),iv t (kG t))
theorem FX (t:aX)(k:t.wf):Ev ad 252 [.agg t.enc] (.bZ [.agg (oK (dP t).1),I (dP t).2]):=by
 refine ak adN.ok<|bc [.bW,.aI] rfl ⟨⟨rfl,rfl⟩,rfl,trivial⟩<|aa (av ?_);refine kL 1 rfl rfl<|ai (bU (Hin:=[]) (H0:=[]) (xp t k 137 [] 0 [] (λ_=>(Ls.toR []))) rfl rfl (aK _) rfl ?_);rintro z o (⟨a,g1,g2,m,rfl,rfl⟩|⟨a,rfl,rfl⟩)
 case inr=>
  rw[uc]at a ⊢;have e:dP t=((0,0),iv t (kG t)):=by unfold dP;rw[if_neg a]
  rw[e];refine eZ rfl<|aa (aa ?_);refine cC rfl<|ag (b:=true) (by show B _=B _;exact congrArg B zx) (λ_=>?_) (λh=>by cases h);refine FD rfl ⟨⟨rfl,rfl,rfl,an 2⟩,trivial⟩<|ae (aq (t:=2) rfl) (ab ⟨.inr rfl,[],rfl,.many zq (show fN (ja ad _ _) [.cell 2 96,.tmp 3] [.agg (oK (0,0)),I (iv t (kG t))]from⟨.mz (n:=some 2) (cs:=oK (0,0)) (bw _ _ _) zw rfl,.tmp rfl rfl,trivial⟩)⟩)
 rw[uc]at a;have d:=((kf k).1 (lT.1 a).1).1;have e:dP t=(zc (λp=>(((gw p:Nat):Int),((gw p:Nat):Int))) (dz t ir),0):=by unfold dP;rw[if_pos a]
 have f:jy t (ik 0)=dz t ir:=by rw[Em,mC d]
 rw[e];refine eZ rfl<|aa (aa ?_);refine cC rfl<|aD rfl rfl<|bc [.aI] rfl ⟨rfl,⟨rfl,rfl,rfl,an 1⟩,trivial⟩<|bM (t:=2) rfl λb2=>bM (t:=5) rfl λb5=>ae (aj (ar (H':=[(b5,.cells 4 [B true]),(b2,.cells 96 (oK (0,0)))]++m.heap g1 g2) rfl) (cd (H':=m.heap g1 g2++[(b5,.cells 4 [B true]),(b2,.cells 96 (oK (0,0)))]) List.perm_append_comm))<|aa (aa ?_);refine iO [.ret (.fn (.func 209) [] [.pi [tp t 0 g1 g2]])] rfl ⟨zS t 0 g1 g2,trivial⟩<|au<|aJ.fair d (but:=0) zz zz (X:=Sp×Bool) (MI λp=>(((gw p:Nat):Int),((gw p:Nat):Int))) (λx=>[(b5,.cells 4 [B x.2]),(b2,.cells 96 (oK x.1))]) ((0,0),true) (H0:=[]) m (el [(2,.po b2 0),(5,.po b5 0)]) rfl zj (qP ⟨rfl,rfl,trivial⟩ rfl) zq rfl ?_ ?_
 ·intro l q p v m w _ hg;generalize (aQ (MI λp=>(((gw p:Nat):Int),((gw p:Nat):Int))) q ((0,0),true)).2=x;obtain⟨s,c⟩:=x;refine cC rfl ?_;refine⟨rfl,?_⟩;refine gm [(2,.po b2 0),(5,.po b5 0),(7,I (gw p:Nat))]<|au ?_;have g:=Q4 s (((gw p:Nat):Int),((gw p:Nat):Int)) c;refine lV [.at 3,.at 2,.ret (.agg (oK (oI s (((gw p:Nat):Int),((gw p:Nat):Int)) c))),.gI 3] rfl ⟨rfl,rfl,g,⟨rfl,rfl,rfl,rfl,an 2⟩,trivial⟩<|W5 [.gI 2] rfl ⟨⟨rfl,rfl,rfl,rfl,an 1⟩,trivial⟩ ?_;exact⟨rfl,m,az _⟩
 ·intro y A;obtain⟨r,u⟩:=Nr (λp=>(((gw p:Nat):Int),((gw p:Nat):Int))) (dz t ir);rw[f,r];simp only[u];show aJ _ _ _ _ _ _ _ _;refine lV [.at 4,.gI 4] rfl ⟨rfl,⟨rfl,rfl,rfl,rfl,an 2⟩,trivial⟩ ?_;generalize zc (λp=>(((gw p:Nat):Int),((gw p:Nat):Int))) (dz t ir)=j;exact ab ⟨.inr rfl,_,⟨0,rfl,rfl⟩,.many zq (show fN (ja ad _ _) [.cell 2 96,.tmp 3] [.agg (oK j),I 0]from⟨.dw (n:=some 2) (i:=3) (cs:=oK j) rfl rfl zw rfl,.tmp rfl rfl,trivial⟩)⟩
theorem SB (l:List eY)(hl:l.length<=1000):Ev ad 311 [nk l] (.aI 106 5 (l.map eY.enc)):=by
 refine ak afF.ok<|aC rfl<|aa (aa (av ?_));refine kL 1 rfl rfl<|ai (aF.W7 Tryz.underlying30 zw rfl rfl λb a=>?_);refine bh ?_;cases b with
 |true=>have he:=a rfl;refine ax rfl rfl<|aC rfl<|ae (bB.ln (t:=2) 106 5 rfl) (ab (fh (.inr rfl) (.aI ?_ rfl)));rw[he];rfl
 |false=>refine aD rfl rfl<|bc [.aI] rfl ⟨rfl,⟨by simp only[ap,chunk,bk];omega,by simp only[ap,chunk,bk];omega⟩,trivial⟩<|ab (fh (.inr rfl) (.aI ?_ rfl));rfl
def jo (t:aX)(x:eY):aX:={t with ms:=t.ms++[x]}
theorem Tl {t:aX}(h:t.OK)(p:t.ms.length<=5){x:eY}(hx:qc t x t.ms.length=0):(jo t x).OK:=by
 obtain⟨⟨a1,d⟩,⟨f,g⟩,⟨j,n⟩,k,l,m,b⟩:=xw.1 hx;have hl:(jo t x).ms.length=t.ms.length+1:=by simp [jo]
 refine⟨h.gz,h.wf,h.Vx,h.RM,zz,λi y hy=>?_,h.GO,λy hy=>?_⟩
 ·have a:(i<t.ms.length/\t.ms[i]? =some y)\/(i=t.ms.length/\y=x):=by
   simp only[jo]at hy;by_cases hi:i<t.ms.length
   ·rw[List.getElem?_append_left hi]at hy;exact .inl ⟨hi,hy⟩
   ·rw[List.getElem?_append_right zz]at hy;have c:=(a7.1 hy).1;simp only[List.length_singleton]at c;have e:i=t.ms.length:=zz
    subst e;rw[Nat.sub_self]at hy;exact .inr ⟨rfl,by simpa using hy.symm⟩
  rcases a with⟨_,hi⟩|⟨rfl,rfl⟩
  ·have o:=h.TJ i y hi;have:=o.Ca;exact⟨o.OS,o.NN,o.v0,o.v1,o.Ce,zz,o.Ul,o.lh,o.Mr,o.own⟩
  ·exact⟨a1,d,f,g,j,zz,k,l,m,b⟩
 ·have:=h.tie y hy;refine⟨this.1,?_,this.2.2.1,?_,this.2.2.2.2⟩<;>omega
def AO (p:List Nat)(n:Nat)(s:Nat)(k:Nat):Nat:=(bn k).foldl (λs i=>if aM p i=aM p n then s ||| 2^i else s) s
theorem Dl (p:List Nat)(n s k:Nat):AO p n s (k+1)=if aM p k=aM p n then AO p n s k ||| 2^k else AO p n s k:=by unfold AO;rw[List.range_succ,List.foldl_append];rfl
theorem Fc (p:List Nat)(n:Nat){s:Nat}(hs:s<32): ∀k,k<=5->AO p n s k<32
 |0,_=>hs
 |k+1,hk=>by
  rw[Dl]
  have a:=Fc p n hs k zz
  split
  ·exact Nat.or_lt_two_pow (n:=5) a (bI zz zz)
  ·exact a
def xH (n:Nat)(L:List (List Nat)):Nat:=L.foldl (λs p=>AO p n s n) 0
abbrev TZ (n:Nat)(s:Nat)(p:List Nat):J×Nat:=(.go,AO p n s n)
theorem Gi (n:Nat)(L:List (List Nat)):aQ (TZ n) L 0=(.go,xH n L):=zQ (λ_ _=>rfl) L 0
theorem Dy (n:Nat)(h:n<=5)(L:List (List Nat)):xH n L<32:=by
 have key: ∀(L:List (List Nat)) (s:Nat),s<32->L.foldl (λs p=>AO p n s n) s<32:=by
  intro L;induction L with
  |nil=>grind
  |cons p L a=>intro s hs;exact a _ (Fc p n hs n h)
 exact key L 0 zz
def ti (t:aX)(x:eY):List Int×Int:=
 if iv t (sv t (qc t x t.ms.length))=0 then(cM (xH t.ms.length (dz (jo t x) ir):Nat) t.ms.length,0)else([],iv t (sv t (qc t x t.ms.length)))
theorem Vy (t:aX)(J:t.wf)(x:eY):Ev ad 241 [.agg t.enc,.agg x.enc] (.bZ [ints (ti t x).1,I (ti t x).2]):=by
 have i:(t.ms.map eY.enc).length=t.ms.length:=ap _;refine ak acQ.ok<|bc [.aI,.bW] rfl ⟨⟨rfl,rfl⟩,⟨rfl,rfl⟩,trivial⟩<|bM (t:=2) rfl λb2=>ae (ar (H':=[(b2,.cells 33 t.enc)]) rfl)<|aa (av ?_);refine lz [.at 0] 2 rfl rfl ⟨rfl,trivial⟩<|ai (bU (Hin:=[(b2,.cells 33 t.enc)]) (H0:=[]) (xp t J 310 [.po b2 0,.pi x.enc] (qc t x t.ms.length) [(b2,.cells 33 t.enc)] (λh=>by
  have z:=(kf J).1 h
  have:=z.1.gz.Vf
  have:=z.1.Vx
  have:=z.1.RM
  exact T2 t x b2 zz zz zz zz)) rfl rfl (aK _) rfl ?_)
 rintro W L (⟨r,g1,g2,m,rfl,rfl⟩|⟨r,rfl,rfl⟩)
 case inr=>
  have C:ti t x=([],iv t (sv t (qc t x t.ms.length))):=by unfold ti;rw[if_neg r]
  rw[C];refine eZ rfl<|aa (aa ?_);refine cC rfl<|ag (b:=true) (by show B _=B _;exact congrArg B zx) (λ_=>?_) (λh=>by cases h);refine aC rfl<|ae (bB.jD (t:=4) 1 rfl)<|ab (dm ?_ ?_)
  ·rfl
  ·rfl
 obtain⟨y,_⟩:=lT.1 r;obtain⟨H,v⟩:=DQ.1 y;obtain⟨A,w⟩:=(kf J).1 H;have g:=Tl A w v;have R:(jo t x).ms.length=t.ms.length+1:=by simp [jo]
 have C:ti t x=(cM (xH t.ms.length (dz (jo t x) ir):Nat) t.ms.length,0):=by unfold ti;rw[if_pos r]
 have E:jy (jo t x) (ik 0)=dz (jo t x) ir:=by rw[Em,mC g]
 have o:(jo t x).enc=t.gz.enc++[I t.vC,.sl 5 (t.ms.map eY.enc++[x.enc]),pg t.fr]:=by simp only[jo,aX.enc,nk,List.map_append,b1,List.map_nil]
 rw[C];refine eZ rfl<|aa (aa ?_);refine cC rfl<|aD rfl rfl<|ae (aj (ar (H':=m.heap g1 g2++[(b2,.cells 33 t.enc)]) rfl) (du (H':=[(b2,.cells 33 t.enc)]) (bs _ _)))<|bc [.at 0,.aI] rfl ⟨rfl,rfl,⟨rfl,rfl,rfl,an 1⟩,trivial⟩<|ae (aq (t:=8) rfl) ?_;have D:=SB t.ms zz;refine aa (xh [] [.at 0,.ret (.aI 106 5 (t.ms.map eY.enc)),.bW] rfl ⟨rfl,D,rfl,⟨by simp only[i,chunk,be,bk];omega,by simp only[i,chunk,be,bk];omega⟩,trivial⟩ ?_);refine aG (bB.ga (t:=29) rfl)<|aT.hd (gs:=[]) (hs:=[.gI 0]) rfl ⟨⟨rfl,rfl,rfl,rfl,(show 5<=6 from zz)⟩,trivial⟩<|ae (aj (ar (H':=[(b2,.cells 33 (jo t x).enc)]) (by rw[o];rfl)) (ao (l:=[(2,.po b2 0),(8,.pi [I (t.ms.length:Nat)])]) ⟨rfl,by show AV.pi [I _]=_;rw[i],trivial⟩))<|bc [.aI] rfl ⟨rfl,⟨rfl,rfl,rfl,an 1⟩,trivial⟩<|bM (t:=9) rfl λd=>ae (ar (H':=[(d,.cells 3 [I (0:Nat)]),(b2,.cells 33 (jo t x).enc)]) rfl)<|aa (aa (av ?_));refine lz [.at 1] 1 rfl rfl ⟨rfl,trivial⟩<|ai (bU (Hin:=[]) (H0:=[(d,.cells 3 [I (0:Nat)]),(b2,.cells 33 (jo t x).enc)]) (Gb (jo t x) 0) rfl rfl (aK _) rfl ?_);rintro Y M ⟨g1,g2,rfl,rfl⟩;refine Sc [.ret (.fn (.func 209) [] [.pi [tp (jo t x) 0 g1 g2]])] rfl ⟨zS (jo t x) 0 g1 g2,trivial⟩<|au<|aJ.fair g (but:=0) zz zz (X:=Nat) (TZ t.ms.length) (λs=>[(d,.cells 3 [I (s:Nat)])]) 0 (H0:=[(b2,.cells 33 (jo t x).enc)]) (MS.new _) (el [(8,.pi [I (t.ms.length:Nat)]),(9,.po d 0)]) rfl rfl (qP ⟨rfl,rfl,trivial⟩ rfl) zq rfl ?_ ?_
 ·intro l u p T m U _ hg;have f:(aQ (TZ t.ms.length) u 0).2<32:=by rw[Gi];exact Dy _ w u
  generalize (aQ (TZ t.ms.length) u 0).2=s at f;obtain⟨Q,P⟩:=sR g.Ax hg;refine iO [.aI] rfl ⟨rfl,⟨rfl,rfl,rfl,an 6⟩,trivial⟩ ?_;refine⟨rfl,ae (aq (t:=10) rfl) ?_⟩;refine gm [(8,.pi [I (t.ms.length:Nat)]),(9,.po d 0),(10,.pi (bY p))]<|au<|aC rfl<|au<|br (λk:Nat=>k<=t.ms.length) (λk=>el [(8,.pi [I (t.ms.length:Nat)]),(9,.po d 0),(10,.pi (bY p)),(36,I (t.ms.length:Nat)),(37,I k)]) (λk=>m.heap g1 g2++[(d,.cells 3 [I (AO p t.ms.length s k:Nat)])]) (λ_=>[]) (λk=>t.ms.length-k) 0 zz
   (aj (ar (H':=m.heap g1 g2++[(d,.cells 3 [I (AO p t.ms.length s 0:Nat)])]) rfl) (ao (l:=[(8,.pi [I (t.ms.length:Nat)]),(9,.po d 0),(10,.pi (bY p)),(36,I (t.ms.length:Nat)),(37,I 0)]) ⟨rfl,rfl,rfl,rfl,rfl,trivial⟩)) ?_
  intro k hk;have K:=Fc p t.ms.length f k zz;have c:=Dl p t.ms.length s k;refine aC rfl<|aa (ag rfl (λhc=>?_) (λhc=>?_))
  ·simp only[nL]at hc;have l1:=mQ (aM p) (k:=k) zz;have l2:=mQ (aM p) (k:=t.ms.length) zz;have G:(2:Nat)^k<32:=by have:=bI (a:=2) (m:=k) (n:=5) zz zz;omega
   have j:(1:Int)*2^((k:Nat):Int).toNat=((2^k:Nat):Int):=zj
   have N:(1:Int)*2^((k:Nat):Int).toNat<32:=by rw[j];exact Int.ofNat_lt.2 G
   have O:0<=(1:Int)*2^((k:Nat):Int).toNat:=by rw[j];exact Int.natCast_nonneg _
   generalize AO p t.ms.length s k=S at K c;refine af (aa (au ?_));refine aC rfl<|vj [] [.pre [I (aM p k:Nat)],.pre [I (aM p t.ms.length:Nat)]] rfl ⟨⟨⟨zz,zz⟩,l1⟩,⟨⟨zz,zz⟩,l2⟩,trivial⟩ ?_;by_cases he:aM p k=aM p t.ms.length
   ·rw[if_pos he]at c;refine ag (b:=true) (by show B _=B _;exact congrArg B (by rw[beq_iff_eq,he])) (λ_=>?_) (λh=>by cases h);refine xh [] [.at 2] rfl ⟨rfl,⟨zz,zz,zz,zz⟩,⟨⟨zz,zz⟩,zz,zz⟩,trivial⟩<|aT.hd (gs:=[]) (hs:=[.gI 2]) rfl ⟨⟨rfl,rfl,rfl,rfl,an 1⟩,trivial⟩<|dS rfl ⟨zz,trivial⟩ ?_;refine⟨k+1,zz,zz,aj (ar ?_) eL⟩;show m.heap g1 g2++[(d,cP.cells _ [I ((((S:Nat):Int).toNat ||| ((1:Int)*2^((k:Nat):Int).toNat).toNat:Nat))])]=_;rw[c,j,b3,b3]
   ·rw[if_neg he]at c;refine ag (b:=false) (by show B _=B _;exact congrArg B (by rw[beq_eq_false_iff_ne];omega)) (λh=>by cases h) (λ_=>af ?_);refine dS rfl ⟨zz,trivial⟩ ?_;refine⟨k+1,zz,zz,aj (ar (by rw[c])) eL⟩
  ·simp only[nL]at hc;have e:k=t.ms.length:=zz
   subst e;exact ay ⟨rfl,m,az _⟩
 ·intro V Z;rw[E,Gi];have F:=Dy t.ms.length w (dz (jo t x) ir);generalize xH t.ms.length (dz (jo t x) ir)=s at F;show aJ _ _ _ _ _ _ _ _;have q:Ev ad 312 [I (s:Nat),I (t.ms.length:Nat)] (ints (cM (s:Nat) t.ms.length)):=dN (zg (s:Nat) t.ms.length zz zz zz);refine bc [.at 3,.ret (ints (cM (s:Nat) t.ms.length))] rfl ⟨rfl,q,trivial⟩ ?_;exact ab ⟨.inr rfl,_,⟨0,rfl,rfl⟩,.many zq ⟨.tmp rfl rfl,.tmp rfl rfl,trivial⟩⟩
structure cE where
 sh:Shelf
 ix:List Wd
 tw:aX
 dr:kK
 li:iX
 ch:lH
 le:List (List Wd)
 ca:Int
def Ii (ix l:List Wd):List Bool:=(bn 5).map λi=>match ix[i]? with|some s=>l.contains s|none=>false
def PS (n:Int):List Bool:=(bn 5).map λi=>n.toNat.testBit i
def Yu (h:List Bool):Nat:=(bn 5).foldl (λs i=>if h.getD i false=true then s ||| 2^i else s) 0
def OR (a:cE)(i:Nat):Int:=match a.ix[i]? with
 |none=>0
 |some s=>if cG [s]≠0 then 6 else if (a.ix.take i).contains s=true then 5 else 0
def Ot (a:cE)(i:Nat):Int:=match a.le[i]?,a.ch.co[i]? with
 |some l,some x=>if cG l≠0 then cG l else if Ii a.ix l≠PS x.wo then 2 else 0
 |_,_=>0
def iL (a:cE):Nat->Int
 |0=>(eD a.sh).2.2
 |1=>(iQ a.tw).2.2
 |2=>(dH a.dr).2.2
 |3=>(eK a.li).2.2
 |4=>(fc a.ch).2.2
 |5=>if (a.ix.length:Int)≠a.ch.wo then 3 else(aA (OR a) a.ix.length 0).2
 |6=>if a.le.length≠a.ch.co.length then 3 else(aA (Ot a) a.le.length 0).2
 |7=>if a.ca<0\/9999<a.ca then 7 else 0
 |8=>(gq a.tw).2.2
 |9=>gQ a.li 0 []
 |_=>0
def cZ (a:cE):Int×Int:=if (aA (iL a) 10 0).2=0 then(0,0)else((aA (iL a) 10 0).1+1,(aA (iL a) 10 0).2)
inductive Kd where
 |num (none:Bool)
 |yU (s:Wd)
 |bH
 |kV
 |BL
 |nt
 |gT
 |fresh
 deriving DecidableEq
def oE (a:cE):Kd->List Wd
 | .yU s=>[s]
 | .bH=>a.sh.bH.map (·.name)
 | .kV=>a.ch.pe
 | .BL=>a.dr.hs.map (·.nm)
 | .nt=>a.li.su.map (·.nm)
 | .gT=>a.li.cl
 |_=>[]
def Tu (c:UInt8):Bool:=decide (48<=c)&&decide (c<=57)
def UD (s:Wd):Nat:=s.foldl (λn c=>10*n+(c.toNat-48)) 0
def rH (s:Wd):Int:=if s≠[]/\s.all Tu=true/\(s.length=1\/s.headD 0≠48)/\s.length<=3 then(UD s:Int)else -1
def gY (a:cE)(k:Kd)(s:Wd):Option (Int×Int):=
 if s=[]then none else match k with
 | .num o=>if o=true/\s=[45]then some (-1,0)else if rH s<0 then none else some (rH s,0)
 | .yU w=>if s=w then some (0,0)else none
 | .fresh=>some (0,0)
 |k=>if bD (λx=>x==s) (oE a k) 0<0 then some (0,4)else some (bD (λx=>x==s) (oE a k) 0,0)
structure bf where
 ws:List Kd
 more:Option Kd
 id:Nat
def Wy:Wd:=[115,101,97,108]
def WJ:Wd:=[102,105,110,100]
def Wi:Wd:=[99,111,112,121]
def ZH:Wd:=[107,101,121]
def W4:Wd:=[104,97,108,102]
def Wj:Wd:=[114,101,97,100]
def FW:Wd:=[109,101,110,116,105,111,110]
def Iu:Wd:=[115,97,109,101]
def E9:Wd:=[111,116,104,101,114]
def yx:Wd:=[119,111,114,100]
def wIs:Wd:=[105,115]
def VY:Wd:=[110,111,116]
def WC:Wd:=[99,111,109,101]
def Zz:Wd:=[112,97,121]
def WK:Wd:=[104,101,108,100]
def WD:Wd:=[108,111,115,116]
def G5:Wd:=[112,101,114,115,111,110,115]
def uY:List (Wd×List bf):=
 [(Wy,[⟨[.bH,.kV],some .fresh,0⟩]),(WJ,[⟨[.kV],some .fresh,1⟩]),(Wi,[⟨[.kV,.num false],none,2⟩]),(ZH,[⟨[.kV,.num false],none,3⟩]),
  (W4,[⟨[.fresh],some (.num true),4⟩]),(Wj,[⟨[.BL],none,5⟩]),(FW,[⟨[.num false,.num true,.num false,.num false,.num true],none,6⟩]),
  (Iu,[⟨[.num false,.num false],none,7⟩]),(E9,[⟨[.num false,.num false],none,8⟩]),
  (yx,[⟨[.nt,.yU wIs,.gT],none,9⟩,⟨[.nt,.yU VY,.gT],none,10⟩,⟨[.nt,.yU Iu,.nt],none,11⟩,⟨[.nt,.yU E9,.nt],none,12⟩]),
  (WC,[⟨[.num false],none,13⟩]),(Zz,[⟨[.nt],none,14⟩]),(WK,[⟨[],none,15⟩]),(WD,[⟨[],none,16⟩]),(G5,[⟨[],none,17⟩])]
def bG (w:Wd):List bf:=match uY.find? (λx=>x.1==w)with|some x=>x.2|none=>[]
def okB (c:UInt8):Bool:=(decide (97<=c)&&decide (c<=122))||Tu c||c==46||c==45||c==32
def dL (s:Wd):Bool:=s.all okB&&decide (s≠[])&&decide (s.length<=70)
def dF (x:bf)(own:List Wd):Bool:=decide (x.ws.length<=own.length)&&(decide (own.length=x.ws.length)||x.more.isSome)&&
 (bn x.ws.length).all λi=>match x.ws[i]? with|some (.yU s)=>own[i]? ==some s|_=>true
def gS (x:bf)(i:Nat):Kd:=match x.ws[i]? with|some k=>k|none=>x.more.getD .fresh
def xW (a:cE)(x:bf):List Wd->Nat->Int->List Int->Option (List Int×Int)
 |[],_,e,out=>some (out,e)
 |s::l,i,e,out=>match gY a (gS x i) s with
  |none=>none
  |some (n,f)=>xW a x l (i+1) (if f=0 then e else f) (out++[n])
def oe:List Wd->Wd
 |[]=>[]
 |[w]=>w
 |w::ws=>w++32::oe ws
def ux (l:List Wd):Wd:=if l=[]then[45]else oe l
def eG (n:Int):Wd:=Lib.itoa n
def mA (l:List Int):Wd:=ux (l.map eG)
def uE (all:List Wd)(l:List Int):Wd:=ux (l.map λi=>all.getD i.toNat [])
abbrev iM:=Int ⊕ (cE×Wd)
def kt (a:cE)(r:iM):iM:=if (cZ a).2≠0 then .inl (cZ a).2 else r
def sH (a:cE):iM:=if (oP a.li).2≠0 then .inl (oP a.li).2 else .inr (a,uE (a.li.su.map (·.nm)) (oP a.li).1)
def nth (n:List Int)(i:Nat):Int:=n.getD i 0
def CX (a:cE)(ws:List Wd)(n:List Int):iM:=
 let l:=ws.drop 3
 let f:=eJ a.sh (nth n 0) l
 if f.2.2≠0 then .inl f.2.2 else
 let b:cE:={a with ch:={a.ch with la:=a.ch.la+1,co:=a.ch.co++[⟨a.ch.la+1,(Yu (Ii a.ix l):Nat),0,2^(nth n 1).toNat⟩]},le:=a.le++[l]}
 kt b (.inr (b,mA [a.ch.la+1,f.2.1]))
def Df (a:cE)(ws:List Wd)(n:List Int):iM:=
 let own:=ws.drop 2
 if own.all (λs=>a.ix.contains s)=false then .inl 4 else
 let words:=((bn a.ix.length).filter λi=>own.contains (a.ix.getD i [])).map λ(i:Nat)=>(i:Int)
 let f:=oQ a.ch (nth n 0) words
 if f.2≠0 then .inl f.2 else .inr (a,mA (f.1.map λi=>(a.ch.co.getD i.toNat ⟨0,0,0,0⟩).nu))
def ug (a:cE)(n:List Int):iM:=
 let i:=bD (λx=>x.nu==nth n 1) a.ch.co 0
 if i<0 then .inl 4 else if (a.ch.co.getD i.toNat ⟨0,0,0,0⟩).ma.toNat.testBit (nth n 0).toNat=false then .inl 2 else .inr (a,ux (a.le.getD i.toNat []))
def Nc (a:cE)(n:List Int):iM:=
 let f:=vk a.ch (nth n 0) (nth n 1)
 if f.2≠0 then .inl f.2 else .inr (a,uE a.ix f.1)
def GM (a:cE)(ws:List Wd)(n:List Int):iM:=
 let b:cE:={a with dr:={a.dr with hs:=a.dr.hs++[⟨ws.getD 1 [],n.drop 1⟩]}}
 kt b (let f:=iH b.dr ((b.dr.hs.length:Int)-1);if f.2=9 then .inr (b,[45])else .inr (b,(b.dr.cs.getD f.1.toNat ⟨[],[]⟩).nm))
def DJ (a:cE)(n:List Int):iM:=
 let f:=iH a.dr (nth n 0)
 if f.2≠0 then .inl f.2 else .inr (a,(a.dr.cs.getD f.1.toNat ⟨[],[]⟩).nm)
def qi (a:cE)(n:List Int):iM:=
 let x:eY:=⟨nth n 0,nth n 1,nth n 2,nth n 3,nth n 4⟩
 let f:=ti a.tw x
 if f.2≠0 then .inl f.2 else
 let b:cE:={a with tw:={a.tw with ms:=a.tw.ms++[x]}}
 kt b (.inr (b,mA f.1))
def xG (a:cE)(n:List Int)(same:Bool):iM:=
 let b:cE:={a with tw:={a.tw with fr:=a.tw.fr++[⟨nth n 0,nth n 1,same⟩]}}
 kt b (.inr (b,mA [(gq b.tw).2.1]))
def kO (a:cE)(n:List Int)(c:Int):iM:=
 let b:cE:={a with li:={a.li with wo:=a.li.wo++[⟨c,nth n 0,nth n 2,-1,true⟩]}}
 kt b (sH b)
def CJ (a:cE)(n:List Int):iM:=
 match a.li.wo[(nth n 0).toNat]? with
 |none=>.inl 4
 |some w=>if w.ca=true then .inl 5 else
  let b:cE:={a with li:={a.li with wo:=a.li.wo.set (nth n 0).toNat {w with ca:=true}}}
  kt b (sH b)
def Oj (a:cE)(n:List Int):iM:=
 if a.li.pa.any (λp=>p.su==nth n 0)=true then .inl 5 else
 let f:=pz a.li (nth n 0)
 if f.2≠0 then .inl f.2 else
 let pe:=(a.li.su.getD (nth n 0).toNat ⟨[],0,0⟩).pe
 if a.ca<pe then .inl 9 else
 let b:cE:={a with ca:=a.ca-pe,li:={a.li with pa:=a.li.pa++[⟨nth n 0,f.1⟩]}}
 kt b (.inr (b,b.li.cl.getD f.1.toNat []))
def uZ (a:cE):iM:=if (rq a.ch).2≠0 then .inl (rq a.ch).2 else .inr (a,mA (rq a.ch).1)
def oj (a:cE):iM:=if (dP a.tw).2≠0 then .inl (dP a.tw).2 else .inr (a,mA [(dP a.tw).1.1,(dP a.tw).1.2])
def yW (a:cE)(ws:List Wd)(n:List Int):Nat->iM
 |0=>CX a ws n
 |1=>Df a ws n
 |2=>ug a n
 |3=>Nc a n
 |4=>GM a ws n
 |5=>DJ a n
 |6=>qi a n
 |7=>xG a n true
 |8=>xG a n false
 |9=>kO a n 0
 |10=>kO a n 1
 |11=>kO a n 2
 |12=>kO a n 3
 |13=>CJ a n
 |14=>Oj a n
 |15=>sH a
 |16=>uZ a
 |_=>oj a
def gC (a:cE)(s:Wd):iM:=
 if dL s=false then .inl 6 else
 let ws:=aV 32 s
 match (bG (ws.headD [])).find? (λx=>dF x (ws.drop 1))with
 |none=>.inl 6
 |some x=>match xW a x (ws.drop 1) 0 0 []with
  |none=>.inl 6
  |some (n,e)=>if e≠0 then .inl e else yW a ws n x.id
def dB (a:cE)(l:List Wd):Int:=if (cZ a).2≠0 then(cZ a).2 else if 14<l.length then 3 else if l.all dL=false then 6 else 0
def C7 (i:Nat)(s:Wd)(c:iM):Wd:=match c with
 | .inl e=>eG (i+1)++[58,32]++s++[32,35,32]++eG e
 | .inr (_,r)=>eG (i+1)++[58,32]++s++[32,62,32]++r
def rk (a:cE)(c:iM):cE:=match c with| .inl _=>a| .inr (b,_)=>b
def lL:cE->Nat->List Wd->List Wd×cE
 |a,_,[]=>([],a)
 |a,i,s::l=>(C7 i s (gC a s)::(lL (rk a (gC a s)) (i+1) l).1,(lL (rk a (gC a s)) (i+1) l).2)
def kz:cE:=⟨⟨0,[]⟩,[],⟨⟨0,[],[]⟩,0,[],[]⟩,⟨0,0,0,[],[]⟩,⟨[],[],[],[]⟩,⟨0,0,[],0,[],[]⟩,[],0⟩
def Po (a:cE)(s:Wd):cE×Wd×Int:=if dB a []≠0 then(kz,[],dB a [])else match gC a s with| .inl e=>(kz,[],e)| .inr (b,r)=>(b,r,0)
def kS (a:cE)(l:List Wd):List Wd×cE×Int:=if dB a l≠0 then([],kz,dB a l)else((lL a 0 l).1,(lL a 0 l).2,0)
theorem M1 {S:aE}{b:Nat}: ∀{l:List (List UInt8)} {o:Nat},gE S 1 (l.map λs=>[bg s]) b o-> ∀(j:Nat) (s:List UInt8),l[j]? =some s->S.cell b (o+j)=some (.string ⟨s.toArray⟩)
 |x::l,o,h,0,s,hs=>by
  simp only[b1,gE,eO,aR]at h
  obtain⟨-,⟨⟨c,a,-,d⟩,-⟩,-⟩:=h
  simp only[List.getElem?_cons_zero,cc]at hs
  subst hs
  rw[Nat.add_zero,a,d]
 |x::l,o,h,j+1,s,hs=>by
  simp only[b1,gE]at h
  have:=M1 h.2.2 j s (by simpa using hs)
  rw[show o+(j+1)=o+1+j from zz];exact this
theorem vo: ∀l:List (List UInt8),oe l=cr l [32]
 |[]=>rfl
 |[w]=>(Lib.join_one w [32]).symm
 |w::x::l=>by
  have a:=vo (x::l)
  rw[oe,a,cb,cb]
  ·simp [Lib.joinTail]
  ·simp
theorem Un (l:List (List UInt8))(hl:l.length<=1000000)(u:(oe l).length<=1000000):Ev ad 300 [strs l,bg [32]] (bg (oe l)):=by
 refine Ev.of ⟨_,Tryz.func300,zw,zw⟩ rfl λS w z hg d k=>?_;simp only[aS,aR]at k;obtain⟨v1,n,rfl,hy,v,o,rfl,rfl,rfl⟩:=k;rcases hy with⟨⟨m,rfl⟩,f⟩|⟨b,off,cap,rfl,r,t,p⟩
 ·have:l=[]:=List.map_eq_nil_iff.1 f;subst this;refine(bx Tryz.Ad Tryz.SK m 0 ⟨[32].toArray⟩ w).mono ?_;rintro e w' ⟨rfl,rfl⟩;exact⟨_,rfl,b6 _ _,by simp only[aR];rfl⟩
 ·have a:=M1 p;have c:l.length<=cap:=zx
  have g:((l.map λs=>(⟨s.toArray⟩:ByteArray)).map (·.data.toList))=l:=by rw[List.map_map];exact List.map_id l
  cases l with
  |nil=>refine(bx Tryz.Ad Tryz.SK (some ⟨b,off,none⟩) cap ⟨[32].toArray⟩ w).mono ?_;rintro e w' ⟨rfl,rfl⟩;exact⟨_,rfl,b6 _ _,by simp only[aR];rfl⟩
  |cons x l=>
   have i:b<w.heap.size:=d.lt (.inl ⟨_,_,a 0 x rfl⟩)
   have h:=Any.strings_Join Tryz.Ad Tryz.SK b off cap ((x::l).map λs=>(⟨s.toArray⟩:ByteArray)) ⟨[32].toArray⟩ w
    (λj y hy=>by
      rw[List.getElem?_map,Option.map_eq_some_iff]at hy
      obtain⟨s,hs,rfl⟩:=hy
      exact d.cell _ _ _ (a j s hs)) i (by rw[ap];omega) (by rw[ap];exact c)
    (by rw[g];show (cr (x::l) [32]).length<=_;rw[<-vo];omega)
   rw[g]at h;rw[ap]at h ⊢;refine h.mono ?_;rintro e w' ⟨rfl,q⟩;exact⟨_,rfl,q,by simp only[aR];show _=Value.string ⟨(oe _).toArray⟩;rw[vo]⟩
set_option maxRecDepth 100000 in
theorem Ht (s:List UInt8)(hs:s.length<=1000000)(ha:s.all (λb=>decide (b.toNat<128))=true):Ev ad 42 [bg s,bg [62,35]] (I (Lib.indexAny s [62,35])):=by
 refine Ev.of ⟨_,Tryz.func42,zw,zw⟩ rfl λS w k hg h d=>?_;simp only[aS,aR]at d;obtain⟨v1,f,rfl,rfl,i,g,rfl,rfl,rfl⟩:=d;have c:(⟨s.toArray⟩:ByteArray).size=s.length:=by simp [bm]
 refine(Any.strings_IndexAny Tryz.Ee Tryz.zeroValue173 zw ⟨s.toArray⟩ ⟨[62,35].toArray⟩ w (by rw[c];omega) (by show 2<_;decide) (λj b a=>zx) ?_).mono ?_
 ·intro j b a;match j,a with
  |0,a=>cases a;decide
  |1,a=>cases a;decide
 rintro e w' ⟨rfl,a⟩;exact⟨_,rfl,a,by simp only[aR]⟩
def MO (u:Nat):Bool:=(decide (97<=u)&&decide (u<=122))||(decide (48<=u)&&decide (u<=57))||u==46||u==45||u==32
theorem Wv (c:UInt8):okB c=MO c.toNat:=by
 unfold okB MO Tu;have a: ∀n:UInt8,(c==n)=(c.toNat==n.toNat):=λn=>by rw[bi,beq_iff_eq,beq_iff_eq];exact⟨λh=>by rw[h],λh=>UInt8.toNat_inj.1 h⟩
 rw[a,a,a];rfl
theorem jI (s:List UInt8):Ev ad 40 [bg s] (B (dL s)):=by
 refine ak S40.ok<|aC rfl<|aa (aa (av ?_));refine aT.xq (gs:=[]) (hs:=[]) rfl trivial<|ai (aF.tn rfl (λb=>?_));refine eZ rfl<|bE (s.all okB=true) (el [(0,bg s)]) [] [] ?_ ?_
 ·refine br (λk:Nat=>k<=s.length/\s.all okB=(s.drop k).all okB) (λk=>el [(0,bg s),(6,.po b 0)]) (λk=>[(b,.raw (.stringIter ⟨s.toArray⟩ k))]) (λ_=>[]) (λk=>s.length-k) 0 ⟨zz,rfl⟩
   eL ?_
  rintro k ⟨hk,hi⟩;refine aa (av (ai (aF.Qr (i:=0) rfl rfl (λg=>?_) (λg=>?_))))
  ·simp only[b4,bm]at g;obtain⟨c,hc⟩:=aL g;have hg:(cA s.toArray).get! k=c:=by have C:=(a7.1 hc).2;show s.toArray[k]! =c;rw[getElem!_pos s.toArray k (by simpa using g)];simpa using C
   rw[drop_cons hc,List.all_cons]at hi;have w:128<=c.toNat->128<=(bt ⟨s.toArray⟩ k).1:=λh=>xK _ _ (by rw[hg];exact h);have m:c.toNat<128->bt ⟨s.toArray⟩ k=(c.toNat,1):=λh=>by rw[yn _ _ (by rw[hg];exact h),hg]
   have f:okB c=MO (bt ⟨s.toArray⟩ k).1:=by
    rw[Wv];by_cases h:c.toNat<128
    ·rw[m h]
    ·have:=w zz;unfold MO;rw[bi];simp;omega
   have a:okB c=true->(bt ⟨s.toArray⟩ k).2=1:=by intro h;rw[m];rw[Wv]at h;unfold MO at h;simp at h;omega
   generalize F:bt ⟨s.toArray⟩ k=A at f a;obtain⟨u,o⟩:=A;simp only at f a;rw[f]at hi a;refine eZ rfl<|aa (ag (b:=true) rfl (λ_=>af ?_) (λh=>by cases h));refine au<|aC rfl<|au<|dZ True (el [(0,bg s),(6,.po b 0),(10,B (MO u))]) [(b,.raw (.stringIter ⟨s.toArray⟩ (k+o)))] [] ?_ ?_
   ·let E:Bool->List (Nat×AV):=λq=>[(0,bg s),(4,.v (.int .i32 u)),(6,.po b 0),(10,B q)];have fin: ∀{Q:cI} {q:Bool} {Y:Env->Heap->List Nat->Prop},MO u=q->(∀e h d,(∃_:Unit,True/\bB e h d (el [(0,bg s),(6,.po b 0),(10,B (MO u))]) [(b,.raw (.stringIter ⟨s.toArray⟩ (k+o)))] [])->Y e h d)->Y (el (E q)) [(b,.raw (.stringIter ⟨s.toArray⟩ (k+o)))] []:=by intro Q q Y h D;exact D _ _ _ ⟨(),trivial,ao ⟨rfl,rfl,by rw[h];rfl,trivial⟩⟩
    refine dZ True (el (E (decide (97<=u)&&decide (u<=122)))) [(b,.raw (.stringIter ⟨s.toArray⟩ (k+o)))] [] ?_ ?_
    ·by_cases j:97<=u
     ·refine js [(13,true)] [] rfl (by simp;omega) ?_;exact⟨(),trivial,ao ⟨rfl,rfl,rfl,by show B _=B _;simp [j];omega,trivial⟩⟩
     ·refine js [(13,false)] [] rfl (by simp;omega) ?_;exact⟨(),trivial,ao ⟨rfl,rfl,rfl,by show B _=B _;simp [j],trivial⟩⟩
    intro _ _;cases n:(decide (97<=u)&&decide (u<=122))with
    |true=>exact ax rfl rfl (af (fin (Q:=λ_ _ _ _=>True) (by unfold MO;rw[n];rfl) (λ_ _ _ h=>h)))
    |false=>
    refine cJ rfl rfl<|dZ True (el (E (decide (48<=u)&&decide (u<=57)))) [(b,.raw (.stringIter ⟨s.toArray⟩ (k+o)))] [] ?_ ?_
    ·by_cases j:48<=u
     ·refine js [(19,true)] [] rfl (by simp;omega) ?_;exact⟨(),trivial,ao ⟨rfl,rfl,rfl,by show B _=B _;simp [j];omega,trivial⟩⟩
     ·refine js [(19,false)] [] rfl (by simp;omega) ?_;exact⟨(),trivial,ao ⟨rfl,rfl,rfl,by show B _=B _;simp [j],trivial⟩⟩
    intro _ _;cases p:(decide (48<=u)&&decide (u<=57))with
    |true=>exact ax rfl rfl (af (fin (Q:=λ_ _ _ _=>True) (by unfold MO;rw[n,p];rfl) (λ_ _ _ h=>h)))
    |false=>
    refine cJ rfl rfl<|aC rfl ?_;by_cases y:u=46
    ·refine ax rfl (by rw[beq_iff_eq];omega) (af ⟨(),trivial,ao ⟨rfl,rfl,?_,trivial⟩⟩);show B _=B _;unfold MO;rw[n,p,y];rfl
    refine cJ rfl (by rw[beq_eq_false_iff_ne];omega)<|aC rfl ?_;by_cases z:u=45
    ·refine ax rfl (by rw[beq_iff_eq];omega) (af ⟨(),trivial,ao ⟨rfl,rfl,?_,trivial⟩⟩);show B _=B _;unfold MO;rw[n,p,z];rfl
    refine cJ rfl (by rw[beq_eq_false_iff_ne];omega)<|cC rfl ?_;refine⟨(),trivial,ao ⟨rfl,rfl,?_,trivial⟩⟩;show B _=B _;unfold MO;rw[n,p];refine congrArg B ?_;rw[bi];simp [y,z];omega
   intro _ _;cases t:MO u with
   |true=>rw[t,b9]at hi;have:=a t;subst this;exact ax rfl rfl (af ⟨k+1,⟨g,hi⟩,zz,eL⟩)
   |false=>rw[t,Bool.false_and]at hi;refine cJ rfl rfl<|aC rfl<|ab (aB ?_);show B _=B _;unfold dL;rw[hi];rfl
  ·simp only[b4,bm]at g;refine eZ rfl<|aa (cJ rfl rfl ?_);refine ay ⟨(),?_,aj (du (List.nil_sublist _)) eL⟩;rw[hi,drop_nil zz];rfl
 ·intro _ l;have x:dL s=(decide (s≠[])&&decide (s.length<=70)):=by unfold dL;rw[l,b9]
  by_cases r:s=[]
  ·subst r;refine uk [(31,false)] [] rfl zj<|ab (aB ?_);rw[x];rfl
  ·refine uk [(31,true)] [] rfl (by simp [r])<|ab (aB ?_);show B _=B _;rw[x];refine congrArg B ?_;rw[bi];simp [r,bm];omega
abbrev b5 (f:Nat->Bool):List AV:=[B (f 0),B (f 1),B (f 2),B (f 3),B (f 4)]
theorem b5c {C:Nat->Prop}(a:C 0)(b:C 1)(c:C 2)(d:C 3)(h4:C 4){k:Nat}(h:k<5):C k:=zx
theorem Q6 (f:Nat->Bool)(v:Bool){k:Nat}(h:k<5):bK (b5 f) (0+k*1) [B v]=b5 (λj=>if j=k then v else f j):=
 b5c (C:=λk=>bK (b5 f) (0+k*1) [B v]=b5 (λj=>if j=k then v else f j)) rfl rfl rfl rfl rfl h
def sK (ix l:List Wd)(i:Nat):Bool:=match ix[i]? with|some s=>l.contains s|none=>false
theorem DH (ix l:List Wd)(f:ix.length<=5):Ev ad 66 [strs ix,strs l] (.agg (b5 (sK ix l))):=by
 have c:((ix.map λs=>[bg s]).length:Int)=ix.length:=zj
 let g:Nat->Nat->Bool:=λn i=>if i<n then sK ix l i else false
 refine ak S66.ok<|bc [.aI] rfl ⟨rfl,trivial⟩<|bM (t:=4) rfl λb=>aa (aa ?_);refine cC rfl<|bE True (el [(4,.po b 0)]) [(b,.cells 153 (b5 (sK ix l)))] [] ?_ ?_
 ·refine br (λk:Nat=>k<=ix.length) (λk=>el [(1,strs l),(4,.po b 0),(7,strs ix),(8,I ix.length),(9,I k)]) (λk=>[(b,.cells 153 (b5 (g k)))]) (λ_=>[]) (λk=>ix.length-k) 0 zz
   (ao ⟨rfl,rfl,rfl,by show I _=I _;rw[c],rfl,trivial⟩) ?_
  intro k hk;refine aC rfl<|aa (ag rfl (λhc=>?_) (λhc=>?_))
  ·simp only[nL]at hc;obtain⟨s,hs⟩:=aL hc;have hh:=mq l s;have d:sK ix l k=l.contains s:=by unfold sK;rw[hs]
   refine af (aa (au ?_));refine bc [.cells [bg s]] rfl ⟨⟨zz,by simp [hs]⟩,trivial⟩<|W5 [.ret (B (l.contains s)),.gI 0] rfl (by(repeat' (with_reducible apply a6));(all_goals first|exact zk _|((first|exact hh|rfl|(show 0+((k:Nat):Int).toNat*1+1<=5;omega)))))<|dS rfl ⟨zz,trivial⟩ ?_;refine⟨k+1,hc,zz,aj (ar ?_) eL⟩;show [(b,cP.cells _ (bK (b5 (g k)) (0+k*1) [B (l.contains s)]))]=_;rw[Q6 _ _ zz]
   have:(λj=>if j=k then l.contains s else g k j)=g (k+1):=by
    funext j;show _=if j<k+1 then _ else _
    by_cases e:j=k
    ·subst e;rw[if_pos rfl,if_pos zz,d]
    ·rw[if_neg e];show (if j<k then _ else _)=_;by_cases a:j<k
     ·rw[if_pos a,if_pos zz]
     ·rw[if_neg a,if_neg zz]
   rw[this]
  ·simp only[nL]at hc;have e:k=ix.length:=zz
   subst e
   have:g ix.length=sK ix l:=by
    funext j;show (if j<ix.length then _ else _)=_;by_cases a:j<ix.length
    ·rw[if_pos a]
    ·rw[if_neg a];unfold sK;rw[List.getElem?_eq_none zz]
   exact ay ⟨(),trivial,aj (ar (by rw[this])) eL⟩
 ·intro _ _;refine lV [.at 0,.gI 0] rfl ⟨rfl,⟨rfl,rfl,rfl,rfl,an 5⟩,trivial⟩ ?_;exact ab (fh (.inr rfl) (.one (.dw (n:=some 5) (i:=0) rfl rfl zw rfl)))
theorem Sr (n:Int)(c:0<=n)(l:n<9223372036854775808):Ev ad 67 [I n] (.agg (b5 λi=>n.toNat.testBit i)):=by
 let g:Nat->Nat->Bool:=λm i=>if i<m then n.toNat.testBit i else false
 refine ak S67.ok<|bc [.aI] rfl ⟨rfl,trivial⟩<|bM (t:=2) rfl λb=>aa (aa ?_);refine cC rfl<|bE True (el [(2,.po b 0)]) [(b,.cells 153 (b5 λi=>n.toNat.testBit i))] [] ?_ ?_
 ·refine br (λk:Nat=>k<=5) (λk=>el [(0,I n),(2,.po b 0),(4,I k)]) (λk=>[(b,.cells 153 (b5 (g k)))]) (λ_=>[]) (λk=>5-k) 0 zz
   eL ?_
  intro k hk;refine aC rfl<|aa (ag rfl (λhc=>?_) (λhc=>?_))
  ·simp only[decide_eq_true_eq]at hc;have a:=lM n k c;have f:(0:Int)<=n/2^((k:Nat):Int).toNat:=Int.ediv_nonneg c (Int.le_of_lt (Int.pow_pos zz));have h:n/2^((k:Nat):Int).toNat<=n:=Int.ediv_le_self _ c;refine af (aa (au ?_));refine aC rfl<|W5 [.gI 0] rfl (by(and_intros);(all_goals first|exact zk _|((first|rfl|(show 0+((k:Nat):Int).toNat*1+1<=5;omega)))))<|dS rfl ⟨zz,trivial⟩ ?_;refine⟨k+1,zz,zz,aj (ar ?_) eL⟩;show [(b,cP.cells _ (bK (b5 (g k)) (0+k*1) [B (cN n k)]))]=_;rw[Q6 _ _ zz,a]
   have:(λj=>if j=k then n.toNat.testBit k else g k j)=g (k+1):=by
    funext j;show _=if j<k+1 then _ else _
    by_cases e:j=k
    ·subst e;rw[if_pos rfl,if_pos zz]
    ·rw[if_neg e];show (if j<k then _ else _)=_;by_cases d:j<k
     ·rw[if_pos d,if_pos zz]
     ·rw[if_neg d,if_neg zz]
   rw[this]
  ·simp only[decide_eq_false_iff_not]at hc;have e:k=5:=zz
   subst e;exact ay ⟨(),trivial,aj (ar rfl) eL⟩
 ·intro _ _;refine lV [.at 0,.gI 0] rfl ⟨rfl,⟨rfl,rfl,rfl,rfl,an 5⟩,trivial⟩ ?_;exact ab (fh (.inr rfl) (.one (.dw (n:=some 5) (i:=0) rfl rfl zw rfl)))
theorem NY (es:List (List AV))(hl:es.length<=1000000):Ev ad 292 [.sl 4 es] (.aI 68 4 es):=by exact gA age.ok [(5,[.i .aI])] []
theorem ZC:qS ad 291:=by
 intro a n cap b d;refine dV afb.ok (kh [(8,[.i (.op (.v (.slice a n n)))])]) (lh []) ?_;repeat' first|apply aP|apply aO|apply aN|apply aw|apply a6|(intro c;(try simp only[nL]at c);(try contradiction))
 all_goals try exact fi _
 exact⟨λr N D=>Q1.of λK k=>aF.lO rfl rfl rfl b k⟩
theorem Qv (es:List (List AV))(x:nU)(hl:es.length<=1000000):Ev ad 226 [.sl 4 es,.agg x.enc] (.aI 68 4 (es++[x.enc])):=by
 refine dV afN.ok (kh [(6,[.ev (NY es hl)]),(7,[.i .clip])]) (lh []) ?_;repeat' first|apply aP|apply aO|apply aN|apply aw|apply a6|(intro a;(try simp only[nL]at a);(try contradiction))
 all_goals try exact fi _
 exact⟨ZC⟩
theorem NF (es:List (List AV))(hl:es.length<=1000000):Ev ad 307 [.sl 2 es] (.aI 113 2 es):=by exact gA adL.ok [(5,[.i .aI])] []
theorem Zs:qS ad 306:=by
 intro a n cap b d;refine dV afr.ok (kh [(8,[.i (.op (.v (.slice a n n)))])]) (lh []) ?_;repeat' first|apply aP|apply aO|apply aN|apply aw|apply a6|(intro c;(try simp only[nL]at c);(try contradiction))
 all_goals try exact fi _
 exact⟨λr N D=>Q1.of λK k=>aF.lO rfl rfl rfl b k⟩
theorem P2 (es:List (List AV))(x:qh)(hl:es.length<=1000000):Ev ad 238 [.sl 2 es,.agg [bg x.nm,ints x.ed]] (.aI 113 2 (es++[[bg x.nm,ints x.ed]])):=by
 refine dV aen.ok (kh [(6,[.ev (NF es hl)]),(7,[.i .clip])]) (lh []) ?_;repeat' first|apply aP|apply aO|apply aN|apply aw|apply a6|(intro a;(try simp only[nL]at a);(try contradiction))
 all_goals try exact fi _
 exact⟨Zs⟩
theorem Ow (es:List (List AV))(hl:es.length<=1000000):Ev ad 311 [.sl 5 es] (.aI 106 5 es):=by exact gA afF.ok [(5,[.i .aI])] []
theorem ZW:qS ad 313:=by
 intro a n cap b d;refine dV af1.ok (kh [(8,[.i (.op (.v (.slice a n n)))])]) (lh []) ?_;repeat' first|apply aP|apply aO|apply aN|apply aw|apply a6|(intro c;(try simp only[nL]at c);(try contradiction))
 all_goals try exact fi _
 exact⟨λr N D=>Q1.of λK k=>aF.lO rfl rfl rfl b k⟩
theorem Re (es:List (List AV))(x:eY)(hl:es.length<=1000000):Ev ad 242 [.sl 5 es,.agg x.enc] (.aI 106 5 (es++[x.enc])):=by
 refine dV aex.ok (kh [(6,[.ev (Ow es hl)]),(7,[.i .clip])]) (lh []) ?_;repeat' first|apply aP|apply aO|apply aN|apply aw|apply a6|(intro a;(try simp only[nL]at a);(try contradiction))
 all_goals try exact fi _
 exact⟨ZW⟩
theorem Pj (es:List (List AV))(hl:es.length<=1000000):Ev ad 320 [.sl 2 es] (.aI 119 2 es):=by exact gA agN.ok [(5,[.i .aI])] []
theorem ZO:qS ad 319:=by
 intro a n cap b d;refine dV acH.ok (kh [(8,[.i (.op (.v (.slice a n n)))])]) (lh []) ?_;repeat' first|apply aP|apply aO|apply aN|apply aw|apply a6|(intro c;(try simp only[nL]at c);(try contradiction))
 all_goals try exact fi _
 exact⟨λr N D=>Q1.of λK k=>aF.lO rfl rfl rfl b k⟩
theorem Tw (es:List (List AV))(x:DX)(hl:es.length<=1000000):Ev ad 249 [.sl 2 es,.agg x.enc] (.aI 119 2 (es++[x.enc])):=by
 refine dV aeB.ok (kh [(6,[.ev (Pj es hl)]),(7,[.i .clip])]) (lh []) ?_;repeat' first|apply aP|apply aO|apply aN|apply aw|apply a6|(intro a;(try simp only[nL]at a);(try contradiction))
 all_goals try exact fi _
 exact⟨ZO⟩
theorem Ni (es:List (List AV))(hl:es.length<=1000000):Ev ad 348 [.sl 3 es] (.aI 109 3 es):=by exact gA ac7.ok [(5,[.i .aI])] []
theorem Z3:qS ad 347:=by
 intro a n cap b d;refine dV aek.ok (kh [(8,[.i (.op (.v (.slice a n n)))])]) (lh []) ?_;repeat' first|apply aP|apply aO|apply aN|apply aw|apply a6|(intro c;(try simp only[nL]at c);(try contradiction))
 all_goals try exact fi _
 exact⟨λr N D=>Q1.of λK k=>aF.lO rfl rfl rfl b k⟩
theorem Tf (es:List (List AV))(x:ry)(hl:es.length<=1000000):Ev ad 314 [.sl 3 es,.agg x.enc] (.aI 109 3 (es++[x.enc])):=by
 refine dV ae8.ok (kh [(6,[.ev (Ni es hl)]),(7,[.i .clip])]) (lh []) ?_;repeat' first|apply aP|apply aO|apply aN|apply aw|apply a6|(intro a;(try simp only[nL]at a);(try contradiction))
 all_goals try exact fi _
 exact⟨Z3⟩
theorem xT (es:List (List AV))(hl:es.length<=1000000):Ev ad 245 [.sl 5 es] (.aI 117 5 es):=by exact gA agr.ok [(5,[.i .aI])] []
theorem Z5:qS ad 349:=by
 intro a n cap b d;refine dV acB.ok (kh [(8,[.i (.op (.v (.slice a n n)))])]) (lh []) ?_;repeat' first|apply aP|apply aO|apply aN|apply aw|apply a6|(intro c;(try simp only[nL]at c);(try contradiction))
 all_goals try exact fi _
 exact⟨λr N D=>Q1.of λK k=>aF.lO rfl rfl rfl b k⟩
theorem QC (es:List (List AV))(x:vA)(hl:es.length<=1000000):Ev ad 315 [.sl 5 es,.agg x.enc] (.aI 117 5 (es++[x.enc])):=by
 refine dV agB.ok (kh [(6,[.ev (xT es hl)]),(7,[.i .clip])]) (lh []) ?_;repeat' first|apply aP|apply aO|apply aN|apply aw|apply a6|(intro a;(try simp only[nL]at a);(try contradiction))
 all_goals try exact fi _
 exact⟨Z5⟩
theorem Od (es:List (List AV))(hl:es.length<=1000000):Ev ad 294 [.sl 1 es] (.aI 25 1 es):=by exact gA adS.ok [(5,[.i .aI])] []
theorem aay:qS ad 293:=by
 intro a n cap b d;refine dV acL.ok (kh [(8,[.i (.op (.v (.slice a n n)))])]) (lh []) ?_;repeat' first|apply aP|apply aO|apply aN|apply aw|apply a6|(intro c;(try simp only[nL]at c);(try contradiction))
 all_goals try exact fi _
 exact⟨λr N D=>Q1.of λK k=>aF.lO rfl rfl rfl b k⟩
theorem Qg (es:List (List AV))(x:List Wd)(hl:es.length<=1000000):Ev ad 227 [.sl 1 es,strs x] (.aI 25 1 (es++[[strs x]])):=by
 refine dV agt.ok (kh [(6,[.ev (Od es hl)]),(7,[.i .clip])]) (lh []) ?_;repeat' first|apply aP|apply aO|apply aN|apply aw|apply a6|(intro a;(try simp only[nL]at a);(try contradiction))
 all_goals try exact fi _
 exact⟨aay⟩
theorem Ov (es:List (List AV))(hl:es.length<=1000000):Ev ad 223 [.sl 1 es] (.aI 9 1 es):=by exact gA agV.ok [(5,[.i .aI])] []
theorem O7 (es:List (List AV))(hl:es.length<=1000000):Ev ad 239 [.sl 1 es] (.aI 3 1 es):=by exact gA aeS.ok [(5,[.i .aI])] []
theorem zW (l:List Wd)(hl:l.length<=1000000)(b:(oe l).length<=1000000):Ev ad 235 [strs l] (bg (ux l)):=by
 refine dV ad9.ok (kh [(7,[.ev (Un l hl b)])]) (lh []) ?_;repeat' first|apply aP|apply aO|apply aN|apply aw|apply a6|(intro a;(try simp only[nL]at a);(try contradiction))
 all_goals try exact fi _
 all_goals simp only[ap,Int.natCast_eq_zero,List.length_eq_zero_iff]at a
 ·subst a;exact⟨rfl⟩
 ·exact⟨congrArg bg (show oe l=ux l by unfold ux;rw[if_neg a])⟩
theorem KC (l:List Int)(hl:l.length<=1000000)(h: ∀x∈l,-9223372036854775808<=x/\x<=9223372036854775807)(a:(oe (l.map eG)).length<=1000000):Ev ad 229 [ints l] (bg (mA l)):=by exact gA acC.ok [(4,[.ev (H6 l 45 [] eG hl λx hx=>tX x (h x hx).1 (h x hx).2)]),(5,[.ev (zW (l.map eG) zx a)])] []
theorem Jy (all:List Wd)(i:Int)(a:0<=i)(b:i.toNat<all.length):Ev ad 305 [I i,.pi [strs all]] (bg (all.getD i.toNat [])):=by exact gA acx.ok [(6,[.i (.cells [bg (all.getD i.toNat [])])])] []
theorem Nf (all:List Wd)(l:List Int)(hl:l.length<=1000000)(h: ∀i∈l,0<=i/\i.toNat<all.length)(a:(oe (l.map λi=>all.getD i.toNat [])).length<=1000000):Ev ad 237 [strs all,ints l] (bg (uE all l)):=by exact gA aeM.ok [(7,[.ev (H6 l 305 [.pi [strs all]] (λi=>all.getD i.toNat []) hl λi hi=>Jy all i (h i hi).1 (h i hi).2)]),(8,[.ev (zW (l.map λi=>all.getD i.toNat []) zx a)])] []
end Go.Px
