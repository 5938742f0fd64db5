/- Part 22 of the proof of a statement of this seat (a logic of pure contracts; the functions; their contracts). No conditions. -/
import Derived.Test.YtjjmmbcmdheooaaGreatDoorA21
open And renaming intro->cc
open ByteArray renaming extract->bk,data_extract->ek,ext->eu,mk->ew
open Go.Lit renaming int->be
open Go.Program renaming keyLits->ds
open Go.Proofs.Tryz renaming prog->an,underlying294->cB,underlying385->cD,underlying3->dl
open Go.Value renaming string->bA,int->cr,formed->er,cells->et
open Int renaming toNat_natCast->a8
open List renaming length_map->ap,drop_eq_nil_of_le->a6,getElem?_eq_some_iff->bi,replicate->bn,length_replicate->bs,drop_append_of_le_length->bt,mem_filter->bx,length_append->bI,length_cons->b0,length_drop->b1,take_of_length_le->b4,append_nil->b6,map_append->b7,mem_append->b8,getElem?_eq_none->b9,mem_singleton->cA,ext_getElem?->cR,getElem?_set->c7,mem_map->c8,nil_sublist->de,not_mem_nil->dk,headD_cons->dn,drop_drop->ea,mem_cons->ec
open List.Sublist renaming refl->az
open Nat renaming pow_le_pow_right->cb,le_trans->en
open Option renaming getD_some->a7,getD_none->b3
open Prod.mk renaming injEq->ej
namespace Go.Px
open Go.Proofs
theorem QP (s w:Wd):Ev an 340 [bg s,bg w] (B (pB s w)):=by
 refine ak ac0.ok<|aC rfl ?_;by_cases h:s=[]
 ·subst h;refine uk [(7,true)] [] rfl zj<|ab (aB ?_);rfl
 ·refine uk [(7,false)] [] rfl (by simp [h])<|ab (aB ?_);show B _=B _;have e:(s==w)=decide (s=w):=zx
  simp [pB,h];exact e
theorem Ny (s l:List Wd)(g:Nat)(h: ∀x y,Ev an g [bg x,bg y] (B (pB x y))):Ev an 338 [strs s,strs l,.fn (.func g) [] []] (B (xA s l)):=by
 have hs:(s.map λs=>[bg s]).length=s.length:=ap _;have hl:(l.map λs=>[bg s]).length=l.length:=ap _;refine ak afC.ok<|cH 0 rfl λe=>aC rfl<|aa (aa ?_);refine cC rfl<|ag rfl (λhc=>?_) (λhc=>af ?_)
 ·have hc:s.length≠l.length:=zx
  refine aC rfl<|ab (aB ?_);show B _=B _;cases d:xA s l with
  |false=>rfl
  |true=>exact absurd (AY d) hc
 have hc:s.length=l.length:=zx
 refine aa (aa ?_);refine cC rfl<|bE (xA s l=true) (el []) [] [] ?_ ?_
 ·refine dE (λk:Nat=>k<=s.length/\xA s l=xA (s.drop k) (l.drop k)) (λk=>el [(1,strs l),(2,.fn (.func g) [] []),(15,strs s),(16,I s.length),(17,I k)]) (λk=>s.length-k) 0 ⟨zz,rfl⟩
   (ao ⟨rfl,rfl,rfl,by show I _=I _;rw[hs],rfl,trivial⟩) ?_
  rintro k ⟨hk,hi⟩;refine aC rfl<|aa (ag rfl (λhe=>?_) (λhe=>?_))
  ·simp only[nL]at he;obtain⟨x,hx⟩:=aL he;obtain⟨z,b⟩:=aL (l:=l) (k:=k) zz;rw[drop_cons hx,drop_cons b,xA]at hi;refine af (aa (au ?_));refine bc [.cells [bg x]] rfl ⟨⟨zz,by simp [hx]⟩,trivial⟩<|bc [.cells [bg z]] rfl ⟨⟨zz,by simp [b]⟩,trivial⟩<|aa<|iO [.ret (B (pB x z))] rfl ⟨h x z,trivial⟩<|ag rfl (λa=>?_) (λa=>af ?_)
   ·have a:pB x z=false:=by simpa using a
    refine aC rfl<|ab (aB ?_);show B _=B _;rw[hi,a];rfl
   ·have a:pB x z=true:=by simpa using a
    rw[a,Bool.true_and]at hi;refine dS rfl ⟨zz,trivial⟩ ?_;exact⟨k+1,⟨zz,hi⟩,zz,eL⟩
  ·simp only[nL]at he;refine ay ⟨(),?_,ao trivial⟩;rw[hi,a6 zz,a6 zz];rfl
 ·intro _ c;refine aC rfl<|ab (aB ?_);show B _=B _;rw[c]
theorem Wn (c1 a b c4 c:Int)(f:(be .i64 c1).wf=true)(g:(be .i64 a).wf=true)(h:(be .i64 b).wf=true)(h4:(be .i64 c4).wf=true)(i:(be .i64 c).wf=true):
  bJ an 5 385 (.agg #[.int .i64 c1,.int .i64 a,.int .i64 b,.int .i64 c4,.int .i64 c]):=by
 have d:an.cellsOf 385=5:=zw
 have e:an.cellsOf 3=1:=zw
 refine⟨?_,[.int .i64 c1,.int .i64 a,.int .i64 b,.int .i64 c4,.int .i64 c],?_⟩
 ·simp [er,cD,d]
 ·simp [et,ds,cD,dl,d,e,f,g,h,h4,i,List.range_succ]
theorem TS {a b:List Int}(ha:a.length=5)(l:b.length=5)(c: ∀n∈a,(be .i64 n).wf=true)(d: ∀n∈b,(be .i64 n).wf=true){x y:Operand}{env:Env}{H:Heap}{t:Nat}
  (hx:bu env x= .agg (dx a)) (hy:bu env y= .agg (dx b)):
  ∀(r:Option Nat) (N:Nat) (D:List Nat),Q1 an r N (.nI false 385 x y) (some t) env H D [(t,B (decide (a=b)))]:=by
 intro r N D
 obtain⟨a0,a1,e,f,g,rfl⟩:=HJ ha
 obtain⟨h,i,b2,j,k,rfl⟩:=HJ l
 exact aF.nI (neg:=false) (m:=3) (DD:=5) zq zw zw zw zw (by rw[hx];rfl) (by rw[hy];rfl)
  (Wn _ _ _ _ _ (c _ zj) (c _ zj) (c _ zj) (c _ zj) (c _ zj)) (Wn _ _ _ _ _ (d _ zj) (d _ zj) (d _ zj) (d _ zj) (d _ zj))
  (decide ([a0,a1,e,f,g]=[h,i,b2,j,k])) zx ⟨rfl,rfl,rfl⟩
abbrev okW (f:Form)(l:List Wd)(a:List (List Nat)):List (List Nat):=a.filter λm=>xA (eW f.parts m) l
def pG (a:List (List Nat)):List Int:=match a.getLast? with|none=>[-1,0,0,0,0]|some c=>fJ c
def Bi (f:Form)(l:List Wd)(b b5 c:Nat)(a:List (List Nat)):Heap:=
 [(b,.cells 385 (dx (fJ ((okW f l a).headD [])))),(b5,.cells 3 [I (okW f l a).length]),(c,.cells 385 (dx (pG a)))]
theorem sc {c:List Nat}(h:c.length<=5):(fJ c).length=5:=by unfold fJ;rw[bI,ap,bs];omega
theorem Lt {c:List Nat}(h: ∀n∈c,n<=3): ∀n∈fJ c,(be .i64 n).wf=true:=by grind [fJ,wf_i64]
theorem Rg {c d:List Nat}(h:c.length=d.length)(e:fJ c=fJ d):c=d:=by unfold fJ at e;have e:=(List.append_inj e (by simpa using h)).1;have:c.map (λ(n:Nat)=>(n:Int))=d.map (λ(n:Nat)=>(n:Int)):=e;exact(List.map_inj_right (λa b h=>zz)).1 this
theorem jm.same {P:Program}{r:Option Nat}{N:Nat}{env:Env}{H:Heap}{D:List Nat}{T n i b:Nat}{c:TypeId}{x y:Operand}{cs:List AV}{q:AV}(hx:bu env x= .po b 0)(d:H[i]? =some (b,.cells c cs))(hy:bu env y=q)
  (e:q.cj=true) (a:bQ q=cs) (f:cs.length=n) (hc:cs.all AV.dW=true):jm P r N ⟨none,none,.store T x y n⟩ env H D []:=by
 show Q1 P r N (.store T x y n) none env H D []
 refine aZ (i:=i) hx d hy e zx zx zz ⟨rfl,?_,rfl⟩
 rw[a]
 have:bK cs 0 cs=cs:=by
  unfold bK
  simp
 rw[this]
 apply cR
 intro j
 rw[c7]
 split
 ·grind
 ·rfl
theorem R4 {env:Env}: ∀{l:List (Nat×AV)},qX env l->l.all (λp=> !p.2.bC)=true-> ∀t,el l t= .any\/(el l t=env t/\(env t).bC=false)
 |[],_,_,t=>.inl rfl
 |(u,p)::l,h,hl,t=>by
  simp only[List.all_cons,Bool.and_eq_true,Bool.not_eq_true']at hl
  simp only[el]
  cases a:Nat.beq t u with
  |true=>
   have:=Nat.eq_of_beq_eq_true a
   subst this
   exact .inr ⟨h.1.symm,by rw[h.1];exact hl.1⟩
  |false=>exact R4 h.2 hl.2 t
theorem Kp (a:List (List Nat))(c:List Nat):pG (a++[c])=fJ c:=by unfold pG;rw[List.getLast?_append];rfl
theorem Rn (f:Form)(l:List Wd)(a:List (List Nat))(c:List Nat):okW f l (a++[c])=okW f l a++(if xA (eW f.parts c) l=true then[c]else[]):=zx
theorem VC (f:Form)(T:A9 f)(l:List Wd):Ev an 290 [gW f,strs l] (.bZ [uT ((mD f.parts l).headD []),I (mD f.parts l).length]):=by
 have C:=Bv T.parts;have Y:(bl f.parts).length<=5:=en (vu _) T.p5;have hC:=xU (rs:=bl f.parts) (λr hr=>⟨(C r hr).1,(C r hr).2.2.2⟩);have a0:4^(bl f.parts).length<=4^5:=cb zz Y;have z:=JW (bl f.parts);have N:=N8 f;have U:mD f.parts l=okW f l (jc (bl f.parts)):=rfl;have o: ∀c∈jc (bl f.parts),c.length=(bl f.parts).length/\(∀m∈c,m<=3)/\(eW f.parts c).length<=15:=λc hc=>sI T hc;rw[U];generalize E:jc (bl f.parts)=all at hC z o;refine ak aeJ.ok<|aa (av ?_);refine lz [.bW,.bW] 2 rfl rfl ⟨⟨rfl,rfl⟩,⟨rfl,rfl⟩,trivial⟩<|ai (aF.alloc rfl (λk=>?_));refine ai (aF.alloc rfl (λb5=>?_));refine eZ rfl<|aa (av ?_);refine kL 1 rfl rfl<|ai (aF.alloc rfl (λp=>?_));refine ai (aZ (i:=0) rfl rfl rfl rfl rfl rfl zq ?_);refine aG (aj (cd (List.reverse_perm _).symm) (aj (ar (H':=Bi f l k b5 p []) rfl) (ao (l:=[(2,.pi [gW f]),(3,.pi [strs l]),(4,.po k 0),(5,.po b5 0),(6,.po p 0)]) ⟨rfl,rfl,rfl,rfl,rfl,trivial⟩)))<|eZ rfl<|aa (aa ?_);refine iO [.ret (.fn (.func 366) [] [.pi [gW f]])] rfl ⟨N,trivial⟩<|au<|aJ.wP (X:=List (List Nat)) (HS:=Bi f l k b5 p) (H0:=[]) [] (λa=>a=all) (λa args D=> ∃c rest,a++c::rest=all/\args=[uT c]/\D=a++[c])
  (el [(2,.pi [gW f]),(3,.pi [strs l]),(4,.po k 0),(5,.po b5 0),(6,.po p 0)]) rfl zj (R4 ⟨rfl,rfl,rfl,rfl,rfl,trivial⟩ rfl) zj ?_ ?_ ?_
 ·rintro lp a args D ⟨c,rest,j,rfl,rfl⟩;refine⟨rfl,?_⟩;obtain⟨c1,c2,c3⟩:=o c (by rw[<-j];simp);have F:c.length<=5:=zz
  have G:=sc F;have O:=Lt c2
  have Q:(pG a).length=5/\(∀n∈pG a,(be .i64 n).wf=true)/\fJ c≠pG a:=by
   unfold pG;cases hg:a.getLast? with
   |none=>
    refine⟨rfl,?_,?_⟩
    ·intro n Z;simp only[ec,dk,or_false]at Z;rcases Z with rfl|rfl|rfl|rfl|rfl<;>exact wf_i64 zq zq
    ·intro e;have:(-1:Int)∈fJ c:=by rw[e];simp
     unfold fJ at this;rcases b8.1 this with h|h
     ·obtain⟨m,_,h⟩:=c8.1 h;omega
     ·have:=(List.mem_replicate.1 h).2;omega
   |some d=>have hd:d∈a:=List.mem_of_getLast? hg;obtain⟨d1,d2,d3⟩:=o d (by rw[<-j];simp [hd]);refine⟨sc zz,Lt d2,?_⟩;intro e;have:=Rg zz e;subst this;rw[<-j,List.nodup_append]at z;exact z.2.2 c hd c zj rfl
  obtain⟨l1,l2,l3⟩:=Q;have J:(okW f l a).length<=1024:=zx
  have K:=RY f c c1 F zz;have w:=Ny (eW f.parts c) l 340 (λx y=>QP x y);have v:=λ{x y:Operand} {env:Env} {H:Heap} {t:Nat} (hx:bu env x= .agg (dx (fJ c))) (hy:bu env y= .agg (dx (pG a)))=>TS G l1 O l2 (x:=x) (y:=y) (env:=env) (H:=H) (t:=t) hx hy;have P:decide (fJ c=pG a)=false:=decide_eq_false l3;rw[P]at v
  have g:(fJ ((okW f l a).headD [])).length=5:=by
   cases hg:okW f l a with
   |nil=>rfl
   |cons d V=>
    have hd:d∈a:=by
     have:d∈okW f l a:=by rw[hg];simp
     exact(bx.1 this).1
    obtain⟨d1,d2,d3⟩:=o d (by rw[<-j];simp [hd]);exact sc (by simp;omega)
  have M:Bi f l k b5 p (a++[c])=[(k,.cells 385 (dx (fJ ((okW f l (a++[c])).headD [])))),(b5,.cells 3 [I (okW f l (a++[c])).length]),(p,.cells 385 (dx (fJ c)))]:=by unfold Bi;rw[Kp]
  rw[M,Rn];unfold Bi;generalize okW f l a=W at J g;generalize pG a=a2 at v l1;obtain⟨c0,q,s,u,c4,A⟩:=HJ G;obtain⟨p0,p1,p2,p3,p4,rfl⟩:=HJ l1;show aJ an (some lp) 29 _ _ (ri [11] [.agg (dx (fJ c))] _) _ [];rw[A]at v ⊢;refine iO [.aI] rfl ⟨rfl,⟨rfl,rfl,rfl,zq⟩,trivial⟩ ?_;refine⟨rfl,ae (aq (t:=7) rfl) ?_⟩;refine gm [(2,.pi [gW f]),(3,.pi [strs l]),(4,.po k 0),(5,.po b5 0),(6,.po p 0),(7,.pi (dx [c0,q,s,u,c4]))]<|au (aa (aa ?_));refine iO [.at 2,.op (B false)] rfl ⟨rfl,v rfl rfl,trivial⟩<|aD rfl rfl<|aa (av ?_);refine kL 1 rfl rfl<|ai (aZ (i:=2) rfl rfl rfl rfl rfl rfl zx ?_);refine aG (ar (H':=[(k,.cells 385 (dx (fJ (W.headD [])))),(b5,.cells 3 [I W.length]),(p,.cells 385 (dx [c0,q,s,u,c4]))]) rfl)<|eZ rfl<|aa (aa ?_);generalize eW f.parts c=S at K w;generalize a1:xA S l=L at w;refine rE [] [.wC [gW f,uT c] (strs S),.ret (B L)] rfl ⟨⟨K,fL (by show [gW f,AV.agg (dx [c0,q,s,u,c4])]=[gW f,uT c];rw[<-A])⟩,w,trivial⟩<|ag rfl (λb=>?_) (λb=>af ?_)
  ·have b:L=false:=by simpa using b
   refine ay ?_;refine⟨rfl,?_⟩;rw[if_neg (by simp [b]),b6];exact az _
  ·have b:L=true:=by simpa using b
   rw[if_pos b];refine aa (av ?_);refine lz [.at 1] 2 rfl rfl ⟨rfl,zz,trivial⟩<|ai (aZ (i:=1) rfl rfl rfl rfl rfl rfl (by show 1<=1;decide) ?_);refine aG (ar (H':=[(k,.cells 385 (dx (fJ (W.headD [])))),(b5,.cells 3 [I ((W.length:Int)+1)]),(p,.cells 385 (dx [c0,q,s,u,c4]))]) rfl)<|eZ rfl ?_;have e1:(((W++[c]).length:Nat):Int)=(W.length:Int)+1:=zj
   rw[e1];refine aa<|iO [.at 1] rfl ⟨rfl,trivial⟩<|ag rfl (λb=>?_) (λb=>af ?_)
   ·have b:W=[]:=by
     have:(W.length:Int)+1=1:=by simpa using b
     exact List.eq_nil_of_length_eq_zero zz
    subst b;refine av<|kL 1 rfl rfl<|ai (aZ (i:=0) rfl rfl rfl rfl rfl rfl (by show 5<=5;decide) ?_);refine bh ⟨rfl,?_⟩;show List.Sublist [(k,cP.cells 385 (dx (fJ c))),_,_] _;rw[A];exact az _
   ·have b:W≠[]:=by intro e;subst e;simp at b
    refine⟨rfl,?_⟩
    have e2:(W++[c]).headD []=W.headD []:=by
     cases W with
     |nil=>exact absurd rfl b
     |cons d V=>rfl
    rw[e2];exact az _
 ·intro lp lo hy;refine(Ju (λa=>(lp,lo)::Bi f l k b5 p a) all (.yield lp) f Y C E.symm ?_).mono ?_
  ·intro a c rest j;exact⟨rfl,hy a _ _ ⟨c,rest,j,rfl,rfl⟩⟩
  ·grind
 ·rintro a rD rfl
  have g:(fJ ((okW f l a).headD [])).length=5:=by
   cases hg:okW f l a with
   |nil=>rfl
   |cons d V=>
    have hd:d∈a:=by
     have:d∈okW f l a:=by rw[hg];simp
     exact(bx.1 this).1
    obtain⟨d1,d2,d3⟩:=o d hd;exact sc (by simp;omega)
  unfold Bi;generalize okW f l a=W at g ⊢;unfold uT;obtain⟨p0,p1,p2,p3,p4,R⟩:=HJ g;rw[R];refine aa (aJ.iP xr (vE.run (gs:=[]) (hs:=[.at 1,.at 2]) rfl ⟨rfl,rfl,trivial⟩ (vE.cons [4,27] (jm.same (i:=1) rfl rfl rfl rfl rfl rfl rfl) rfl rfl (vE.cons [5,28] (jm.same (i:=2) rfl rfl rfl rfl rfl rfl rfl) rfl rfl vE.nil))) zw (bh ?_));refine ab ⟨.inr rfl,_,⟨0,rfl,rfl⟩,.many zq ⟨.dw (i:=0) (n:=some 5) rfl rfl zw rfl,.dw (i:=1) (n:=none) rfl rfl zw rfl,trivial⟩⟩
theorem Ll {f:Form}(b:A9 f)(l:List Wd):(fJ ((mD f.parts l).headD [])).length=5/\(mD f.parts l).length<=1024:=by
 have a:=Bv b.parts;have e:(bl f.parts).length<=5:=en (vu _) b.p5;constructor
 ·cases hg:mD f.parts l with
  |nil=>rfl
  |cons d g=>
   have hd:d∈mD f.parts l:=by rw[hg];simp
   obtain⟨d1,d2,d3⟩:=sI b (bx.1 hd).1;exact sc (by simp;omega)
 ·have h:(mD f.parts l).length<=(jc (bl f.parts)).length:=List.length_filter_le _ _;have i:=xU (rs:=bl f.parts) (λr c=>⟨(a r c).1,(a r c).2.2.2⟩);have j:4^(bl f.parts).length<=4^5:=cb zz e;omega
theorem SA (s:Shelf)(hw:s.wf)(n:Int)(l:List Wd):Ev an 224 [.agg s.enc,I n,strs l] (.bZ [qD (eJ s n l).1,I (eJ s n l).2.1,I (eJ s n l).2.2]):=by
 have o:=Oh s hw n;have P:=sL l;have res: ∀{env:Env} {H:Heap} {x:List (List Wd)} {q r:Int},eJ s n l=(x,q,r)->env 6=qD x->env 7=I q->env 8=I r->pD an [.tmp 6,.tmp 7,.tmp 8] (.bZ [qD (eJ s n l).1,I (eJ s n l).2.1,I (eJ s n l).2.2]) .ret env H []:=by intro env H p q r h h2 h3 h4;rw[h];exact fh (.inr rfl) (.many zq ⟨.tmp h2 rfl,.tmp h3 rfl,.tmp h4 rfl,trivial⟩)
 have hE: ∀e,gj s n=e->qb e l=if e=0 then cG l else e:=λe _=>rfl
 refine ak acq.ok<|bc [.bW] rfl ⟨⟨rfl,rfl⟩,trivial⟩<|aJ.scope<|dZ True (el [(2,strs l),(6,.nil),(8,I (gj s n)),(9,kn s n)]) [] [] ?_ ?_
 ·by_cases h:gj s n=0
  ·have B:kn s n=gW (rP s n):=by unfold kn;rw[if_pos h]
   rw[B]at o ⊢;refine iO [.ret (.bZ [gW (rP s n),I (gj s n)])] rfl ⟨o,trivial⟩ ?_;exact⟨(),trivial,eL⟩
  ·have B:kn s n= .v (.pointer none):=by unfold kn;rw[if_neg h]
   rw[B]at o ⊢;refine iO [.ret (.bZ [.v (.pointer none),I (gj s n)])] rfl ⟨o,trivial⟩ ?_;exact⟨(),trivial,eL⟩
 intro _ _;refine dZ True (el [(2,strs l),(6,.nil),(8,I (qb (gj s n) l)),(9,kn s n)]) [] [] ?_ ?_
 ·refine aa<|cC rfl<|ag rfl (λh=>?_) (λh=>af ?_)
  ·have h:gj s n=0:=by simpa using h
   have e:qb (gj s n) l=cG l:=by unfold qb;rw[if_pos h]
   rw[e];refine iO [.ret (I (cG l))] rfl ⟨P,trivial⟩ ?_;exact⟨(),trivial,eL⟩
  ·have h:gj s n≠0:=by simpa using h
   have e:qb (gj s n) l=gj s n:=by unfold qb;rw[if_neg h]
   rw[e];exact⟨(),trivial,eL⟩
 intro _ _;refine aa (aa ?_);refine cC rfl<|ag rfl (λh=>?_) (λh=>af ?_)
 ·have h:qb (gj s n) l≠0:=by simpa using h
  refine aC rfl<|ae (bB.jD (t:=6) 1 rfl) ?_;exact ab (res (x:=[]) (q:=0) (by rw[eJ,if_neg h]) rfl rfl rfl)
 have h:qb (gj s n) l=0:=by simpa using h
 have A:gj s n=0:=by
  by_cases g:gj s n=0
  ·exact g
  ·grind
 have O:cG l=0:=by rw[qb,if_pos A]at h;exact h
 have a0:=(kE.1 O).1;obtain⟨_,V,n0,n1,n2,f,hf,G,T⟩:=CA A;have N:rP s n=f:=by unfold rP;rw[hf]
 have B:kn s n=gW f:=by unfold kn;rw[if_pos A,N]
 have j:eJ s n l=match mD f.parts l with
  |[]=>([],0,9)
  |m::ms=>(jN f.parts m l,((m::ms).length:Nat),0):=by
  rw[eJ,if_pos h,T]
  cases mD f.parts l<;>rfl
 rw[B];have X:=VC f G l;obtain⟨U,a4⟩:=Ll G l;have u:(dx (fJ ((mD f.parts l).headD []))).length=5:=by rw[ap];exact U
 refine bc [.ret (.bZ [uT ((mD f.parts l).headD []),I (mD f.parts l).length]),.aI] rfl ⟨X,rfl,⟨rfl,u,yV _,by show 5<=5;decide⟩,trivial⟩<|aa (aa ?_);refine cC rfl ?_;cases J:mD f.parts l with
 |nil=>rw[J]at j;refine ax rfl rfl<|aC rfl<|ae (bB.jD (t:=6) 1 rfl) ?_;exact ab (res (x:=[]) (q:=0) (r:=9) j rfl rfl rfl)
 |cons c cs=>
  rw[J]at j u;have M:c∈mD f.parts l:=by rw[J];simp
  obtain⟨K,L⟩:=bx.1 M;obtain⟨c1,c2,c3⟩:=sI G K;have W:(eW f.parts c).length=l.length:=AY L;have a2:=G.p5;have a3:=vu f.parts;refine ag rfl (λh=>?_) (λ_=>af ?_)
  ·grind
  have E:bK (List.map AV.v [cr .i64 0,cr .i64 0,cr .i64 0,cr .i64 0,cr .i64 0]) 0 (dx (fJ c))=dx (fJ c):=by unfold bK;simp only[dn]at u;rw[u];simp
  refine ae (ao (l:=[(2,strs l),(6,.nil),(7,I ((c::cs).length:Nat)),(9,gW f),(10,.dO 385 (dx (fJ c)))]) ⟨rfl,rfl,rfl,rfl,by show AV.dO _ _=_;rw[<-E];rfl,trivial⟩)<|ae (aq (t:=10) rfl)<|ae (bB.ln (t:=6) 25 1 rfl)<|aC rfl<|aa (aJ.label (aa (aa ?_)));refine cC rfl<|cH 40 rfl λa1=>?_;have S:(f.parts.map Part.enc).length=f.parts.length:=ap _;refine bE True (el [(6,.aI 25 1 ((jN f.parts c l).map λs=>[strs s])),(7,I ((c::cs).length:Nat))]) [] [] ?_ ?_
  ·refine br (λx:Nat×Nat×List (List Wd)=>x.1<=f.parts.length/\x.2.2.length<=x.1/\x.2.2.length+(bl (f.parts.drop x.1)).length=c.length/\x.2.1+(eW (f.parts.drop x.1) (c.drop x.2.2.length)).length=l.length/\jN f.parts c l=x.2.2++jN (f.parts.drop x.1) (c.drop x.2.2.length) (l.drop x.2.1))
    (λx=>el [(2,strs l),(6,.aI 25 1 (x.2.2.map λs=>[strs s])),(7,I ((c::cs).length:Nat)),(10,.pi (dx (fJ c))),(11,I x.2.1),(40,fX f.parts),(41,I f.parts.length),(42,I x.1)]) (λ_=>[]) (λ_=>[]) (λx=>f.parts.length-x.1) (0,0,[]) ⟨zz,zj,by simp [c1],by simp [W],rfl⟩
    (ao ⟨rfl,rfl,rfl,rfl,rfl,rfl,by show I _=I _;rw[S],rfl,trivial⟩) ?_
   rintro⟨k,a,out⟩ ⟨hk,ho,z,ha,hi⟩;simp only at hk ho z ha hi;refine gm [(2,strs l),(6,.aI 25 1 (out.map λs=>[strs s])),(7,I ((c::cs).length:Nat)),(10,.pi (dx (fJ c))),(11,I a),(40,fX f.parts),(41,I f.parts.length),(42,I k)]<|aC rfl<|aa (ag rfl (λhe=>?_) (λhe=>?_))
   ·simp only[nL]at he;obtain⟨p,hx⟩:=aL he;rw[drop_cons hx,sf]at z;rw[drop_cons hx,eW]at ha;rw[drop_cons hx,jN]at hi;refine af<|aJ.qq (λx:Nat×List (List Wd)=>x.2.length<=k+1/\x.2.length+(bl (f.parts.drop (k+1))).length=c.length/\x.1+(eW (f.parts.drop (k+1)) (c.drop x.2.length)).length=l.length/\jN f.parts c l=x.2++jN (f.parts.drop (k+1)) (c.drop x.2.length) (l.drop x.1))
     (λx=>el [(2,strs l),(6,.aI 25 1 (x.2.map λs=>[strs s])),(7,I ((c::cs).length:Nat)),(10,.pi (dx (fJ c))),(11,I x.1),(40,fX f.parts),(41,I f.parts.length),(42,I k)]) (λ_=>[]) (λ_=>[]) ?_ ?_
    ·refine bc [.cells p.enc,.aI] rfl ⟨⟨zz,by simp [hx]⟩,rfl,⟨rfl,rfl,rfl,zq⟩,trivial⟩<|ae (aq (t:=13) rfl) ?_;have d:(p.words.map λs=>[bg s]).length=p.words.length:=ap _;refine aa (aa ?_);refine cC rfl<|ag rfl (λw=>?_) (λw=>af ?_)
     ·have y:p.words≠[]:=by intro e;simp [e]at w
      have w: ¬p.roomy=true:=by simp [Part.roomy,y]
      rw[if_neg w]at z hi ha;rw[bI]at ha;refine FD rfl (by exact⟨⟨by rw[d];omega,by rw[d];omega⟩,trivial⟩)<|ay ⟨(a+p.words.length,out),⟨by simp only;omega,z,by simp only;omega,by rw[hi,ea]⟩,ao ⟨rfl,rfl,rfl,rfl,?_,rfl,rfl,rfl,trivial⟩⟩;show I _=I _;rw[d];simp
     ·have y:p.words=[]:=by simpa using w
      have w:p.roomy=true:=by simp [Part.roomy,y]
      rw[if_pos w]at z hi ha;simp only[b0]at z;obtain⟨m,hm⟩:=aL (l:=c) (k:=out.length) zz;rw[drop_cons hm,dn,List.tail_cons]at ha hi;simp only[qM,bI,bs]at ha;have b:(out.map λs=>[strs s]).length=out.length:=ap _;refine aJ.VX 6 rfl (λad cap=>?_);refine aa (av ?_);refine OF 3 rfl rfl ⟨⟨by rw[b];omega,by rw[b];omega⟩,trivial⟩<|aG (ao (l:=[(2,strs l),(6,.jr 25 1 (out.map λs=>[strs s]) ad cap),(7,I ((c::cs).length:Nat)),(57,.pi (I m::(dx (fJ c)).drop (out.length+1))),(10,.pi (dx (fJ c))),(11,I a),(40,fX f.parts),(41,I f.parts.length),(42,I k)]) ⟨rfl,rfl,rfl,by
       show AV.pi ((dx (fJ c)).drop (((out.map λs=>[strs s]).length:Int).toNat*1))=_
       rw[a8,Nat.mul_one,b,Gu hm],rfl,rfl,rfl,rfl,rfl,trivial⟩)<|kL 1 rfl rfl<|ai (aF.gR m rfl rfl rfl rfl zz zz rfl (λg=>?_));refine eZ rfl<|aa (av ?_);have Z:(l.map λs=>[bg s]).length=l.length:=ap _;refine OF 5 rfl rfl (by exact⟨⟨⟨zz,trivial⟩,by simp only[a7,b3];omega,zj⟩,trivial⟩) ?_;have Y:jH (l.map λs=>[bg s]) (some (a:Int).toNat) none=(l.drop a).map λs=>[bg s]:=by unfold jH;rw[a8,List.map_drop]
      refine ai (aF.LD (i:=0) (es:=bn m ([bA ⟨#[]⟩].map AV.v)) (ys:=(l.drop a).map λs=>[bg s]) rfl rfl (by show AV.sl 1 _=_;rw[<-Y]) ?_);have Q:min ((l.drop a).map λs=>[bg s]).length (bn m ([bA ⟨#[]⟩].map AV.v)).length=m:=by rw[ap,b1,bs];omega
      rw[Q];have C:((l.drop a).map λs=>[bg s]).take m++(bn m ([bA ⟨#[]⟩].map AV.v)).drop m=((l.drop a).take m).map λs=>[bg s]:=by have A:(bn m ([bA ⟨#[]⟩].map AV.v)).drop m=[]:=a6 zj;rw[A,b6,List.map_take]
      rw[C];have D:(bn m ([bA ⟨#[]⟩].map AV.v)).length=(((l.drop a).take m).map λs=>[bg s]).length:=by simp;omega
      refine xdA rfl ⟨⟨zz,zz⟩,trivial⟩<|ae (bB.jT (i:=0) (t:=14) (es:=((l.drop a).take m).map λs=>[bg s]) (by rw[<-D];rfl) rfl)<|ae (bB.ga (t:=14) rfl)<|iO [.bW,.own 6] rfl ⟨rfl,⟨⟨rfl,rfl,rfl⟩,by show ((out.map λs=>[strs s]).length+1)*24<=_;rw[b];omega,by show (out.map λs=>[strs s]).length+1<=_;rw[b];omega⟩,trivial⟩ ?_;refine⟨(a+m,out++[(l.drop a).take m]),⟨by simp;omega,by simp;omega,by simp;omega,by rw[hi];simp [ea]⟩,ao ⟨rfl,?_,rfl,rfl,rfl,rfl,rfl,rfl,trivial⟩⟩;show AV.aI _ _ _=_;rw[b7];rfl
    rintro⟨a',F⟩ ⟨g1,g2,g3,g4⟩;refine dS rfl ⟨zz,trivial⟩ ?_;exact⟨(k+1,a',F),⟨by simp only;omega,g1,g2,g3,g4⟩,by simp only;omega,eL⟩
   ·simp only[nL]at he;refine ay ⟨(),trivial,ao ⟨?_,rfl,trivial⟩⟩;have R:f.parts.drop k=[]:=a6 zz;rw[hi,R,jN,b6];rfl
  intro _ _;refine aC rfl<|ae (bB.ga (t:=6) rfl) ?_;exact ab (res (x:=jN f.parts c l) (q:=((c::cs).length:Nat)) (r:=0) j rfl rfl rfl)
theorem Ci (t:List UInt8)(a b:Nat):bk ⟨t.toArray⟩ a b=⟨((t.take b).drop a).toArray⟩:=by apply eu;rw[ek,List.extract_toArray];congr 1;rw[List.extract_eq_drop_take',List.drop_take]
theorem Ys (t:List UInt8)(a b:Nat):AV.v (.string (bk ⟨t.toArray⟩ a b))=bg ((t.take b).drop a):=congrArg (λs=>AV.v (.string s)) (Ci t a b)
theorem B5 {c:UInt8}: ∀{s:List UInt8} {t:List UInt8},(∀x∈s,x≠c)->aV c (s++c::t)=s::aV c t
 |[],t,_=>by simp [aV]
 |x::s,t,h=>by
  simp only[List.cons_append,aV]
  rw[if_neg (h x zj),B5 (λy hy=>h y (by simp [hy]))]
theorem Ab {c:UInt8}: ∀{s:List UInt8},(∀x∈s,x≠c)->aV c s=[s]
 |[],_=>by simp [aV]
 |x::s,h=>by
  simp only[aV]
  rw[if_neg (h x zj),Ab (λy hy=>h y (by simp [hy]))]
theorem WG {a b:UInt8}:((a.toNat:Int)==(b.toNat:Int))=decide (a=b):=by
 rw[Bool.eq_iff_iff];simp only[nL];constructor
 ·intro h;exact UInt8.toNat_inj.1 zz
 ·intro h;rw[h]
theorem Nn (t:List UInt8)(c:UInt8)(o:t.length<=1000000):Ev an 141 [bg t,U c.toNat] (strs (aV c t)):=by
 have k:(ew t.toArray).size=t.length:=rfl;refine ak agG.ok<|aC rfl<|aC rfl<|aC rfl<|aa (aa ?_);refine cC rfl<|aJ.gK (λx:List Wd×Nat=>x.2<=t.length/\x.1.length<=t.length/\aV c t=x.1++[t.drop x.2]) (λx=>el [(0,bg t),(5,.aI 9 1 (x.1.map λs=>[bg s])),(6,I x.2)]) (λ_=>[]) (λ_=>[]) ?_ ?_
 ·refine br (λx:Nat×List Wd×Nat=>x.1<=t.length/\x.2.2<=x.1/\x.2.1.length<=x.1/\aV c t=x.2.1++aV c (t.drop x.2.2)/\ ∀y∈(t.take x.1).drop x.2.2,y≠c) (λx=>el [(0,bg t),(1,U c.toNat),(5,.aI 9 1 (x.2.1.map λs=>[bg s])),(6,I x.2.2),(7,I x.1)]) (λ_=>[]) (λ_=>[]) (λx=>t.length-x.1) (0,[],0) ⟨zz,zj,zj,rfl,zj⟩
   (aj (bB.ln (t:=5) 9 1 rfl) eL) ?_
  rintro⟨i,out,b⟩ ⟨hi,g,j,a,e⟩;simp only at hi g j a e;have f:(out.map λs=>[bg s]).length=out.length:=ap _;refine gm [(0,bg t),(1,U c.toNat),(5,.aI 9 1 (out.map λs=>[bg s])),(6,I b),(7,I i)]<|aa (aa ?_);refine cC rfl<|ag rfl (λhe=>?_) (λhe=>?_)
  ·have he:i<t.length:=by simp only[nL]at he;exact he
   obtain⟨x,hx⟩:=aL he;have l:(t.take (i+1)).drop b=(t.take i).drop b++[x]:=by rw[xF hx,bt (by simp;omega)]
   refine af (aa (au ?_));refine aa<|iO [.byte x] rfl ⟨⟨zz,by simpa using hx⟩,trivial⟩<|ag rfl (λd=>?_) (λd=>af ?_)
   ·have d:x=c:=by have d:((x.toNat:Int)==(c.toNat:Int))=true:=d;rw[WG]at d;exact of_decide_eq_true d
    subst d;have h:t.drop b=(t.take i).drop b++x::t.drop (i+1):=by have n:=List.take_append_drop i t;have m:=congrArg (List.drop b) n;rw[bt (by simp;omega),drop_cons hx]at m;exact m.symm
    rw[h,B5 e]at a;refine bc [.bW] rfl (by exact⟨⟨⟨zz,zz⟩,by simp only[a7];omega,by simp only[a7];omega⟩,rfl,⟨by show (_+1)*16<=_;rw[f];omega,by show _+1<=_;rw[f];omega⟩,trivial⟩)<|dS rfl ⟨zz,trivial⟩<|dS rfl ⟨zz,trivial⟩ ?_;refine⟨(i+1,out++[(t.take i).drop b],i+1),⟨by simp only;omega,by simp only;omega,by simp;omega,by rw[a];simp,zj⟩,by simp only;omega,ao ⟨rfl,rfl,?_,rfl,rfl,trivial⟩⟩;show AV.aI _ _ _=_;rw[b7];show AV.aI 9 1 (_++[[AV.v (.string (bk ⟨t.toArray⟩ _ _))]])=_;rw[Ys];simp only[a7,a8];rfl
   ·have d:x≠c:=by have d:((x.toNat:Int)==(c.toNat:Int))=false:=d;rw[WG]at d;exact of_decide_eq_false d
    refine dS rfl ⟨zz,trivial⟩ ?_;refine⟨(i+1,out,b),⟨by simp only;omega,by simp only;omega,by simp only;omega,a,?_⟩,by simp only;omega,eL⟩;intro y hy;rw[l]at hy;rcases b8.1 hy with hy|hy
    ·exact e y hy
    ·rw[cA]at hy;rw[hy];exact d
  ·have he: ¬i<t.length:=by simp only[nL]at he;exact he
   rw[b4 zz]at e;rw[Ab e]at a;exact ay ⟨(out,b),⟨by simp only;omega,by simp only;omega,a⟩,eL⟩
 ·rintro⟨out,b⟩ ⟨g,j,a⟩;simp only at g j a;have f:(out.map λs=>[bg s]).length=out.length:=ap _;refine bc [.bW] rfl (by exact⟨⟨⟨zz,trivial⟩,by simp only[a7,b3];omega,zj⟩,rfl,⟨by show (_+1)*16<=_;rw[f];omega,by show _+1<=_;rw[f];omega⟩,trivial⟩)<|ae (bB.ga (t:=4) rfl)<|ab (aB ?_);show AV.sl 1 _=_;rw[a,strs,b7];show AV.sl 1 (_++[[AV.v (.string (bk ⟨t.toArray⟩ _ _))]])=_;rw[Ys];simp only[a7,b3,a8,k];rw[b4 zz];rfl
theorem JE {a b:Int}(ha:(be .i64 a).wf=true)(e:(be .i64 b).wf=true):bJ an 3 294 (.agg #[.int .i64 a,.int .i64 b]):=by
 have c:an.cellsOf 294=2:=zw
 have d:an.cellsOf 3=1:=zw
 refine⟨?_,[.int .i64 a,.int .i64 b],?_⟩
 ·simp [er,cB,c]
 ·simp [et,ds,cB,dl,c,d,ha,e]
theorem Ra {a b c d:Int}(ha:(be .i64 a).wf=true)(e:(be .i64 b).wf=true)(hc:(be .i64 c).wf=true)(hd:(be .i64 d).wf=true){x y:Operand}{env:Env}{H:Heap}{t:Nat}
  (hx:valOf (bu env x)=some (.agg #[.int .i64 a,.int .i64 b])) (hy:valOf (bu env y)=some (.agg #[.int .i64 c,.int .i64 d])):
  ∀(r:Option Nat) (N:Nat) (D:List Nat),Q1 an r N (.nI false 294 x y) (some t) env H D [(t,B (decide (a=c/\b=d)))]:=by
 intro r N D
 exact aF.nI (neg:=false) (m:=3) (DD:=3) zq zw zw zw zw hx hy (JE ha e) (JE hc hd) (decide (a=c/\b=d)) zx ⟨rfl,rfl,rfl⟩
theorem Jq:gO an 294 (bJ an 3 294):=gO.wide (m:=3) zq zw zw zw
abbrev qo (a b:Nat):AV:=.agg [I a,I b]
abbrev ei (a shape:List Wd)(bm:Nat):AV:=.pi [strs a,strs shape,.mo bm]
theorem Mf (F S:List Wd)(bm:Nat)(a b:Nat)(w s:Wd)(c:F[a]? =some w)(hs:S[b]? =some s):Ev an 277 [ei F S bm,qo a b] (B (pB s w)):=by
 refine ak acz.ok<|bc [.bW] rfl ⟨⟨rfl,rfl⟩,trivial⟩ ?_;by_cases h:s=[]
 ·subst h;refine vj [(14,true)] [.cells [bg []]] rfl zx<|ab (aB ?_);rfl
 ·refine vj [(14,false)] [.cells [bg s],.cells [bg s],.cells [bg w]] rfl (by(repeat' apply cc);(all_goals first|exact trivial|rfl|omega|simp [hs,h,c]))<|ab (aB ?_);show B _=B _;have e:(s==w)=decide (s=w):=zx
  simp [pB,h];exact e
def bV (F S:List Wd)(k a b:Nat):Nat×Nat×Int:=match k,F[a]?,S[b]? with
 |0,some w,some s=>if pB s w=true then(a+1,b+1,0)else(a,b,-1)
 |1,some w,some s=>if pB s w=true then(a,b,-1)else(a+1,b+1,1)
 |2,some _,_=>(a+1,b,1)
 |3,_,some _=>(a,b+1,1)
 |_,_,_=>(a,b,-1)
theorem A5 {F S:List Wd}{k a b:Nat}(hk:k<=3)(ha:a<=F.length)(e:b<=S.length)(h:F.length<(if k≠3 then a+1 else a)\/S.length<(if k≠2 then b+1 else b)):bV F S k a b=(a,b,-1):=by
 have c:F.length<=a->F[a]? =none:=λh=>b9 h;have d:S.length<=b->S[b]? =none:=λh=>b9 h;match k,hk with
 |0,_=>
  simp at h;rcases h with h|h
  ·simp [bV,c zz]
  ·simp [bV,d zz]
 |1,_=>
  simp at h;rcases h with h|h
  ·simp [bV,c zz]
  ·simp [bV,d zz]
 |2,_=>
  simp at h;rcases h with h|h
  ·simp [bV,c zz]
  ·omega
 |3,_=>
  simp at h;rcases h with h|h
  ·omega
  ·simp [bV,d zz]
theorem MU (F S:List Wd)(bm k a b:Nat)(hk:k<=3)(ha:a<=F.length)(J:b<=S.length)(T:F.length<=1000)(U:S.length<=1000):
  Ev an 206 [ei F S bm,I k,qo a b] (.bZ [qo (bV F S k a b).1 (bV F S k a b).2.1,I (bV F S k a b).2.2]):=by
 have N:(F.map λs=>[bg s]).length=F.length:=ap _
 have O:(S.map λs=>[bg s]).length=S.length:=ap _
 have P:an.underlying 4=some .bool:=zw
 generalize u:bV F S k a b=R
 refine ak ago.ok<|bc [.bW,.aI] rfl ⟨⟨rfl,rfl⟩,rfl,trivial⟩<|aC rfl<|aa (av ?_)
 refine lz [.aI] 3 rfl rfl ⟨rfl,⟨rfl,rfl,rfl,zq⟩,trivial⟩<|aT.fY (t:=9) rfl (λp=>?_)
 refine eZ rfl ?_
 have v: ∀{Q:cI} {env:Env} {H:Heap} {c:List AV},(∀env H,pD an [.cell 6 294,.tmp 7] (.bZ [qo R.1 R.2.1,I R.2.2]) .ret env H []->Q .ret env H [])->R=(a,b,-1)->env 6= .dO 294 c->env 5= .pi [I a,I b]->c.length=2->aJ an none 61 (.seq (.ops [⟨some 57,none,.load 294 (tm 5) (some 2)⟩,⟨none,none,.store 294 (tm 6) (tm 57) 2⟩,⟨some 7,none,.rF (kc (-1))⟩]) .ret) Q env H []:=by
  intro Q env H c E A z D hc
  obtain⟨x,y,rfl⟩: ∃x y,c=[x,y]:=by
   match c,hc with
   |[x,y],_=>exact⟨x,y,rfl⟩
  refine ae (aj (du (H':=[]) (de _)) (ao (l:=[(5,.pi [I a,I b]),(6,.dO 294 [x,y])]) ⟨D,z,trivial⟩))<|FD rfl ⟨⟨rfl,rfl,rfl,zx⟩,trivial⟩<|ae (aq (t:=6) rfl)<|ab (E _ _ ?_)
  rw[A]
  exact fh (.inr rfl) (.many zq ⟨.mz (n:=some 2) rfl zw rfl,.tmp rfl rfl,trivial⟩)
 have r: ∀{Q:cI} {env:Env} {H:Heap} {c:List AV},(∀env H,pD an [.cell 6 294,.tmp 7] (.bZ [qo R.1 R.2.1,I R.2.2]) .ret env H []->Q .ret env H [])->R=(a,b,-1)->env 6= .dO 294 c->env 5= .pi [I a,I b]->c.length=2->aJ an none 61 (.seq (.ops [⟨some 44,none,.load 294 (tm 5) (some 2)⟩,⟨none,none,.store 294 (tm 6) (tm 44) 2⟩,⟨some 7,none,.rF (kc (-1))⟩]) .ret) Q env H []:=by
  intro Q env H c E A z D hc
  obtain⟨x,y,rfl⟩: ∃x y,c=[x,y]:=by
   match c,hc with
   |[x,y],_=>exact⟨x,y,rfl⟩
  refine ae (aj (du (H':=[]) (de _)) (ao (l:=[(5,.pi [I a,I b]),(6,.dO 294 [x,y])]) ⟨D,z,trivial⟩))<|FD rfl ⟨⟨rfl,rfl,rfl,zx⟩,trivial⟩<|ae (aq (t:=6) rfl)<|ab (E _ _ ?_)
  rw[A]
  exact fh (.inr rfl) (.many zq ⟨.mz (n:=some 2) rfl zw rfl,.tmp rfl rfl,trivial⟩)
 have G: ∀(o m:Nat),el [(0,ei F S bm),(1,I k),(5,.pi [I a,I b]),(6,.dO 294 [I 0,I 0]),(8,.fn (.func 277) [ei F S bm] []),(9,.po p 0),(10,I 1)]=el [(0,ei F S bm),(1,I k),(5,.pi [I a,I b]),(6,.dO 294 [I 0,I 0]),(8,.fn (.func 277) [ei F S bm] []),(9,.po p 0),(10,I 1)]:=λ_ _=>rfl
 refine dZ True (el [(0,ei F S bm),(1,I k),(5,.pi [I a,I b]),(6,.dO 294 [I 0,I 0]),(8,.fn (.func 277) [ei F S bm] []),(9,.po p 0),(10,I 1)]) [(p,.cells 294 [I a,I (if k≠2 then b+1 else b:Nat)])] [] ?_ ?_
 ·by_cases h:k=2
  ·subst h
   refine aC rfl<|aD rfl rfl ?_
   exact⟨(),trivial,eL⟩
  ·refine aC rfl<|ag (b:=true) (by show B _=B _;exact congrArg B (by rw[bne_iff_ne];omega)) (λ_=>?_) (λh=>by cases h)
   refine av<|lz [.at 0] 4 rfl rfl ⟨rfl,zz,trivial⟩<|ai (aZ (i:=0) rfl rfl rfl rfl rfl rfl (by show 2<=2;decide) ?_)
   refine bh ⟨(),trivial,aj (ar ?_) eL⟩
   rw[if_pos h];rfl
 intro _ _
 generalize j:(if k≠2 then b+1 else b:Nat)=m
 refine dZ True (el [(0,ei F S bm),(1,I k),(5,.pi [I a,I b]),(6,.dO 294 [I 0,I 0]),(8,.fn (.func 277) [ei F S bm] []),(9,.po p 0),(10,I 1)]) [(p,.cells 294 [I (if k≠3 then a+1 else a:Nat),I m])] [] ?_ ?_
 ·by_cases h:k=3
  ·subst h
   refine aC rfl<|aD rfl rfl ?_
   exact⟨(),trivial,eL⟩
  ·refine aC rfl<|ag (b:=true) (by show B _=B _;exact congrArg B (by rw[bne_iff_ne];omega)) (λ_=>?_) (λh=>by cases h)
   refine av<|lz [.at 0] 4 rfl rfl ⟨rfl,zz,trivial⟩<|ai (aZ (i:=0) rfl rfl rfl rfl rfl rfl (by show 1<=2;decide) ?_)
   refine bh ⟨(),trivial,aj (ar ?_) eL⟩
   rw[if_pos h];rfl
 intro _ _
 generalize g:(if k≠3 then a+1 else a:Nat)=o
 refine aa (aa ?_)
 by_cases K:F.length<o
 ·have g1:decide ((o:Int)>((F.map λs=>[bg s]).length:Int))=true:=decide_eq_true zz
  refine rE [(34,true)] [.at 0] rfl zx<|ax rfl rfl ?_
  exact r (c:=[I 0,I 0]) (λ_ _ h=>h) (by rw[<-u];exact A5 hk ha J (.inl (g▸K))) rfl rfl rfl
 have g1:decide ((o:Int)>((F.map λs=>[bg s]).length:Int))=false:=decide_eq_false zz
 by_cases L:S.length<m
 ·have g2:decide ((m:Int)>((S.map λs=>[bg s]).length:Int))=true:=decide_eq_true zz
  refine rE [(34,false)] [.at 0,.at 0] rfl zx<|ag (b:=true) (by show B _=B _;exact congrArg B g2) (λ_=>?_) (λh=>by cases h)
  exact r (c:=[I 0,I 0]) (λ_ _ h=>h) (by rw[<-u];exact A5 hk ha J (.inr (j▸L))) rfl rfl rfl
 have g2:decide ((m:Int)>((S.map λs=>[bg s]).length:Int))=false:=decide_eq_false zz
 refine rE [(34,false)] [.at 0,.at 0] rfl zx<|ag (b:=false) (by show B _=B _;exact congrArg B g2) (λh=>by cases h) (λ_=>af ?_)
 have fin: ∀(c:Int) (env:Env),R=(o,m,c)->env 6= .dO 294 [I 0,I 0]->env 9= .po p 0->env 10=I c->aJ an none 61 (.seq (.ops [⟨some 59,none,.load 294 (tm 9) (some 2)⟩,⟨some 60,none,.rF (tm 10)⟩,⟨none,none,.store 294 (tm 6) (tm 59) 2⟩,⟨some 7,none,.rF (tm 60)⟩]) .ret) (pD an [.cell 6 294,.tmp 7] (.bZ [qo R.1 R.2.1,I R.2.2])) env [(p,.cells 294 [I o,I m])] []:=by
  intro c env A z M C
  refine ae (ao (l:=[(6,.dO 294 [I 0,I 0]),(9,.po p 0),(10,I c)]) ⟨z,M,C,trivial⟩)<|bc [.at 0] rfl ⟨rfl,⟨rfl,rfl,rfl,zx⟩,trivial⟩<|ae (aq (t:=6) rfl) ?_
  rw[A]
  exact ab (fh (.inr rfl) (.many zq ⟨.mz (n:=some 2) rfl zw rfl,.tmp rfl rfl,trivial⟩))
 refine aa (aa ?_)
 match k,hk with
 |0,_=>
  obtain⟨w,q⟩:=aL (l:=F) (k:=a) zx
  obtain⟨s,hs⟩:=aL (l:=S) (k:=b) zx
  have e:=Mf F S bm a b w s q hs
  refine js [(47,true)] [] rfl zx<|ax rfl rfl<|aa (aa ?_)
  by_cases f:pB s w=true
  ·rw[f]at e
   have d:R=(o,m,0):=by rw[<-u,<-g,<-j];simp [bV,q,hs,f]
   refine iO [.ret (B true)] rfl (by(repeat' (with_reducible apply cc));(all_goals try exact zt _);exact e)<|aD rfl rfl<|cC rfl<|fin 0 _ d ?_ ?_ ?_<;>rfl
  ·have f:pB s w=false:=by simpa using f
   rw[f]at e
   have d:R=(a,b,-1):=by rw[<-u];simp [bV,q,hs,f]
   refine iO [.ret (B false)] rfl (by(repeat' (with_reducible apply cc));(all_goals try exact zt _);exact e)<|ax rfl rfl ?_
   exact v (c:=[I 0,I 0]) (λ_ _ h=>h) d rfl rfl rfl
 |1,_=>
  obtain⟨w,q⟩:=aL (l:=F) (k:=a) zx
  obtain⟨s,hs⟩:=aL (l:=S) (k:=b) zx
  have e:=Mf F S bm a b w s q hs
  refine js [(47,false)] [] rfl zx<|ax rfl rfl<|aa (aa ?_)
  by_cases f:pB s w=true
  ·rw[f]at e
   have d:R=(a,b,-1):=by rw[<-u];simp [bV,q,hs,f]
   refine iO [.ret (B true)] rfl (by(repeat' (with_reducible apply cc));(all_goals try exact zt _);exact e)<|ax rfl rfl ?_
   exact v (c:=[I 0,I 0]) (λ_ _ h=>h) d rfl rfl rfl
  ·have f:pB s w=false:=by simpa using f
   rw[f]at e
   have d:R=(o,m,1):=by rw[<-u,<-g,<-j];simp [bV,q,hs,f]
   refine iO [.ret (B false)] rfl (by(repeat' (with_reducible apply cc));(all_goals try exact zt _);exact e)<|aD rfl rfl<|cC rfl<|fin 1 _ d ?_ ?_ ?_<;>rfl
 |2,_=>
  obtain⟨w,q⟩:=aL (l:=F) (k:=a) zx
  have d:R=(o,m,1):=by rw[<-u,<-g,<-j];simp [bV,q]
  refine js [(47,false)] [] rfl zx<|aD rfl rfl<|fin 1 _ d ?_ ?_ ?_<;>rfl
 |3,_=>
  obtain⟨s,hs⟩:=aL (l:=S) (k:=b) zx
  have d:R=(o,m,1):=by rw[<-u,<-g,<-j];simp [bV,hs]
  refine js [(47,false)] [] rfl zx<|aD rfl rfl<|fin 1 _ d ?_ ?_ ?_<;>rfl
def AL (a:Int->Int):List Int->Int×Int->Int×Int
 |[],r=>r
 |x::l,r=>AL a l (if 0<=a x/\(r.2<0\/a x<r.2)then(x,a x)else r)
abbrev qU (l:List Int)(a:Int->Int):Int×Int:=AL a l (0,-1)
theorem N5 {X:Type}(T:X->Heap)(l:List Int)(g:Nat)(c:List AV)(a:Int->Int)(o: ∀x i,i∈l->il an g (I i::c) (T x) (λr Ho=>r=I (a i)/\ ∃q,Ho=T q))(x:X):
  il an 272 [ints l,.fn (.func g) [] c] (T x) (λr Ho=>r= .bZ [I (qU l a).1,I (qU l a).2]/\ ∃q,Ho=T q):=by
 have p:(l.map λx=>[I x]).length=l.length:=ap _
 refine bq aeT.ok<|cH 0 rfl λt=>aC rfl<|aC rfl<|aa (aa ?_)
 refine cC rfl<|aJ.gK (Y:=X) (λ_=>True) (λ_=>el [(4,I (qU l a).1),(5,I (qU l a).2)]) (λy=>T y) (λ_=>[]) ?_ ?_
 ·refine br (X:=Nat×(Int×Int)×X) (λz=>z.1<=l.length/\qU l a=AL a (l.drop z.1) z.2.1) (λz=>el [(1,.fn (.func g) [] c),(4,I z.2.1.1),(5,I z.2.1.2),(9,ints l),(10,I l.length),(11,I z.1)]) (λz=>T z.2.2) (λ_=>[]) (λz=>l.length-z.1) (0,(0,-1),x) ⟨zz,rfl⟩
   (ao ⟨rfl,rfl,rfl,rfl,by show I _=I _;rw[p],rfl,trivial⟩) ?_
  rintro⟨k,⟨d,n⟩,y⟩ ⟨hk,hi⟩
  simp only at hk hi
  refine gm [(1,.fn (.func g) [] c),(4,I d),(5,I n),(9,ints l),(10,I l.length),(11,I k)]<|aC rfl<|aa (ag rfl (λhe=>?_) (λhe=>?_))
  ·simp only[nL]at he
   obtain⟨i,hx⟩:=aL he
   rw[drop_cons hx,AL]at hi
   refine af<|aJ.qq (Y:=(Int×Int)×X) (λz=>qU l a=AL a (l.drop (k+1)) z.1) (λz=>el [(1,.fn (.func g) [] c),(4,I z.1.1),(5,I z.1.2),(9,ints l),(10,I l.length),(11,I k)]) (λz=>T z.2) (λ_=>[]) ?_ ?_
   ·refine bc [.cells [I i]] rfl ⟨⟨zz,by simp [hx]⟩,trivial⟩<|aa (av ?_)
    refine kL 2 rfl rfl<|ai (bP (Hin:=T y) (H0:=[]) rfl (o y i (List.mem_of_getElem? hx)) rfl rfl (aK _) zj ?_)
    rintro res s ⟨rfl,e,rfl⟩
    refine eZ rfl<|ae (aj (ar (H':=T e) zj) (ao (l:=[(1,.fn (.func g) [] c),(4,I d),(5,I n),(7,I i),(8,I (a i)),(9,ints l),(10,I l.length),(11,I k)]) ⟨rfl,rfl,rfl,rfl,rfl,rfl,rfl,rfl,trivial⟩)) ?_
    generalize a i=v at hi
    by_cases f:0<=v
    ·have u:decide (v>=0)=true:=decide_eq_true f
     by_cases j:n<0
     ·have g1:decide (n<0)=true:=decide_eq_true j
      rw[if_pos ⟨f,.inl j⟩]at hi
      refine uk [(20,true),(23,true)] [] rfl (by(and_intros);(all_goals try exact zt _))<|ax rfl rfl<|cC rfl ?_
      exact⟨((i,v),e),hi,eL⟩
     ·have g1:decide (n<0)=false:=decide_eq_false j
      refine uk [(20,true),(23,false)] [] rfl (by(and_intros);(all_goals try exact zt _)) ?_
      by_cases m:v<n
      ·rw[if_pos ⟨f,.inr m⟩]at hi
       refine ag (b:=true) (by show B _=B _;exact congrArg B (decide_eq_true m)) (λ_=>?_) (λh=>by cases h)
       refine cC rfl ?_
       exact⟨((i,v),e),hi,eL⟩
      ·rw[if_neg (λh=>h.2.elim j m)]at hi
       refine ag (b:=false) (by show B _=B _;exact congrArg B (decide_eq_false m)) (λh=>by cases h) (λ_=>af ?_)
       exact⟨((d,n),e),hi,eL⟩
    ·have u:decide (v>=0)=false:=decide_eq_false f
     rw[if_neg (λh=>f h.1)]at hi
     refine uk [(20,false)] [] rfl (by(and_intros);(all_goals try exact zt _))<|aD rfl rfl ?_
     exact⟨((d,n),e),hi,eL⟩
   ·rintro⟨w,e⟩ h
    refine dS rfl ⟨zz,trivial⟩ ?_
    exact⟨(k+1,w,e),⟨by simp only;omega,h⟩,by simp only;omega,eL⟩
  ·simp only[nL]at he
   refine ay ⟨y,trivial,ao ⟨?_,?_,trivial⟩⟩
   ·rw[hi,a6 zz];rfl
   ·rw[hi,a6 zz];rfl
 ·intro y _
  refine aC rfl ?_
  exact ab ⟨.inr rfl,_,.bZ [I (qU l a).1,I (qU l a).2],T y,rfl,.many zq ⟨.tmp rfl rfl,.tmp rfl rfl,trivial⟩,⟨rfl,y,rfl⟩,az _⟩
def iK (F S:List Wd)(a b k:Nat):Int:=if (bV F S k a b).2.2<0 then -1 else(bV F S k a b).2.2+(nr (F.drop (bV F S k a b).1) (S.drop (bV F S k a b).2.1):Nat)
def jt (r:Int×Int)(k v:Int):Int×Int:=if 0<=v/\(r.2<0\/v<r.2)then(k,v)else r
theorem mK {r:Int×Int}{k v:Int}(h:v<0\/(0<=r.2/\r.2<=v)):jt r k v=r:=by unfold jt;rw[if_neg];rintro⟨a,b⟩;omega
theorem tK {r:Int×Int}{k v:Int}(h:0<=v)(g:r.2<0\/v<r.2):jt r k v=(k,v):=by unfold jt;rw[if_pos ⟨h,g⟩]
theorem KY (a b c:Nat):jt (jt (jt (jt (0,-1) 0 a) 1 (-1)) 2 (1+b)) 3 (1+c)=
  (((if a<=1+b/\a<=1+c then 0 else if b<=c then 2 else 3:Nat):Int),((min a (min (1+b) (1+c)):Nat):Int)):=by grind [only,tK,mK]
theorem I6 (a b c:Nat):jt (jt (jt (jt (0,-1) 0 (-1)) 1 (1+a)) 2 (1+b)) 3 (1+c)=
  (((if a<=b/\a<=c then 1 else if b<=c then 2 else 3:Nat):Int),((min (1+a) (min (1+b) (1+c)):Nat):Int)):=by grind [only,mK,tK]
theorem Kb {F S:List Wd}{a b:Nat}(ha:a<=F.length)(t:b<=S.length)(h: ¬(a=F.length/\b=S.length)):
  qU [0,1,2,3] (λk=>iK F S a b k.toNat)=(((fI (F.drop a) (S.drop b):Nat):Int),((nr (F.drop a) (S.drop b):Nat):Int)):=by
 show jt (jt (jt (jt (0,-1) 0 (iK F S a b 0)) 1 (iK F S a b 1)) 2 (iK F S a b 2)) 3 (iK F S a b 3)=_
 cases d:F[a]? with
 |none=>
  have q:a=F.length:=zx
  obtain⟨s,e⟩:=aL (l:=S) (k:=b) zz
  have hd:F.drop a=[]:=zx
  have f:iK F S a b 0= -1:=by simp [iK,bV,d]
  have g:iK F S a b 1= -1:=by simp [iK,bV,d]
  have i:iK F S a b 2= -1:=by simp [iK,bV,d]
  have j:iK F S a b 3=1+((S.drop (b+1)).length:Nat):=by simp [iK,bV,d,e,hd,nr]
  rw[f,g,i,j,hd,drop_cons e,mK (r:=(0,-1)) (k:=0) (v:= -1) (.inl zq),mK (r:=(0,-1)) (k:=1) (v:= -1) (.inl zq),mK (r:=(0,-1)) (k:=2) (v:= -1) (.inl zq),tK zz (.inl zq)]
  simp only[fI,nr,b0,ej]
  omega
 |some w=>
  cases e:S[b]? with
  |none=>
   have p:b=S.length:=by
    have:=List.getElem?_eq_none_iff.1 e
    omega
   have hd:S.drop b=[]:=by rw[p,List.drop_length]
   have f:iK F S a b 0= -1:=by simp [iK,bV,d,e]
   have g:iK F S a b 1= -1:=by simp [iK,bV,d,e]
   have i:iK F S a b 2=1+((F.drop (a+1)).length:Nat):=by simp [iK,bV,d,hd,E3]
   have j:iK F S a b 3= -1:=by simp [iK,bV,e]
   rw[f,g,i,j,hd,drop_cons d,E3,mK (r:=(0,-1)) (k:=0) (v:= -1) (.inl zq),mK (r:=(0,-1)) (k:=1) (v:= -1) (.inl zq),tK (r:=(0,-1)) (k:=2) zz (.inl zq),mK (k:=3) (v:= -1) (.inl zq)]
   simp only[fI,b0,ej]
   omega
  |some s=>
   have i:iK F S a b 2=1+(nr (F.drop (a+1)) (S.drop b):Nat):=by simp [iK,bV,d]
   have j:iK F S a b 3=1+(nr (F.drop a) (S.drop (b+1)):Nat):=by simp [iK,bV,e]
   have n:=drop_cons d
   have o:=drop_cons e
   have hk:fI (w::F.drop (a+1)) (s::S.drop (b+1))=if pB s w=true then(if nr (F.drop (a+1)) (S.drop (b+1))<=1+nr (F.drop (a+1)) (s::S.drop (b+1))/\nr (F.drop (a+1)) (S.drop (b+1))<=1+nr (w::F.drop (a+1)) (S.drop (b+1))then 0 else if nr (F.drop (a+1)) (s::S.drop (b+1))<=nr (w::F.drop (a+1)) (S.drop (b+1))then 2 else 3)
    else(if nr (F.drop (a+1)) (S.drop (b+1))<=nr (F.drop (a+1)) (s::S.drop (b+1))/\nr (F.drop (a+1)) (S.drop (b+1))<=nr (w::F.drop (a+1)) (S.drop (b+1))then 1 else if nr (F.drop (a+1)) (s::S.drop (b+1))<=nr (w::F.drop (a+1)) (S.drop (b+1))then 2 else 3):=rfl
   have m:=G2 w (F.drop (a+1)) s (S.drop (b+1))
   rw[<-n,<-o]at hk m
   by_cases c:pB s w=true
   ·have f:iK F S a b 0=(nr (F.drop (a+1)) (S.drop (b+1)):Nat):=by simp [iK,bV,d,e,c]
    have g:iK F S a b 1= -1:=by simp [iK,bV,d,e,c]
    rw[if_pos c]at hk m
    rw[f,g,i,j,hk,m]
    exact KY _ _ _
   ·have f:iK F S a b 0= -1:=by simp [iK,bV,d,e,c]
    have g:iK F S a b 1=1+(nr (F.drop (a+1)) (S.drop (b+1)):Nat):=by simp [iK,bV,d,e,c]
    rw[if_neg c]at hk m
    rw[f,g,i,j,hk,m]
    exact I6 _ _ _
theorem NX (F S:List Wd):il an 202 [strs F,strs S] [] (λr Ho=> ∃bm,r=ei F S bm/\Ho=[(bm,.map [])]):=by refine bq aed.ok<|aC rfl<|aa (av ?_);refine kL 2 rfl rfl<|ai (aF.sU (λbm=>?_));refine Sc [.bW] rfl ⟨⟨rfl,rfl⟩,trivial⟩ ?_;exact ab ⟨.inr rfl,_,_,_,rfl,.one (.tmp rfl rfl),⟨bm,rfl,rfl⟩,az _⟩
abbrev jS (p:Nat×Nat):Value:=.agg #[.int .i64 p.1,.int .i64 p.2]
def rh (F S:List Wd)(p:Nat×Nat):Nat:=nr (F.drop p.1) (S.drop p.2)
abbrev rB (F S:List Wd)(ks:List (Nat×Nat)):List (Value×AV):=ks.map λp=>(jS p,I (rh F S p))
def KS (F S:List Wd)(ks:List (Nat×Nat)):Prop:= ∀p∈ks,p.1<=F.length/\p.2<=S.length
theorem yH {F S:List Wd}(hF:F.length<=1000)(hS:S.length<=1000){p:Nat×Nat}(h:p.1<=F.length/\p.2<=S.length):bJ an 3 294 (jS p):=
 JE (wf_i64 zz zz) (wf_i64 zz zz)
theorem Fy {F S:List Wd}(hF:F.length<=1000)(hS:S.length<=1000){ks:List (Nat×Nat)}(h:KS F S ks): ∀e∈rB F S ks,bJ an 3 294 e.1:=by intro e he;obtain⟨p,a,rfl⟩:=c8.1 he;exact yH hF hS (h p a)
theorem Jo {p q:Nat×Nat}(h:jS p=jS q):p=q:=zx
theorem ML (F S:List Wd)(ks:List (Nat×Nat))(p:Nat×Nat):(p ∉ ks/\Av (rB F S ks) (jS p) none)\/(∃j,ks[j]? =some p/\Av (rB F S ks) (jS p) (some (j,I (rh F S p)))):=by
 by_cases h:p∈ks
 ·right;obtain⟨j,b⟩:=List.mem_iff_getElem?.1 h;exact⟨j,b,.some zx⟩
 ·left;refine⟨h,.none ?_⟩;intro e he a;obtain⟨q,c,rfl⟩:=c8.1 he;have:=Jo a;subst this;exact h c
theorem YN (F S:List Wd):nr F S<=F.length+S.length:=by
 induction F with
 |nil=>simp [nr]
 |cons w F a=>have:=Qi w F S;simp;omega
section
variable (F S:List Wd) (bm:Nat)
abbrev pR (ks:List (Nat×Nat)):Heap:=[(bm,.map (rB F S ks))]
def Bf (a b:Nat):Prop:= ∀ks,KS F S ks->il an 204 [ei F S bm,qo a b] (pR F S bm ks) (λr Ho=>r=I (rh F S (a,b))/\ ∃c,KS F S c/\Ho=pR F S bm c)
def EU (a b:Nat):Prop:= ∀ks,KS F S ks->il an 203 [ei F S bm,qo a b] (pR F S bm ks) (λr Ho=>r= .bZ [I (rh F S (a,b)),I (fI (F.drop a) (S.drop b))]/\ ∃c,KS F S c/\Ho=pR F S bm c)
variable {F S bm} (hF:F.length<=1000) (hS:S.length<=1000)
include hF hS
theorem MD {a b:Nat}(ha:a<=F.length)(y:b<=S.length)(hl:EU F S bm a b):Bf F S bm a b:=by
 intro ks h;have k:=yH hF hS (p:=(a,b)) ⟨ha,y⟩;refine bq acJ.ok<|bc [.bW] rfl ⟨⟨rfl,rfl⟩,trivial⟩ ?_;have z:(an.info? 3).bind (·.zero)=some (.int .i64 0):=zw
 rcases ML F S ks (a,b)with⟨A,d⟩|⟨j,u,d⟩
 ·refine aa (aa ?_);have l: ∀(env0:Env),env0 13= .mo bm->valOf (env0 14)=some (jS (a,b))-> ∀(r:Option Nat) (N:Nat) (D:List Nat),Q1 an r N (.lookup 358 (tm 13) (tm 14) true 294 3 [.int .i64 0]) (some 15) env0 (pR F S bm ks) D [(15,.bZ [I 0,B false])]:=by intro env0 s t r N D;exact aF.nD (n:=0) Jq z s rfl t k (Fy hF hS h) d ⟨rfl,rfl,rfl⟩
  refine rE [] [.op (.bZ [I 0,B false])] rfl (by refine⟨l _ rfl rfl,trivial⟩)<|aa<|cC rfl<|aD rfl rfl<|aa (av ?_);refine kL 2 rfl rfl<|ai (bU (Hin:=pR F S bm ks) (H0:=[]) (hl ks h) rfl rfl (aK _) zj ?_);rintro res x ⟨rfl,c,f,rfl⟩;refine eZ rfl<|ae (ar (H':=pR F S bm c) zj) ?_
  have m: ∃o,Av (rB F S c) (jS (a,b)) o/\ ∃g,KS F S g/\km (rB F S c) (jS (a,b)) (I (rh F S (a,b))) o=rB F S g:=by
   rcases ML F S c (a,b)with⟨A,d⟩|⟨j,u,d⟩
   ·refine⟨_,d,c++[(a,b)],?_,?_⟩
    ·intro p hp;rcases b8.1 hp with hp|hp
     ·exact f p hp
     ·rw[cA]at hp;subst hp;exact⟨ha,y⟩
    ·simp [km,rB]
   ·refine⟨_,d,c,f,?_⟩;show (rB F S c).set j _=_;apply cR;intro i;rw[c7];split
    ·rename_i e;subst e;have w:=(bi.1 u).1;rw[if_pos (by simpa using w)];unfold rB;rw[List.getElem?_map,u];rfl
    ·rfl
  obtain⟨o,C,g,v,q⟩:=m;refine aa (xh [] [] rfl trivial ?_);refine ai (aF.iI (n:=0) Jq rfl rfl (kv:=jS (a,b)) rfl k (Fy hF hS f) C rfl rfl ?_);refine aG (ar (H':=pR F S bm g) ?_) ?_
  ·show [(bm,cP.map (km (rB F S c) (jS (a,b)) (I (rh F S (a,b))) o))]=_;rw[q]
  refine bh<|aC rfl ?_;exact ab ⟨.inr rfl,_,_,_,rfl,.one (.tmp rfl rfl),⟨rfl,g,v,rfl⟩,az _⟩
 ·refine aa (aa ?_);have l: ∀(env0:Env),env0 13= .mo bm->valOf (env0 14)=some (jS (a,b))-> ∀(r:Option Nat) (N:Nat) (D:List Nat),Q1 an r N (.lookup 358 (tm 13) (tm 14) true 294 3 [.int .i64 0]) (some 15) env0 (pR F S bm ks) D [(15,.bZ [I (rh F S (a,b)),B true])]:=by intro env0 s t r N D;exact aF.nD (n:=0) Jq z s rfl t k (Fy hF hS h) d ⟨rfl,rfl,rfl⟩
  refine rE [] [.op (.bZ [I (rh F S (a,b)),B true])] rfl (by refine⟨l _ rfl rfl,trivial⟩)<|aa<|cC rfl<|ax rfl rfl<|aC rfl ?_;exact ab ⟨.inr rfl,_,_,_,rfl,.one (.tmp rfl rfl),⟨rfl,ks,h,rfl⟩,az _⟩
end
theorem G4 {F S:List Wd}{k a b:Nat}(ha:a<=F.length)(d:b<=S.length):(bV F S k a b).1<=F.length/\(bV F S k a b).2.1<=S.length/\(bV F S k a b).2.2<=1/\(0<=(bV F S k a b).2.2->a+b<(bV F S k a b).1+(bV F S k a b).2.1):=by
 have e: ∀w,F[a]? =some w->a+1<=F.length:=λw h=>(bi.1 h).1;have f: ∀s,S[b]? =some s->b+1<=S.length:=λs h=>(bi.1 h).1
 have c:(a,b,(-1:Int)).1<=F.length/\(a,b,(-1:Int)).2.1<=S.length/\(a,b,(-1:Int)).2.2<=1/\(0<=(a,b,(-1:Int)).2.2->a+b<(a,b,(-1:Int)).1+(a,b,(-1:Int)).2.1):=
  ⟨ha,d,zx,λh=>absurd h zx⟩
 unfold bV;split
 ·grind
 ·grind
 ·grind
 ·grind
 ·exact c
section
variable {F S:List Wd} {bm:Nat} (hF:F.length<=1000) (hS:S.length<=1000)
include hF hS
theorem Rb {a b k:Nat}(hk:k<=3)(ha:a<=F.length)(o:b<=S.length)(hc: ∀e f,e<=F.length->f<=S.length->a+b<e+f->Bf F S bm e f)(ks:List (Nat×Nat))(i:KS F S ks):
  il an 271 [I k,.pi [ei F S bm],.pi [I a,I b]] (pR F S bm ks) (λr Ho=>r=I (iK F S a b k)/\ ∃d,KS F S d/\Ho=pR F S bm d):=by
 have g:=MU F S bm k a b hk ha o hF hS
 obtain⟨l1,l2,l3,l⟩:=G4 (F:=F) (S:=S) (k:=k) ha o
 have p:iK F S a b k=if (bV F S k a b).2.2<0 then -1 else(bV F S k a b).2.2+(rh F S ((bV F S k a b).1,(bV F S k a b).2.1):Nat):=rfl
 rw[p]
 generalize (bV F S k a b).1=e at g l1 l
 generalize (bV F S k a b).2.1=f at g l2 l
 generalize (bV F S k a b).2.2=c at g l3 l
 refine bq adU.ok<|aC rfl<|bc [.ret (.bZ [qo e f,I c]),.aI] rfl ⟨g,rfl,⟨rfl,rfl,rfl,zx⟩,trivial⟩<|ae (aq (t:=5) rfl)<|aa (aa ?_)
 refine cC rfl ?_
 by_cases h:c<0
 ·rw[if_pos h]
  refine ag (b:=true) (by show B _=B _;exact congrArg B (decide_eq_true h)) (λ_=>?_) (λh=>by cases h)
  refine aC rfl ?_
  exact ab ⟨.inr rfl,_,_,_,rfl,.one (.tmp rfl rfl),⟨rfl,ks,i,rfl⟩,az _⟩
 ·rw[if_neg h]
  have q:=YN (F.drop e) (S.drop f)
  rw[b1,b1]at q
  have m:=hc e f l1 l2 (l zz) ks i
  have s:rh F S (e,f)=nr (F.drop e) (S.drop f):=rfl
  refine ag (b:=false) (by show B _=B _;exact congrArg B (decide_eq_false h)) (λh=>by cases h) (λ_=>af ?_)
  refine aa (av ?_)
  refine kL 3 rfl rfl<|ai (bU (Hin:=pR F S bm ks) (H0:=[]) m rfl rfl (aK _) zj ?_)
  rintro res n ⟨rfl,d,j,rfl⟩
  refine aG (ar (H':=pR F S bm d) zj)<|xdA rfl ⟨zz,trivial⟩ ?_
  exact ab ⟨.inr rfl,_,_,_,rfl,.one (.tmp rfl rfl),⟨rfl,d,j,rfl⟩,az _⟩
theorem Mi {a b:Nat}(ha:a<=F.length)(A:b<=S.length)(hc: ∀n o,n<=F.length->o<=S.length->a+b<n+o->Bf F S bm n o):EU F S bm a b:=by
 intro ks l;have p:(F.map λs=>[bg s]).length=F.length:=ap _;have q:(S.map λs=>[bg s]).length=S.length:=ap _;have m:=λ{x y:Operand} {env:Env} {H:Heap} {t:Nat}=>Ra (a:=a) (b:=b) (c:=((F.map λs=>[bg s]).length:Nat)) (d:=((S.map λs=>[bg s]).length:Nat)) (wf_i64 zz zz) (wf_i64 zz zz) (wf_i64 zz zz) (wf_i64 zz zz) (x:=x) (y:=y) (env:=env) (H:=H) (t:=t);refine bq aev.ok<|bc [.bW,.bW] rfl ⟨⟨rfl,rfl⟩,⟨rfl,rfl⟩,trivial⟩<|aa (aa ?_);generalize j:(decide ((a:Int)=((F.map λs=>[bg s]).length:Nat)/\(b:Int)=((S.map λs=>[bg s]).length:Nat)))=bb at m;refine rE [] [.op (B bb)] rfl (by refine⟨m rfl rfl,trivial⟩)<|ag rfl (λh=>?_) (λh=>af ?_)
 ·rw[h,decide_eq_true_iff]at j;have C:F.drop a=[]:=a6 zz;have D:S.drop b=[]:=a6 zz;refine aC rfl<|ab ⟨.inr rfl,_,.bZ [I 0,I 4],pR F S bm ks,rfl,.many zq ⟨.tmp rfl rfl,.tmp rfl rfl,trivial⟩,⟨?_,ks,l,rfl⟩,az _⟩;unfold rh;rw[C,D];rfl
 ·rw[h,decide_eq_false_iff_not]at j;have v: ¬(a=F.length/\b=S.length):=λe=>j ⟨by rw[p];omega,by rw[q];omega⟩;have w:=Kb ha A v;refine aC rfl<|aa (av ?_);refine lz [.bW] 2 rfl rfl ⟨rfl,trivial⟩ ?_
  have u:=N5 (X:={ks:List (Nat×Nat)//KS F S ks}) (λx=>pR F S bm x.1) [0,1,2,3] 271 [.pi [ei F S bm],.pi [I a,I b]] (λk=>iK F S a b k.toNat) (by
   rintro⟨x,hx⟩ i hi
   obtain⟨k,rfl,hk⟩: ∃k:Nat,i=k/\k<=3:=by
    simp only[ec,dk,or_false]at hi
    rcases hi with rfl|rfl|rfl|rfl
    ·exact⟨0,rfl,zq⟩
    ·exact⟨1,rfl,zq⟩
    ·exact⟨2,rfl,zq⟩
    ·exact⟨3,rfl,zq⟩
   refine(Rb hF hS hk ha A hc x hx).mono ?_
   rintro r Ho ⟨rfl,g,f,rfl⟩
   exact⟨by rw[a8],⟨g,f⟩,rfl⟩) ⟨ks,l⟩
  refine ai (bU (Hin:=pR F S bm ks) (H0:=[]) u rfl rfl (aK _) zj ?_);rintro res z ⟨rfl,⟨g,f⟩,rfl⟩;refine aG (ar (H':=pR F S bm g) zj) ?_;rw[w];refine eZ rfl<|aC rfl<|ab ⟨.inr rfl,_,.bZ [I (rh F S (a,b)),I (fI (F.drop a) (S.drop b))],pR F S bm g,rfl,.many zq ⟨.tmp rfl rfl,.tmp rfl rfl,trivial⟩,⟨rfl,g,f,rfl⟩,az _⟩
theorem HI: ∀(n a b:Nat),a<=F.length->b<=S.length->F.length+S.length<=n+(a+b)->Bf F S bm a b/\EU F S bm a b:=by
 intro n;induction n with
 |zero=>intro a b ha c i;have hl:=Mi hF hS (bm:=bm) ha c (λd e f g h=>zz);exact⟨MD hF hS ha c hl,hl⟩
 |succ n j=>intro a b ha c i;have hl:=Mi hF hS (bm:=bm) ha c (λd e f g h=>(j d e f g zz).1);exact⟨MD hF hS ha c hl,hl⟩
theorem UM {a b:Nat}(ha:a<=F.length)(c:b<=S.length):Bf F S bm a b:=(HI hF hS (F.length+S.length) a b ha c zz).1
theorem left_at {a b:Nat}(ha:a<=F.length)(c:b<=S.length):EU F S bm a b:=(HI hF hS (F.length+S.length) a b ha c zz).2
end
end Go.Px
