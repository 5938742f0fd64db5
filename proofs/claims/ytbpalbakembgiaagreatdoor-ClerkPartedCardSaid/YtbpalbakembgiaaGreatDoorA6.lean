/- Part 6 of the proof of a statement of this seat (a logic of pure contracts; the functions; their contracts). No conditions. -/
import Derived.Test.YtbpalbakembgiaaGreatDoorA5
set_option linter.all false
open And renaming intro->cA
open Array.mk renaming injEq->hC
open Bool renaming eq_iff_iff->bt,eq_false_iff->cb,and_eq_true->de,or_eq_true->ek,or_false->eP,false_or->gm,or_true->gx
open Decidable renaming not_not->ho
open Go.IntKind renaming i64->gR
open Go.Lit renaming int->ht
open Go.Program renaming keyLits->en
open Go.Proofs.Tryz renaming prog->ad,underlying3->ds,underlying128->eS,underlying135->eT,underlying232->eU
open Go.Value renaming int->ec,formed->fe,cells->fk
open Go.Value.agg renaming injEq->hB
open Go.Value.int renaming injEq->fD
open Int renaming toNat_natCast->cR,natCast_inj->fr,pow_pos->gQ
open List renaming range->az,getElem?_eq_some_iff->a6,length_map->a7,mem_range->a8,perm_middle->bk,append_assoc->bl,append_nil->bm,mem_of_getElem?->bs,length_append->bx,perm_append_comm->bA,getElem?_map->bI,range_succ->b0,getElem?_eq_none->b1,length_singleton->b4,replicate->b7,all_eq_true->b8,getElem?_range->b9,sublist_cons_self->cc,getElem?_of_mem->cd,mem_filter->cx,mem_map->cy,mem_singleton->cB,getElem?_append_left->cD,sublist_append_left->c8,filter_cons_of_pos->dk,mem_flatMap->dn,take_of_length_le->ej,filterMap_append->er,length_replicate->et,pairwise_flatMap->eu,mem_of_getLast?->ew,flatMap_append->eM,all_eq_false->e6,ext_getElem?->e7,foldl_append->e8,pairwise_map->e9,take_add_one->fb,length_cons->ff,length_take->fj,append_inj->fs,foldl_cons->fv,length_nil->fx,map_append->fy,Nodup->hf
open List.Pairwise renaming imp_of_mem->c7,imp->e0,filter->gX
open List.Perm renaming swap->ga
open List.Sublist renaming refl->an,append->ey
open List.cons renaming injEq->fu
open Nat renaming le_refl->ap,eq_of_beq_eq_true->b6,pow_lt_pow_right->cr,beq->gM
namespace Go.Px
variable {p D:List Nat}{k w y:Nat}{c:be}{d:List Sp}{n A:Int}{e:Type}{g:List Nat->Bool}{i:Env}{L:List (List Nat)}{j C:Operand}{m:Nat->Bool}{o:List (Nat×Nat)}{H:av}{x:sr}{q:List AV}{v:AV}{s:Sp}{u:Value}
def du (ext:List Nat->List Nat):Nat->List Nat->List (List Nat)
 |0,p=>[p]
 |m+1,p=>(ext p).flatMap λk=>du ext m (p++[k])
def yz (ext:List Nat->List Nat):Nat->List (List Nat)
 |0=>[[]]
 |n+1=>(yz ext n).flatMap λp=>(ext p).map λk=>p++[k]
theorem DR (ext:List Nat->List Nat): ∀(m:Nat) (p:List Nat),du ext (m+1) p=(du ext m p).flatMap λp=>(ext p).map λk=>p++[k]
 |0,p=>by simp only[du,List.flatMap_cons,List.flatMap_nil,bm,List.map_eq_flatMap]
 |m+1,p=>by show (ext p).flatMap (λk=>du ext (m+1) (p++[k]))=((ext p).flatMap (λk=>du ext m (p++[k]))).flatMap _;rw[List.flatMap_assoc];congr 1;funext k;exact DR ext m (p++[k])
theorem Hl (ext:List Nat->List Nat): ∀n:Nat,yz ext n=du ext n []
 |0=>rfl
 |n+1=>by rw[DR,<-Hl ext n];rfl
theorem As (ext:List Nat->List Nat): ∀(m:Nat) (p:List Nat),∀q∈du ext m p,q.length=p.length+m
 |0,p,q,h=>by simp only[du,cB]at h;subst h;rfl
 |m+1,p,q,h=>by simp only[du,dn]at h;obtain⟨k,_,a⟩:=h;have:=As ext m (p++[k]) q a;rw[bx,b4]at this;omega
theorem zG (ext:List Nat->List Nat)(G:Nat->Prop)(h: ∀p,∀k∈ext p,G k): ∀(m:Nat) (p:List Nat),(∀k∈p,G k)-> ∀q∈du ext m p,∀k∈q,G k
 |0,p,b,q,a=>by simp only[du,cB]at a;subst a;exact b
 |m+1,p,b,q,a=>by
  simp only[du,dn]at a;obtain⟨k,hk,a⟩:=a;refine zG ext G h m (p++[k]) ?_ q a;intro x hx;rcases List.mem_append.1 hx with hx|hx
  exact b x hx;simp only[cB]at hx;subst hx;exact h p _ hk
theorem AU (ext:List Nat->List Nat)(h: ∀p,(ext p).Nodup): ∀n:Nat,(yz ext n).Nodup/\ ∀q∈yz ext n,q.length=n
 |0=>by simp [yz]
 |n+1=>by obtain⟨j,i⟩:=AU ext h n;refine⟨?_,?_⟩;unfold hf;simp only[yz];rw[eu];refine⟨λp _=>?_,?_⟩;rw[e9];refine e0 ?_ (h p);intro a b d e;exact d (by simpa using e);refine c7 ?_ j;intro p q f c g x hx y hy e;simp only[cy]at hx hy;obtain⟨k,_,rfl⟩:=hx;obtain⟨l,_,rfl⟩:=hy;exact g (fs e (by rw[i p f,i q c])).1;intro q c;simp only[yz,dn,cy]at c;obtain⟨p,f,k,_,rfl⟩:=c;rw[bx,i p f];rfl
structure qm where
 nm:List UInt8
 ed:List Int
 deriving DecidableEq
variable {r:List qm}{z:qm}
structure ln where
 st:Int
 le:Int
 we:Int
 cs:List qm
 hs:List qm
 deriving DecidableEq
def eJ (long:Nat->Bool)(least:Int)(l:List qm)(i:Nat):Int:=match l[i]? with
 |none=>0
 |some x=>if eI x.nm=false then 6 else if (l.take i).any (λy=>y.nm==x.nm)=true then 5 else if long x.ed.length=true then 3 else if ae least 9 x.ed=true then 7 else 0
def mV (d:ln)(n:Nat):Bool:=(n:Int)!=d.st
def mX (d:ln)(n:Nat):Bool:=ae d.le d.st [(n:Int)]
def dF (d:ln):Int×Int×Int:=
 if (ae 1 6 [d.st]||ae 1 d.st [d.le]||ae 0 9 [d.we])=true then(1,0,7)
 else if 4<d.cs.length then(2,0,3)
 else if (aB (eJ (mV d) 0 d.cs) d.cs.length 0).2≠0 then(2,(aB (eJ (mV d) 0 d.cs) d.cs.length 0).1,(aB (eJ (mV d) 0 d.cs) d.cs.length 0).2)
 else if 4<d.hs.length then(3,0,3)
 else if (aB (eJ (mX d) (-1) d.hs) d.hs.length 0).2≠0 then(3,(aB (eJ (mX d) (-1) d.hs) d.hs.length 0).1,(aB (eJ (mX d) (-1) d.hs) d.hs.length 0).2)
 else(0,0,0)
def N0 (we:Int)(b a:List Int):Bool:=decide (a.length<=b.length)&&(az a.length).all λi=>a.getD i 0== -1|| !ae 0 we [b.getD i 0-a.getD i 0]
def jh (d:ln)(h c s:Nat):Bool:=match d.cs[c]?,d.hs[h]? with
 |some x,some y=>N0 d.we (x.ed.drop s) y.ed
 |_,_=>false
def uV (d:ln)(h c:Nat):Bool:=(az d.st.toNat).any λs=>jh d h c s
def kS (d:ln)(p:List Nat):List Nat:=0::((az d.cs.length).filter λc=> !p.contains (c+1)&&uV d p.length c).map (·+1)
def dS (d:ln):List (List Nat):=du (kS d) d.hs.length []
def dK (t:List Nat):Nat:=t.count 0
def qG (x:List (List Nat)×Nat)(t:List Nat):List (List Nat)×Nat:=
 if dK t<x.2 then([t],dK t)else if dK t=x.2/\x.1.getLast? ≠some t then(x.1++[t],x.2)else x
def mL (d:ln):List (List Nat)×Nat:=(dS d).foldl qG ([],d.hs.length+1)
def jF (d:ln)(h:Int):Int×Int:=
 if (dF d).2.2≠0 then(0,(dF d).2.2)
 else if ae 0 ((d.hs.length:Int)-1) [h]=true then(0,4)
 else if (mL d).1.any (λt=>t.getD h.toNat 0!=((mL d).1.headD []).getD h.toNat 0||((mL d).1.headD []).getD h.toNat 0==0)=true then(0,9)
 else((((mL d).1.headD []).getD h.toNat 0:Nat)-1,0)
open Go.Proofs
theorem J3 (n lo hi:Int):Ev ad 217 [I n,.pi [I lo],.pi [I hi]] (B (decide (n<lo)||decide (n>hi))):=by
 refine ar ak4.ok<|aJ zz ?_;by_cases h:n<lo
 refine vS [(8,true)] [] zz (by simp [h])<|ab (aD ?_);show B _=B _;simp [h]
 refine vS [(8,false)] [] zz (by simp [h])<|ab (aD ?_);show B _=B _;simp [h]
theorem lG (lo hi:Int)(l:List Int):Ev ad 111 [I lo,I hi,ints l] (B (ae lo hi l)):=by refine ar ajI.ok<|bE [.bY,.bY] zz eE<|bE [.ret (B (ae lo hi l))] zz ⟨jY l _ _ _ (λn _=>J3 n lo hi),zq⟩<|ab (aD ?_);rfl
abbrev jj (lg:Nat)(lc:List AV)(least:Int)(x:qm):List AV:=[bh x.nm,ints x.ed,.fn (.func lg) [] lc,I least]
section
variable (lg:Nat) (lc:List AV) (least:Int) (l:List qm)
theorem Qb (g:Nat)(a:List AV)(p:qm->Bool)(h: ∀x∈l,Ev ad g (.agg (jj lg lc least x)::a) (B (p x))):Ev ad 314 [.sl 4 (l.map (jj lg lc least)),.fn (.func g) [] a] (I (bM p l 0)):=by refine vH aki.ok (jj lg lc least) 4 l p _ zz (λk x hx C Q K=>?_);refine bE [.cells (jj lg lc least x),.ret (B (p x))] zz ⟨⟨af,by simp [hx]⟩,h x (bs hx),zq⟩<|ag ?_ K;exact eL
theorem Ja (g:Nat)(a:List AV)(f:Nat->Int)(h: ∀(i:Nat) (x:qm),l[i]? =some x->Ev ad g (I i::.agg (jj lg lc least x)::a) (I (f i))):
  Ev ad 113 [.sl 4 (l.map (jj lg lc least)),.fn (.func g) [] a] (.cG [I (aB f l.length 0).1,I (aB f l.length 0).2]):=by
 refine ar aiw.ok<|gn 0 zz λha=>?_
 simp at ha;refine aJ zz<|aa<|aJ zz<|ag (au (l:=[(1,.fn (.func g) [] a),(9,.sl 4 (l.map (jj lg lc least))),(10,I l.length),(11,I (0:Nat))]) ⟨zz,zz,by show I _=I _;simp,zz,zq⟩)<|vN (.fn (.func g) [] a) (.sl 4 (l.map (jj lg lc least))) l.length f af zz zz (λk hk C Q K=>?_) (λenv c d=>?_) (λb=>?_)
 obtain⟨x,hx⟩:=bq hk;refine bE [.cells (jj lg lc least x),.aT] zz ⟨⟨af,by simp [hx]⟩,zz,ef,zq⟩<|bE [.ret (I (f k))] zz ⟨h k x hx,zq⟩<|ag ?_ K;exact eL;exact gv (.inr zz) (.many aG ⟨.tmp c zz,.tmp d zz,zq⟩);refine aJ zz<|ab (fJ ?_ ?_)
 rw[b];rfl;rw[b];rfl
theorem V0 (x y:qm):Ev ad 219 [.agg (jj lg lc least y),.pi (jj lg lc least x)] (B (y.nm==x.nm)):=by refine ar alm.ok<|bE [.bY] zz aK<|aJ zz<|ab (aD ?_);show B _=B _;simp
theorem Pv (i:Nat)(x:qm)(hx:l[i]? =some x)(long:Nat->Bool)(b:Ev ad lg (I x.ed.length::lc) (B (long x.ed.length)))(f:x.nm.length<=9223372036854775807):
  Ev ad 115 [.sl 4 (l.map (jj lg lc least)),I i] (I (eJ long least l i)):=by
 have m:=(a6.1 hx).1;have a:eJ long least l i=if eI x.nm=false then 6 else if (l.take i).any (λy=>y.nm==x.nm)=true then 5 else if long x.ed.length=true then 3 else if ae least 9 x.ed=true then 7 else 0:=by unfold eJ;rw[hx]
 have e:=vM x.nm f;have c:=yc alp.ok (l.take i) (λy=>y.nm==x.nm) (Qb lg lc least (l.take i) 219 [.pi (jj lg lc least x)] (λy=>y.nm==x.nm) (λy _=>V0 lg lc least x y));have d:=lG least 9 x.ed;generalize eI x.nm=g at a e;generalize (l.take i).any (λy=>y.nm==x.nm)=b2 at a c;generalize long x.ed.length=j at a b;generalize ae least 9 x.ed=k at a d;refine ar akl.ok<|aJ zz<|bE [.cells (jj lg lc least x),.aT] zz ⟨⟨af,by simp [hx]⟩,zz,ef,zq⟩<|ag (aq (t:=5) zz)<|dw (eJ long least l i=0) (el []) [] [] ?_ ?_
 refine bE [.ret (B g)] zz ⟨e,zq⟩ ?_;cases g with
 |false=>
  rw[zy zz]at a;refine aC zz zz<|aJ zz<|ab (aD ?_)
  rw[a];rfl
 |true=>
  rw[zj aG]at a;refine dm zz zz<|bE [.yt [.sl 4 ((l.take i).map (jj lg lc least)),.fn (.func 219) [] [.pi (jj lg lc least x)]] (B b2)] zz ⟨⟨⟨zq,af⟩,aF,by simp;omega⟩,⟨c,gN (by rw[List.map_take];rfl)⟩,zq⟩ ?_
  cases b2 with
  |true=>
   rw[zy zz]at a;refine aC zz zz<|aJ zz<|ab (aD ?_)
   rw[a];rfl
  |false=>
   rw[zj aG]at a;apply dm zz zz;have hl:((x.ed.map λn=>[I n]).length:Int)=x.ed.length:=aF;refine bE [.ret (B j)] zz ⟨hl▸b,zq⟩ ?_;cases j with
   |true=>
    rw[zy zz]at a;refine aC zz zz<|aJ zz<|ab (aD ?_)
    rw[a];rfl
   |false=>
    rw[zj aG]at a;refine dm zz zz<|bE [.ret (B k)] zz ⟨d,zq⟩ ?_
    cases k with
    |true=>
     rw[zy zz]at a;refine aC zz zz<|aJ zz<|ab (aD ?_)
     rw[a];rfl
    |false=>rw[zj aG]at a;refine aj zz (λh=>by cases h) (λ_=>ak ⟨(),a,au zq⟩)
 refine λ_ h=>aJ zz<|ab (aD ?_)
 rw[h];rfl
end
abbrev qm.ao (x:qm):List AV:=[bh x.nm,ints x.ed]
abbrev mW (l:List qm):AV:=.sl 2 (l.map qm.ao)
abbrev ln.ao (d:ln):List AV:=[I d.st,I d.le,I d.we,mW d.cs,mW d.hs]
structure ln.wf (d:ln):Prop where
 st0: -9223372036854775808<=d.st
 st1:d.st<=9223372036854775807
 le0: -9223372036854775808<=d.le
 le1:d.le<=9223372036854775807
 cs: ∀x∈d.cs,x.nm.length<=9223372036854775807
 hs: ∀x∈d.hs,x.nm.length<=9223372036854775807
theorem Mk (d:ln)(n:Nat):Ev ad 112 [I n,.pi d.ao] (B (mV d n)):=by refine ar aij.ok<|aJ zz<|aJ zz<|ab (aD ?_);rfl
theorem NQ (d:ln)(n:Nat):Ev ad 116 [I n,.pi d.ao] (B (mX d n)):=by refine ar aj6.ok<|aJ zz<|bE [.bY,.ret (B (mX d n))] zz ⟨zz,lG d.le d.st [(n:Int)],zq⟩<|ab (aD ?_);rfl
theorem LC {b:Nat}{least:Int}{l:List qm}{i:Nat}{x:qm}{long:Nat->Bool}(hx:l[i]? =some x)(a:Ev ad b (I x.ed.length::q) (B (long x.ed.length)))(c:x.nm.length<=9223372036854775807):
  Ev ad 114 [I i,.agg (jj b q least x),.pi [.sl 4 (l.map (jj b q least))]] (I (eJ long least l i)):=by
 refine ar alB.ok<|bE [.bY] zz aK<|bE [.ret (I (eJ long least l i))] zz ⟨Pv b q least l i x hx long a c,zq⟩<|ab (aD ?_)
 rfl
theorem M2 {b:Nat}{least:Int}{l:List qm}{i:Nat}{x:qm}{long:Nat->Bool}(hx:l[i]? =some x)(a:Ev ad b (I x.ed.length::q) (B (long x.ed.length)))(c:x.nm.length<=9223372036854775807):
  Ev ad 117 [I i,.agg (jj b q least x),.pi [.sl 4 (l.map (jj b q least))]] (I (eJ long least l i)):=by
 refine ar alF.ok<|bE [.bY] zz aK<|bE [.ret (I (eJ long least l i))] zz ⟨Pv b q least l i x hx long a c,zq⟩<|ab (aD ?_)
 rfl
abbrev Pt (b5:Nat)(a:Nat)(lc:List AV)(least:Int)(l:List qm)(y:Option (Nat×Nat)):av:=[(b5,.cells 199 [Bw y l.length])]++ze y 202 4 (l.map (jj a lc least))
theorem Gi (d:ln)(s:d.wf):Ev ad 52 [.agg d.ao] (.cG [I (dF d).1,I (dF d).2.1,I (dF d).2.2]):=by
 have F:((d.cs.map qm.ao).length:Int)=d.cs.length:=aF;have G:((d.hs.map qm.ao).length:Int)=d.hs.length:=aF;have res: ∀{Q:dl} {env:Env} {H:av} {x y r:Int},(∀env H,qn ad [.tmp 2,.tmp 3,.tmp 4] (.cG [I (dF d).1,I (dF d).2.1,I (dF d).2.2]) .ret env H []->Q .ret env H [])->dF d=(x,y,r)->env 2=I x->env 3=I y->env 4=I r->Q .ret env H []:=by intro Q env H x y r C h z A h4;refine C _ _ ?_;rw[h];exact gv (.inr zz) (.many aG ⟨.tmp z zz,.tmp A zz,.tmp h4 zz,zq⟩)
 have a:dF d=if (ae 1 6 [d.st]||ae 1 d.st [d.le]||ae 0 9 [d.we])=true then(1,0,7)
  else if 4<d.cs.length then(2,0,3)
  else if (aB (eJ (mV d) 0 d.cs) d.cs.length 0).2≠0 then(2,(aB (eJ (mV d) 0 d.cs) d.cs.length 0).1,(aB (eJ (mV d) 0 d.cs) d.cs.length 0).2)
  else if 4<d.hs.length then(3,0,3)
  else if (aB (eJ (mX d) (-1) d.hs) d.hs.length 0).2≠0 then(3,(aB (eJ (mX d) (-1) d.hs) d.hs.length 0).1,(aB (eJ (mX d) (-1) d.hs) d.hs.length 0).2)
  else(0,0,0):=rfl
 have n:=lG 1 6 [d.st];have o:=lG 1 d.st [d.le];have q:=lG 0 9 [d.we];have f1:=Ja 112 [.pi d.ao] 0 d.cs 114 [.pi [.sl 4 (d.cs.map (jj 112 [.pi d.ao] 0))]] (eJ (mV d) 0 d.cs)
  (λi x hx=>LC hx (Mk d _) (s.cs x (bs hx)))
 have f2:=Ja 116 [.pi d.ao] (-1) d.hs 117 [.pi [.sl 4 (d.hs.map (jj 116 [.pi d.ao] (-1)))]] (eJ (mX d) (-1) d.hs)
  (λi x hx=>M2 hx (NQ d _) (s.hs x (bs hx)))
 generalize ae 1 6 [d.st]=m at n a;generalize ae 1 d.st [d.le]=b2 at o a;generalize ae 0 9 [d.we]=b3 at q a;generalize (aB (eJ (mV d) 0 d.cs) d.cs.length 0).1=J at f1 a;generalize (aB (eJ (mV d) 0 d.cs) d.cs.length 0).2=u at f1 a;generalize (aB (eJ (mX d) (-1) d.hs) d.hs.length 0).1=n1 at f2 a;generalize (aB (eJ (mX d) (-1) d.hs) d.hs.length 0).2=w at f2 a;refine ar S52.ok<|bE [.bY] zz aK<|dw ((m||b2||b3)=false/\d.cs.length<=4) (el [(1,.pi d.ao)]) [] [] ?_ ?_
 ·refine eZ True (el [(1,.pi d.ao),(10,B (m||b2||b3))]) [] [] ?_ ?_
  ·cases m with
   |true=>refine kD [(15,true),(23,true)] [.bY,.ret (B true)] zz (by(repeat' (with_reducible apply cA));(all_goals first|exact zk _|((first|rfl|exact n)))) ?_;exact⟨(),zq,eL⟩
   |false=>
    cases b2 with
    |true=>refine kD [(15,false),(23,true)] [.bY,.ret (B false),.bY,.ret (B true)] zz (by(repeat' (with_reducible apply cA));(all_goals first|exact zk _|((first|rfl|exact n|exact o)))) ?_;exact⟨(),zq,eL⟩
    |false=>refine kD [(15,false),(23,false)] [.bY,.ret (B false),.bY,.ret (B false),.bY,.ret (B b3)] zz (by(repeat' (with_reducible apply cA));(all_goals first|exact zk _|((first|rfl|exact n|exact o|exact q)))) ?_;exact⟨(),zq,eL⟩
  intro _ _;generalize (m||b2||b3)=bb at a;cases bb with
  |true=>rw[zy zz]at a;refine aC zz zz<|aJ zz ?_;exact ab (res (λ_ _ h=>h) a zz zz zz)
  |false=>
   rw[zj aG]at a;refine dm zz zz<|aJ zz ?_;by_cases h4:4<d.cs.length
   rw[zy h4]at a;refine aC zz (by rw[decide_eq_true_iff];omega)<|aJ zz ?_;exact ab (res (λ_ _ h=>h) a zz zz zz)
   exact aH zz (by rw[decide_eq_false_iff_not];omega) ⟨(),⟨zz,af⟩,eL⟩
 rintro _ ⟨D,E⟩;rw[D,zj aG,zj af]at a;refine bE [.aT] zz cI<|bW (t:=5) zz λb5=>aa (aa ?_);refine cZ zz<|aU.iN (λy=>y=none->d.cs=[]) (λ_=>el [(1,.pi d.ao),(5,.po b5 0)]) (λy=>Pt b5 112 [.pi d.ao] (0) d.cs y) (λ_=>[]) ?_ ?_;refine bJ (X:=Nat×Option (Nat×Nat)) (λx=>x.1<=d.cs.length/\(x.2=none->d.cs.take x.1=[])) (λx=>el [(1,.pi d.ao),(5,.po b5 0),(35,mW d.cs),(36,I d.cs.length),(37,I x.1)])
  (λx=>Pt b5 112 [.pi d.ao] (0) (d.cs.take x.1) x.2) (λ_=>[]) (λx=>d.cs.length-x.1) (0,none) ⟨aF,λ_=>rfl⟩ (au ⟨zz,zz,zz,by show I _=I _;simp,zz,zq⟩) ?_
 rintro⟨k,y⟩ ⟨hk,hy⟩;simp only at hk hy ⊢;refine aJ zz<|aa (aj zz (λhc=>?_) (λhc=>?_));simp at hc;obtain⟨x,hx⟩:=bq hc;have f:d.cs.take (k+1)=d.cs.take k++[x]:=(by rw[fb,hx];rfl);have c:(d.cs.take k).length=k:=(by rw[fj];omega);refine ak (aa (ay ?_));refine bE [.cells x.ao,.aT] zz ⟨⟨af,by simp [hx]⟩,zz,ef,zq⟩<|ag (aq (t:=7) zz)<|aA<|mO [.at 0] 1 zz zz cI<|aR (bO.Pg (t:=41) (H:=[(b5,.cells 199 [Bw y (d.cs.take k).length])]) zz aF (λe=>by rw[hy e];rfl)) ?_;have p:((d.cs.take k).map (jj 112 [.pi d.ao] (0))).length=k:=by rw[a7,c]
 refine mO [.bY] 8 zz zz ⟨zz,⟨by show (((d.cs.take k).map (jj 112 [.pi d.ao] (0))).length+1)*56<=_;omega,by show ((d.cs.take k).map (jj 112 [.pi d.ao] (0))).length+1<=_;omega⟩,zq⟩<|aY.TV (t:=49) (es:=(d.cs.take (k+1)).map (jj 112 [.pi d.ao] (0))) (by rw[f,fy];rfl) (λl g=>?_);refine ah (bz (i:=0) zz zz zz zz zz zz (by show 1<=1;decide) ?_);refine bF<|fE zz bL ?_;refine⟨(k+1,l),⟨by simp only;omega,λe=>by simpa using g e⟩,by simp only;omega,ai (aw ?_) eL⟩;show [(b5,dp.cells _ [Bw l ((d.cs.take (k+1)).map (jj 112 [.pi d.ao] (0))).length])]++_=_;rw[a7]
 simp only[nL]at hc;rw[ej af]at hy ⊢;exact aE ⟨y,hy,eL⟩
 ·intro y hy;refine ag (bO.OS (H:=[(b5,.cells 199 [Bw y d.cs.length])]) (j:=0) [] [] zz zz aF (λe=>by rw[hy e];rfl))<|ag (aw (H':=[(b5,.cells 199 [.sl 4 (d.cs.map (jj 112 [.pi d.ao] 0))])]) zz) ?_;clear hy y;refine aa (aa ?_);refine kn [.at 0,.H9 [.sl 4 (d.cs.map (jj 112 [.pi d.ao] 0)),.fn (.func 114) [] [.pi [.sl 4 (d.cs.map (jj 112 [.pi d.ao] 0))]]] (.cG [I J,I u])] zz ⟨zz,⟨f1,zz,.refl _,.fnq ⟨.po (i:=0) zz,zq⟩,zq⟩,zq⟩<|aa<|cZ zz ?_;by_cases b:u=0
  case neg=>rw[zy b]at a;refine aC zz bD<|aJ zz ?_;exact ab (res (λ_ _ h=>h) a zz zz zz)
  rw[zj (by simp [b])]at a;refine aH zz (by rw[b];rfl)<|aa (aa ?_);refine cZ zz ?_;by_cases h4:4<d.hs.length
  rw[zy h4]at a;refine aC zz (by rw[decide_eq_true_iff];omega)<|aJ zz ?_;exact ab (res (λ_ _ h=>h) a zz zz zz)
  rw[zj h4]at a;refine aH zz bD<|nw [.iL 0] zz ⟨⟨zz,zz,zz,zz,ap 1⟩,zq⟩<|aa (aa ?_);refine cZ zz<|ag (ai (aw (H':=[(b5,.cells 199 [.nil])]) zz) (cW (j:=0) [.v (.slice none 0 0)] zz ⟨(λS v h=>by simp only[bf]at h ⊢;exact h),zq⟩))<|aU.iN (Y:=Option (Nat×Nat)) (λy=>y=none->d.hs=[]) (λ_=>el [(1,.pi d.ao),(5,.po b5 0)]) (λy=>Pt b5 116 [.pi d.ao] (-1) d.hs y) (λ_=>[]) ?_ ?_
  refine bJ (X:=Nat×Option (Nat×Nat)) (λx=>x.1<=d.hs.length/\(x.2=none->d.hs.take x.1=[])) (λx=>el [(1,.pi d.ao),(5,.po b5 0),(66,mW d.hs),(67,I d.hs.length),(68,I x.1)])
   (λx=>Pt b5 116 [.pi d.ao] (-1) (d.hs.take x.1) x.2) (λ_=>[]) (λx=>d.hs.length-x.1) (0,none) ⟨aF,λ_=>rfl⟩ (au ⟨zz,zz,zz,by show I _=I _;simp,zz,zq⟩) ?_
  rintro⟨k,y⟩ ⟨hk,hy⟩;simp only at hk hy ⊢;refine aJ zz<|aa (aj zz (λhc=>?_) (λhc=>?_));simp only[nL]at hc;obtain⟨x,hx⟩:=bq hc;have f:d.hs.take (k+1)=d.hs.take k++[x]:=(by rw[fb,hx];rfl);have c:(d.hs.take k).length=k:=(by rw[fj];omega);refine ak (aa (ay ?_));refine bE [.cells x.ao,.aT] zz ⟨⟨af,by simp [hx]⟩,zz,ef,zq⟩<|ag (aq (t:=9) zz)<|aA<|mO [.at 0] 1 zz zz cI<|aR (bO.Pg (t:=72) (H:=[(b5,.cells 199 [Bw y (d.hs.take k).length])]) zz aF (λe=>by rw[hy e];rfl)) ?_;have p:((d.hs.take k).map (jj 116 [.pi d.ao] (-1))).length=k:=by rw[a7,c]
  refine mO [.bY] 8 zz zz ⟨zz,⟨by show (((d.hs.take k).map (jj 116 [.pi d.ao] (-1))).length+1)*56<=_;omega,by show ((d.hs.take k).map (jj 116 [.pi d.ao] (-1))).length+1<=_;omega⟩,zq⟩<|aY.TV (t:=80) (es:=(d.hs.take (k+1)).map (jj 116 [.pi d.ao] (-1))) (by rw[f,fy];rfl) (λl g=>?_);refine ah (bz (i:=0) zz zz zz zz zz zz (by show 1<=1;decide) ?_);refine bF<|fE zz bL ?_;refine⟨(k+1,l),⟨by simp only;omega,λe=>by simpa using g e⟩,by simp only;omega,ai (aw ?_) eL⟩;show [(b5,dp.cells _ [Bw l ((d.hs.take (k+1)).map (jj 116 [.pi d.ao] (-1))).length])]++_=_;rw[a7]
  simp only[nL]at hc;rw[ej af]at hy ⊢;exact aE ⟨y,hy,eL⟩
  ·intro y hy;refine ag (bO.OS (H:=[(b5,.cells 199 [Bw y d.hs.length])]) (j:=0) [] [] zz zz aF (λe=>by rw[hy e];rfl))<|ag (aw (H':=[(b5,.cells 199 [.sl 4 (d.hs.map (jj 116 [.pi d.ao] (-1)))])]) zz) ?_;clear hy y;refine aa (aa ?_);refine kn [.at 0,.H9 [.sl 4 (d.hs.map (jj 116 [.pi d.ao] (-1))),.fn (.func 117) [] [.pi [.sl 4 (d.hs.map (jj 116 [.pi d.ao] (-1)))]]] (.cG [I n1,I w])] zz ⟨zz,⟨f2,zz,.refl _,.fnq ⟨.po (i:=0) zz,zq⟩,zq⟩,zq⟩<|aa<|cZ zz ?_;by_cases b:w=0
   case neg=>rw[zy b]at a;refine aC zz (by rw[bne_iff_ne];exact b)<|aJ zz ?_;exact ab (res (λ_ _ h=>h) a zz zz zz)
   rw[zj (by simp [b])]at a;refine aH zz (by rw[b];rfl)<|aJ zz ?_;exact ab (res (λ_ _ h=>h) a zz zz zz)
theorem xV {t:be}:BO t p=true↔ ∀i,i<t.ms.length->(t.m i).eY≠ -1->aP p (t.m i).eY.toNat≠aP p i/\ ∀k,k<i->(t.m k).eY≠ -1->aP p k=aP p i->aP p (t.m i).eY.toNat=aP p (t.m k).eY.toNat:=by grind [BO,aP]
theorem Tw {ms:List fw}{a c:Nat}:(a,c)∈kids ms p↔ ∃i x,ms[i]? =some x/\x.eY≠ -1/\a=aP p x.eY.toNat/\c=aP p i:=by unfold kids;rw[List.mem_filterMap];constructor;rintro⟨i,hi,h⟩;rw[a8]at hi;obtain⟨x,hx⟩:=bq hi;rw[hx]at h;simp only at h;split at h;cases h;rename_i b;simp at h;exact⟨i,x,hx,b,h.1.symm,h.2.symm⟩;rintro⟨i,x,hx,b,rfl,rfl⟩;refine⟨i,a8.2 (a6.1 hx).1,?_⟩;rw[hx];simp only[zj b];rfl
theorem UN {b:List Sp}(c:List Sp)(h:k<b.length):cK (b++c) k=cK b k:=by unfold cK;rw[cD h]
theorem MI {b:List Sp}(c:List Sp){x:Nat}(hx:x<b.length)(hy:y<b.length):gj (b++c) x y=gj b x y++c/\kG (b++c) x y=kG b x y:=by grind [gj,kG,UN]
theorem tk (b:List Sp)(x y:Nat):(gj b x y).length=b.length:=by simp [gj]
theorem AZ (c:List Sp): ∀(ks:List (Nat×Nat)) (b:List Sp) (m:Bool),(∀k∈ks,k.1<b.length/\k.2<b.length)->aV ks (b++c,m)=((aV ks (b,m)).1++c,(aV ks (b,m)).2)
 |[],b,m,_=>rfl
 |(x,y)::ks,b,m,h=>by obtain⟨hx,hy⟩:=h (x,y) aF;simp only[aV];obtain⟨a,d⟩:=MI c hx hy;rw[a,d];exact AZ c ks _ _ (λk hk=>by rw[tk];exact h k (by simp [hk]))
theorem fF: ∀(ks:List (Nat×Nat)) (b:List Sp) (m:Bool),(aV ks (b,m)).1.length=b.length
 |[],b,m=>rfl
 |(x,y)::ks,b,m=>by simp only[aV];rw[fF ks,tk]
theorem DH (b c:List Sp):bR (b++c)=(bR b||bR c):=by simp [bR]
theorem Rw (b c:List Sp):gb (b++c)=gb b+gb c:=by simp [gb]
theorem CW (c:List Sp)(hc:bR c=false)(ks:List (Nat×Nat)): ∀(f:Nat) (b:List Sp),(∀k∈ks,k.1<b.length/\k.2<b.length)->jy ks f (b++c)=jy ks f b++c
 |0,b,_=>rfl
 |f+1,b,h=>by simp only[jy];rw[DH,hc,eP,AZ c ks b false h];by_cases he:bR b=true;rw[zy he,zy he];rw[zj he,zj he];by_cases hm:(aV ks (b,false)).2=true;rw[zy hm,zy hm];exact CW c hc ks f _ (λk hk=>by rw[fF];exact h k hk);rw[zj hm,zj hm]
theorem Lu {b:List Sp}(c:List Sp)(hc:bR c=false)(h: ∀k∈o,k.1<b.length/\k.2<b.length/\k.1≠k.2):lJ o (b++c)=lJ o b++c:=by grind [lJ,gb,CW,tS,Rw]
theorem Ci {ks:List (Nat×Nat)}: ∀(f:Nat) (b:List Sp),(∀k∈ks,k.1<b.length/\k.2<b.length)->oU (jy ks f b) b
 |0,b,_=>oU.refl b
 |f+1,b,h=>by simp only[jy];obtain⟨s1,_⟩:=iv ks b false h;split;exact oU.refl b;split;exact(Ci f _ (λk hk=>by rw[fF];exact h k hk)).trans s1;exact s1
theorem gq (t:be)(p:List Nat)(w:Nat):(jo t p w).length=w:=by simp [jo]
theorem od (t:be)(p:List Nat)(k a:Nat):gD t p (k+1) a=if aP p k=a then(max (gD t p k a).1 (t.m k).lo,min (gD t p k a).2 (t.m k).hi)else gD t p k a:=by unfold gD;rw[b0,e8];rfl
theorem Ab (t:be)(p:List Nat)(a:Nat): ∀(k i:Nat),i<k->aP p i=a->(t.m i).lo<=(gD t p k a).1/\(gD t p k a).2<=(t.m i).hi
 |0,i,h,_=>af
 |k+1,i,h,e=>by rw[od];by_cases b:i=k;subst b;rw[zy e];simp only;omega;have:=Ab t p a k i af e;split;simp only;omega;exact this
theorem A4 (t:be)(p:List Nat)(a:Nat): ∀(k:Nat),(∀i,i<k->aP p i≠a)->gD t p k a=(0,199)
 |0,_=>rfl
 |k+1,h=>by rw[od,zj (h k af)];exact A4 t p a k (λi hi=>h i af)
theorem AG {t:be}(h:t.OK)(p:List Nat)(a:Nat): ∀(k:Nat),k<=t.ms.length->0<=(gD t p k a).1/\(gD t p k a).1<=199/\0<=(gD t p k a).2/\(gD t p k a).2<=199
 |0,_=>by show (0:Int)<=0/\(0:Int)<=199/\(0:Int)<=199/\(199:Int)<=199;omega
 |k+1,hk=>by rw[od];have b:=AG h p a k af;have hm:=h.at (i:=k) af;have c:=hm.Xp;have d:=hm.lh;have e:=hm.MR;split;simp only;omega;exact b
theorem zB (t:be)(p:List Nat)(h:k<w):cK (jo t p w) k=gD t p t.ms.length k:=by unfold cK jo;rw[bI,b9 h];rfl
def spare (n:Nat):List Sp:=b7 n (0,199)
theorem A1 (n:Nat):bR (spare n)=false:=by unfold bR spare;rw[List.any_replicate];split<;>rfl
theorem RS {t:be}(hg:yI t.ms.length p)(c:eW p<=w):jo t p w=jo t p (eW p)++spare (w-eW p):=by apply e7;intro i;by_cases h:i<eW p;rw[cD (by rw[gq];exact h)];unfold jo;rw[bI,bI,b9 h,b9 af];rw[List.getElem?_append_right (by rw[gq];omega),gq];unfold jo spare;rw[bI,List.getElem?_replicate];by_cases a:i<w;rw[b9 a,zy af];show some _=some _;rw[A4 t p i _ (λj b e=>h (by rw[<-e];exact hg.lt j b))];grind
def Ai (t:be)(p:List Nat):Prop:= ∀i,i<t.ms.length->(t.m i).eY≠ -1->aP p (t.m i).eY.toNat≠aP p i
theorem zc {t:be}(h:t.OK)(hg:yI t.ms.length p)(hk:Ai t p)(m:eW p<=w): ∀k∈kids t.ms p,k.1<(jo t p w).length/\k.2<(jo t p w).length/\k.1≠k.2:=by rintro⟨a,c⟩ hm;obtain⟨i,x,hx,e,rfl,rfl⟩:=Tw.1 hm;have hi:=(a6.1 hx).1;have b:=h.R2 i x hx;have j:=b.zL;have l:=b.zl;have f:=hg.lt i hi;have g:=hg.lt x.eY.toNat af;have d:=hk i hi (by rw[be.qI hx];exact e);rw[be.qI hx]at d;rw[gq];exact⟨bD,bD,d⟩
theorem Na {t:be}(h:t.OK)(hg:yI t.ms.length p)(hk:Ai t p)(a:eW p<=w):dH t p w=dH t p (eW p)++spare (w-eW p):=by unfold dH;rw[RS hg a];exact Lu _ (A1 _) (zc h hg hk (ap _))
theorem xL {t:be}(h:t.OK)(hg:yI t.ms.length p)(hk:Ai t p)(a:eW p<=w):bR (dH t p w)=bR (dH t p (eW p)):=by rw[Na h hg hk a,DH,A1,eP]
theorem DO {t:be}(h:t.OK)(hg:yI t.ms.length p)(hk:Ai t p)(a:eW p<=w):oU (dH t p w) (jo t p w):=
 Ci _ _ (λk hm=>⟨(zc h hg hk a k hm).1,(zc h hg hk a k hm).2.1⟩)
theorem oV {b:List Sp}(h:bR b=false)(hk:k<b.length):(cK b k).1<=(cK b k).2:=by grind [cK,bR,only]
theorem rT {t:be}{a b:Nat}:vX t a b=0↔jn t.gK (2^(t.m a).sp.toNat ||| 2^(t.m b).sp.toNat)=true/\Y8 (t.m a).v (t.m b).v/\max (t.m a).lo (t.m b).lo<=min (t.m a).hi (t.m b).hi/\(t.m a).eY≠b/\(t.m b).eY≠a:=by grind [vX,Y8,jn]
theorem Fj {t:be}(hl:p.length=t.ms.length):kJ (λj i=>vX t j i !=0) p=true↔ ∀i,i<t.ms.length-> ∀j,j<i->aP p j=aP p i->vX t j i=0:=by grind [kJ,aP]
theorem kf {a i:Nat}:i∈xE p a↔i<p.length/\aP p i=a:=by unfold xE;rw[cx,a8,beq_iff_eq]
theorem De {t:be}(h:t.OK)(hl:p.length=t.ms.length){c:Nat}(hi: ∃i,i<t.ms.length/\aP p i=c):
  xm t (xE p c)=true↔Dj t p c/\ ∀i,i<t.ms.length->aP p i=c-> ∀j,j<t.ms.length->aP p j=c->Y8 (t.m i).v (t.m j).v:=by
 obtain⟨r,uT,n⟩:=hi;have d:r∈xE p c:=kf.2 ⟨af,n⟩;unfold xm;rw[de,KZ af (λi hi=>(h.at (by rw[<-hl];exact(kf.1 hi).1)).v0),ek,decide_eq_true_iff,La h.gK h.wf (by
  intro e
  rw[List.map_eq_nil_iff]at e
  rw[e]at d;cases d)]
 have u:(∃g,∀j∈(xE p c).map (λi=>(t.m i).sp),g∈me t.gK j.toNat)↔Dj t p c:=by refine exists_congr λg=>⟨λhg i hi he=>hg _ (cy.2 ⟨i,kf.2 ⟨af,he⟩,zz⟩),λhg j k=>?_⟩;obtain⟨i,hi,rfl⟩:=cy.1 k;obtain⟨q,f⟩:=kf.1 hi;exact hg i af f
 rw[u];have l:(xE p c).length<2->Dj t p c:=by
  intro f;obtain⟨g,hg⟩:=List.exists_mem_of_ne_nil _ (TI h.gK (GM h uT));refine⟨g,λi hi he=>?_⟩;have o:i∈xE p c:=kf.2 ⟨af,he⟩;have:i=r:=by
   match y:xE p c,f,d,o with
   |[x],_,a,b=>simp at a b;rw[a,b]
  rw[this];exact hg
 constructor;rintro⟨⟨_,f⟩,s⟩;exact⟨s.elim l id,λi hi he j k w=>f i (kf.2 ⟨af,he⟩) j (kf.2 ⟨af,w⟩)⟩;rintro⟨q,f⟩;exact⟨⟨λi _=>.inl zz,λi hi j k=>f i (by rw[<-hl];exact(kf.1 hi).1) (kf.1 hi).2 j (by rw[<-hl];exact(kf.1 k).1) (kf.1 k).2⟩,.inr q⟩
theorem Mz {t:be}(h:t.OK)(hg:yI t.ms.length p):rz t p=true↔ ∀a,a<eW p->Dj t p a:=by
 unfold rz;rw[b8];have c:=hg.le;have e:=h.zf;constructor;intro hh a d;have:=hh a (a8.2 af);rw[ek,beq_iff_eq]at this;have b:=hg.on a d;rcases this with this|this
 exact absurd b (FR.1 this);exact(FK h b).1 this
 intro hh a _;rw[ek,beq_iff_eq];by_cases b: ∃i,i<t.ms.length/\aP p i=a;right;obtain⟨i,hi,he⟩:=b;exact(FK h ⟨i,hi,he⟩).2 (hh a (by rw[<-he];exact hg.lt i hi));exact .inl (FR.2 b)
theorem abI {t:be}(h:t.OK)(but:Nat->Bool)(A:p∈fg t.ms.length):
  ((kJ (λj i=>vX t j i !=0) p&&jI t p)&&(rz t p&&yd t but p))=BP t but p:=by have hg:=jc A;have D:=h.zf;have y:=hg.le;rw[bt];unfold jI BP;simp only[de];rw[Fj hg.len,Mz h hg,b8];constructor;rintro⟨⟨n,o,l⟩,h4,x⟩;have b:Ai t p:=λi hi f=>(xV.1 l i hi f).1;refine⟨⟨λa d=>?_,x⟩,l,?_⟩;rw[a8]at d;refine(De h hg.len (hg.on a d)).2 ⟨h4 a d,λi hi he j w v=>?_⟩;by_cases r:i=j;subst r;exact .inr (.inr zz);by_cases s:j<i;have:=(rT.1 (n i hi j s (by rw[he,v]))).2.1;unfold Y8 at*;omega;have:=(rT.1 (n j w i af (by rw[he,v]))).2.1;unfold Y8 at*;omega;rw[xL h hg b af]at o;exact o;rintro⟨⟨n,o⟩,l,h4⟩;have b:Ai t p:=λi hi f=>(xV.1 l i hi f).1;have u:=λa d=>(De h hg.len (hg.on a d)).1 (n a (a8.2 d));refine⟨⟨λi hi j w he=>?_,by rw[xL h hg b af];exact h4,l⟩,λa d=>(u a d).1,o⟩;have k:=hg.lt i hi;obtain⟨⟨g,hs⟩,B⟩:=u (aP p i) k;refine rT.2 ⟨(NK h af hi).2 ⟨g,hs j af he,hs i hi zz⟩,B j af he i hi zz,?_,?_,?_⟩;have c:=DO h hg b (ap (eW p));have q:bR (dH t p (eW p))=false:=(by simpa using h4);have z:=oV q (by rw[c.1,gq];exact k);have m:=c.2 (aP p i);rw[zB t p k]at m;have C:=Ab t p (aP p i) t.ms.length i hi zz;have b2:=Ab t p (aP p i) t.ms.length j af he;obtain⟨s1,E⟩:=m;omega;intro e;have:=b j af af;rw[e,cR]at this;exact this he.symm;intro e;have:=b i hi af;rw[e,cR]at this;exact this he
theorem nR {t:be}(h:t.OK)(but:Nat->Bool):kM t but=db t but:=by unfold kM db eG;rw[xr _ _ _ _ zz,<-zo,List.filter_filter];refine List.filter_congr λp a=>?_;rw[<-abI h but a,Bool.and_comm]
open Go.MapKept
theorem hKI:iQ ad 3 (IsKey (.int .i64)):=iQ.plain aX
theorem hKP:iQ ad 232 (bS ad 5 232):=iQ.wide (m:=5) aG aX aX aX
abbrev cN (p:List Nat):List AV:=[I (aP p 0:Nat),I (aP p 1:Nat),I (aP p 2:Nat),I (aP p 3:Nat),I (aP p 4:Nat),I (aP p 5:Nat)]
abbrev uH (p:List Nat):Value:=.agg #[.int .i64 (aP p 0:Nat),.int .i64 (aP p 1:Nat),.int .i64 (aP p 2:Nat),.int .i64 (aP p 3:Nat),.int .i64 (aP p 4:Nat),.int .i64 (aP p 5:Nat)]
abbrev gF (b:List Sp):List AV:=[I (cK b 0).1,I (cK b 0).2,I (cK b 1).1,I (cK b 1).2,I (cK b 2).1,I (cK b 2).2,I (cK b 3).1,I (cK b 3).2,I (cK b 4).1,I (cK b 4).2,I (cK b 5).1,I (cK b 5).2]
def GC (b:dy)(k:Value)(v:AV):Prop:= ∃s:Nat,k= .int .i64 (s:Nat)/\v=I (if jn b s=true then 1 else 2)
structure Gd (n:Nat)(p:List Nat):Prop where
 len:p.length=n
 n6:n<=6
 lt: ∀i,aP p i<7
def GK (t:be)(k:Value)(v:AV):Prop:= ∃p:List Nat,Gd t.ms.length p/\k=uH p/\bR (dH t p 6)=false/\v= .agg (gF (dH t p 6))
structure MS (t:be) where
 c:List (Value×AV)
 k:List (Value×AV)
 hc:zY (GC t.gK) c
 hk:zY (GK t) k
def MS.new (t:be):MS t:=⟨[],[],zY.nil _,zY.nil _⟩
abbrev MS.heap {t:be}(m:MS t)(g1 g2:Nat):av:=[(g1,.map m.c),(g2,.map m.k)]
abbrev tp (t:be)(but:Int)(g1 g2:Nat):AV:=.pi (t.ao++[I but,.mo g1,.mo g2])
theorem GC.key {b:dy}{k:Value}(h:GC b k v):IsKey (.int .i64) k:=by obtain⟨s,rfl,_⟩:=h;rfl
theorem rP {n:Nat}(h:n<7):(ht .i64 (n:Nat)).wf=true:=oE af af
theorem O2 {n:Nat}(h:Gd n p):bS ad 5 232 (uH p):=by have a:ad.cellsOf 232=6:=aX;have b:ad.cellsOf 3=1:=aX;refine⟨?_,[.int .i64 (aP p 0:Nat),.int .i64 (aP p 1:Nat),.int .i64 (aP p 2:Nat),.int .i64 (aP p 3:Nat),.int .i64 (aP p 4:Nat),.int .i64 (aP p 5:Nat)],?_⟩;simp [fe,eU,a];simp [fk,en,eU,ds,a,b,rP (h.lt 0),rP (h.lt 1),rP (h.lt 2),rP (h.lt 3),rP (h.lt 4),rP (h.lt 5),b0]
theorem DP {n:Nat}{q:List Nat}(h:n<=6)(i:p.length=n)(j:q.length=n)(e:uH p=uH q):p=q:=by
 simp only[uH,hB,hC,fu,fD,true_and,fr,and_true]at e;obtain⟨a,b,c,d,f,g⟩:=e;apply e7;intro k;by_cases hk:k<n;rw[km af,km af];match k with
 |0=>rw[a]
 |1=>rw[b]
 |2=>rw[c]
 |3=>rw[d]
 |4=>rw[f]
 |5=>rw[g]
 |k+6=>omega
 grind
theorem GK.key {t:be}{k:Value}(h:GK t k v):bS ad 5 232 k:=by obtain⟨p,a,rfl,_⟩:=h;exact O2 a
theorem IR {t:be}(h:t.OK)(but:Int)(g1 g2:Nat)(s:Nat)(hs:s<32)(m:MS t):
  iM ad 327 [tp t but g1 g2,I (s:Nat)] (m.heap g1 g2) (λr Ho=>r=B (jn t.gK s)/\ ∃u:MS t,Ho=u.heap g1 g2):=by
 obtain⟨o,q⟩:=GU m.c (.int .i64 (s:Nat));have D:((t.gK.ss.map cL.ao).length:Int)=t.gK.ss.length:=aF;have J:=h.gK.Xq;have g:IsKey (.int .i64) (.int .i64 (s:Nat)):=rfl;have f:=MO t.gK h.wf af (dx (s:Nat) t.gK.ss.length);have w:Ev ad 354 [I (s:Nat),I (((t.gK.ss.map cL.ao).length:Nat):Int)] (ints (dx (s:Nat) t.gK.ss.length)):=by rw[D];exact eB (Bt (s:Nat) t.gK.ss.length af af af)
 have d:jn t.gK s=decide ((im t.gK (dx (s:Nat) t.gK.ss.length)).2=0):=rfl;generalize (im t.gK (dx (s:Nat) t.gK.ss.length)).1=c1 at f;generalize (im t.gK (dx (s:Nat) t.gK.ss.length)).2=H at f d;refine bH ajO.ok<|aJ zz<|aU.G2 (Y:=MS t×Nat) (λy=>CC y.1.c (.int .i64 (s:Nat)) (some (y.2,I (if jn t.gK s=true then 1 else 2)))) (λ_=>el [(0,tp t but g1 g2),(1,I (s:Nat))]) (λy=>y.1.heap g1 g2) (λ_=>[]) ?_ ?_
 refine aa (aA ?_);refine lY 5 zz zz<|ah (aO.oS (n:=0) hKI Lb zz zz zz g (λe he=>(m.hc.ok e he).key) q ?_)
 rcases Db q m.hc with rfl|⟨j,p,rfl,s',x,rfl⟩;refine gk zz<|aC zz zz<|aa (aA ?_)
 refine lY 5 zz zz<|ah (aO.jH (n:=0) hKI zz zz zz g (λe he=>(m.hc.ok e he).key) q zz zz ?_)
 apply bF;have w1:zY (λa b=>a= .int .i64 (s:Nat)\/GC t.gK a b) (mA m.c (.int .i64 (s:Nat)) (I 2) none):=zY.put q ((m.hc.M8 (.int .i64 (s:Nat))).M8 _) (.inl zz);have a1:=N3 (v:=I 2) q;generalize z:mA m.c (.int .i64 (s:Nat)) (I 2) none=es at w1 a1;refine ag (ai (aw (H':=[(g1,.map es),(g2,.map m.k)]) (by rw[<-z];rfl)) (au (l:=[(0,tp t but g1 g2),(1,I (s:Nat))]) jA))<|xe [] [.ret (ints (dx (s:Nat) t.gK.ss.length)),.ret (.cG [ints c1,I H])] zz ⟨w,f,zq⟩<|aJ zz ?_
 by_cases hc:H=0;refine aj (b:=true) (by show B _=B _;exact congrArg B (by rw[hc];rfl)) (λ_=>?_) (λh=>by cases h);rw[decide_eq_true hc]at d;refine aA<|lY 5 zz zz ?_
 have C: ∀e∈es,IsKey (.int .i64) e.1:=λe he=>(w1.ok e he).elim (λe=>by rw[e];rfl) GC.key;refine ah (aO.jH (n:=0) hKI zz zz zz g C a1 zz zz ?_);refine bF ?_;have F:zY (GC t.gK) (mA es (.int .i64 (s:Nat)) (I 1) (some (vT m.c none,I 2))):=zY.put a1 w1 ⟨s,zz,by rw[d];rfl⟩;refine⟨(⟨_,m.k,F,m.hk⟩,vT es (some (vT m.c none,I 2))),?_,ai (aw zz) eL⟩;rw[d];exact N3 (v:=I 1) a1
 refine aj (b:=false) (by show B _=B _;exact congrArg B (by rw[beq_eq_false_iff_ne];exact hc)) (λh=>by cases h) (λ_=>ak ?_);rw[decide_eq_false hc]at d;have F:zY (GC t.gK) es:=⟨w1.nd,λe he=>by
  rcases w1.ok e he with hk|hg
  ·obtain⟨K,L⟩:=e
   simp only at hk
   subst hk
   refine⟨s,zz,?_⟩
   cases a1 with
   |some A=>
    obtain⟨i,hi⟩:=cd he
    have G:(es.map (·.1))[i]? =some (.int .i64 (s:Nat)):=by rw[bI,hi];rfl
    have b2:(es.map (·.1))[vT m.c none]? =some (.int .i64 (s:Nat)):=by rw[bI,A];rfl
    have:=(List.getElem?_inj (a6.1 G).1 w1.nd).1 (G.trans b2.symm)
    rw[this]at hi
    rw[hi]at A
    rw[d]
    cases A;rfl
  ·exact hg⟩
 refine⟨(⟨es,m.k,F,m.hk⟩,vT m.c none),?_,ai (aw zz) eL⟩;show CC es _ _;rw[d];exact a1
 have e:s'=s:=(by simp only[fD,true_and,fr]at x;exact x.symm);subst e;refine gk zz<|aj (b:=false) ?_ (λh=>by cases h) (λ_=>ak ?_)
 show B _=B _;refine congrArg B ?_;split<;>rfl;exact⟨(m,j),q,ai (aw zz) eL⟩
 rintro⟨u,j⟩ E;refine aa (aA ?_);refine lY 5 zz zz<|ah (aO.oS (n:=0) hKI Lb zz zz zz g (λe he=>(u.hc.ok e he).key) E ?_);refine gk zz<|ab ⟨.inr zz,u.heap g1 g2,B (jn t.gK s),u.heap g1 g2,zz,.one (.tmp ?_ zz),⟨zz,u,zz⟩,an _⟩;show B _=B _;refine congrArg B ?_;cases jn t.gK s<;>rfl
def jG (t:be)(a b:Nat):Nat->Bool
 |0=> !jn t.gK (2^(t.m a).sp.toNat ||| 2^(t.m b).sp.toNat)
 |1=>decide ((t.m a).v≠(t.m b).v/\(t.m a).v≠ -1/\(t.m b).v≠ -1)
 |2=>decide (max (t.m a).lo (t.m b).lo>min (t.m a).hi (t.m b).hi)
 |3=>decide ((t.m a).eY=b\/(t.m b).eY=a)
 |_=>false
theorem rJ (t:be)(a b:Nat):vX t a b=if jG t a b 0=true then 1 else if jG t a b 1=true then 2 else if jG t a b 2=true then 3 else if jG t a b 3=true then 4 else 0:=by unfold vX jG;simp
abbrev LR (t:be)(g1 g2:Nat)(res:AV)(r:AV)(Ho:av):Prop:=r=res/\ ∃a:MS t,Ho=a.heap g1 g2
section
variable {t:be} (h:t.OK) (but:Int) (g1 g2:Nat) {a b:Nat} (ha:a<t.ms.length) (hb:b<t.ms.length)
include h ha hb
theorem Qv (m:MS t):iM ad 409 [tp t but g1 g2,I (a:Nat),I (b:Nat)] (m.heap g1 g2) (LR t g1 g2 (B (jG t a b 0))):=by
 obtain⟨x,hx⟩:=bq ha;obtain⟨y,hy⟩:=bq hb;have d:=h.R2 a x hx;have oy:=h.R2 b y hy;have u:=h.gK.Xq;have v:(1:Int)*2^x.sp.toNat<32:=by have:=d.Pf;have:=d.Oc;have j:(2:Nat)^x.sp.toNat<2^5:=cr af af;have l:(2:Int)^x.sp.toNat=((2^x.sp.toNat:Nat):Int):=aF;omega
 have w:(1:Int)*2^y.sp.toNat<32:=by have:=oy.Pf;have:=oy.Oc;have j:(2:Nat)^y.sp.toNat<2^5:=cr af af;have l:(2:Int)^y.sp.toNat=((2^y.sp.toNat:Nat):Int):=aF;omega
 have f:0<=(1:Int)*2^x.sp.toNat:=bD;have g:0<=(1:Int)*2^y.sp.toNat:=bD;have hs:2^x.sp.toNat ||| 2^y.sp.toNat<32:=by have s:=one_pow x.sp.toNat;have j:=one_pow y.sp.toNat;exact Nat.or_lt_two_pow (n:=5) af af
 have c:=IR h but g1 g2 _ hs m;have k:jG t a b 0= !jn t.gK (2^x.sp.toNat ||| 2^y.sp.toNat):=by simp only[jG,be.qI hx,be.qI hy]
 rw[<-one_pow x.sp.toNat,<-one_pow y.sp.toNat]at c;rw[<-one_pow x.sp.toNat,<-one_pow y.sp.toNat]at k;have o:=d.Pf;have p:=d.Oc;have q:=oy.Pf;have r:=oy.Oc;refine bH alI.ok<|aJ zz<|aa (zg [] [.cells x.ao,.cells y.ao] zz ⟨⟨af,by simp [hx]⟩,⟨af,af,af,af⟩,⟨af,by simp [hy]⟩,⟨af,af,af,af⟩,⟨⟨f,af⟩,g,af⟩,zq⟩ ?_);refine ah (cC (H0:=[]) c zz zz (aW _) aF ?_);rintro res i ⟨rfl,e,rfl⟩;refine gk zz<|ab ⟨.inr zz,e.heap g1 g2,B (jG t a b 0),e.heap g1 g2,by rw[bm];rfl,.one (.tmp ?_ zz),⟨zz,e,zz⟩,an _⟩;show B _=B _;rw[k]
end
section
variable {t:be} (but:Int) (g1 g2:Nat) {a b:Nat} (ha:a<t.ms.length) (hb:b<t.ms.length)
include ha hb
theorem QR:Ev ad 410 [tp t but g1 g2,I (a:Nat),I (b:Nat)] (B (jG t a b 1)):=by
 obtain⟨x,hx⟩:=bq ha;obtain⟨y,hy⟩:=bq hb;have e:jG t a b 1=decide (x.v≠y.v/\x.v≠ -1/\y.v≠ -1):=by simp only[jG,be.qI hx,be.qI hy]
 refine ar ahg.ok<|aJ zz<|xe [] [.cells x.ao,.cells y.ao] zz ⟨⟨af,by simp [hx]⟩,⟨af,by simp [hy]⟩,zq⟩ ?_;rw[e];by_cases c:x.v=y.v
 refine vS [(30,false),(34,false)] [] zz (by simp [c])<|ab (aD ?_);show B _=B _;simp [c]
 by_cases d:x.v= -1;refine vS [(30,true),(34,false)] [] zz (by simp [d];omega)<|ab (aD ?_);show B _=B _;simp [d]
 refine vS [(30,true),(34,true)] [] zz (by simp [c,d])<|ab (aD ?_);apply congrArg B;rw[bt];simp [c,d]
theorem PZ:Ev ad 411 [tp t but g1 g2,I (a:Nat),I (b:Nat)] (B (jG t a b 2)):=by
 obtain⟨x,hx⟩:=bq ha;obtain⟨y,hy⟩:=bq hb;have c:jG t a b 2=decide (max x.lo y.lo>min x.hi y.hi):=by simp only[jG,be.qI hx,be.qI hy]
 refine ar akt.ok<|aJ zz<|xe [] [.cells x.ao,.cells y.ao,.aT,.aT] zz (by(and_intros);(all_goals first|exact zk _|((first|rfl|(simp [hx];done)|(simp [hy];done)|decide))))<|ag (ai (aq (t:=7) zz) (aq (t:=8) zz))<|aJ zz ?_;rw[c];refine ab (aD ?_);rfl
theorem RJ:Ev ad 412 [tp t but g1 g2,I (a:Nat),I (b:Nat)] (B (jG t a b 3)):=by
 obtain⟨x,hx⟩:=bq ha;obtain⟨y,hy⟩:=bq hb;have d:jG t a b 3=decide (x.eY=b\/y.eY=a):=by simp only[jG,be.qI hx,be.qI hy]
 refine ar ai2.ok<|aJ zz ?_;rw[d];by_cases c:x.eY=b
 refine vS [(18,true)] [.cells x.ao] zz (by simp [c,hx])<|ab (aD ?_);show B _=B _;simp [c]
 refine vS [(18,false)] [.cells x.ao,.cells y.ao] zz bD<|ab (aD ?_);apply congrArg B;rw[bt];simp [c]
end
abbrev Mg:List (List AV):=[[I 1,.fn (.func 409) [] []],[I 2,.fn (.func 410) [] []],[I 3,.fn (.func 411) [] []],[I 4,.fn (.func 412) [] []]]
theorem UZ:Ev ad 380 [] (.sl 2 Mg):=by refine ar aja.ok<|aJ zz<|bE [.bY] zz cI<|ab (aD ?_);rfl
theorem Mr {P:Program}{t:be}{g1 g2:Nat}{u:Nat}{env:Env}{p res:AV}{m:MS t}(h:env u=p)(a:p.bT=false)(e:p=res):yH P [.tmp u] (LR t g1 g2 res) .ret env (m.heap g1 g2) []:=
 ⟨.inr zz,m.heap g1 g2,p,m.heap g1 g2,zz,.one (.tmp h a),⟨e,m,zz⟩,an _⟩
theorem abG {t:be}(h:t.OK)(but:Int)(g1 g2:Nat){a b:Nat}(ha:a<t.ms.length)(c:b<t.ms.length)(m:MS t):
  iM ad 326 [tp t but g1 g2,I (a:Nat),I (b:Nat)] (m.heap g1 g2) (LR t g1 g2 (I (vX t a b))):=by
 have r: ∀m:MS t,iM ad 409 [tp t but g1 g2,I (a:Nat),I (b:Nat)] (m.heap g1 g2) (LR t g1 g2 (B (jG t a b 0))):=λm=>Qv h but g1 g2 ha c m;have g: ∀{f:Nat} {v:AV} (m:MS t),Ev ad f [tp t but g1 g2,I (a:Nat),I (b:Nat)] v->iM ad f [tp t but g1 g2,I (a:Nat),I (b:Nat)] (m.heap g1 g2) (LR t g1 g2 v):=
  λm e=>(e.toR (m.heap g1 g2)).mono λ_ _ ⟨p,q⟩=>⟨p,m,q⟩
 refine bH al0.ok<|aJ zz<|aa (aa ?_)
 refine kn [.ret (.sl 2 Mg)] zz ⟨UZ,zq⟩<|aU.iN (λ_:MS t=> ∀j,j<4->jG t a b j=false) (λ_=>el []) (λm=>m.heap g1 g2) (λ_=>[]) ?_ ?_
 ·refine bJ (λx=>x.1<=4/\ ∀j,j<x.1->jG t a b j=false) (λx=>el [(0,tp t but g1 g2),(1,I (a:Nat)),(2,I (b:Nat)),(9,.sl 2 Mg),(10,I 4),(11,I x.1)]) (λx=>x.2.heap g1 g2) (λ_=>[]) (λx=>4-x.1) (0,m) ⟨aF,bD⟩
   eL ?_
  rintro⟨k,m⟩ ⟨hk,i⟩;simp only at hk i ⊢;refine aJ zz<|aa (aj zz (λhc=>?_) (λhc=>?_))
  ·simp at hc;refine ak (aa (ay ?_));have o:k=0\/k=1\/k=2\/k=3:=af;rcases o with rfl|rfl|rfl|rfl
   ·refine bE [.cells [I 1,.fn (.func 409) [] []],.aT] zz ⟨⟨af,zz⟩,zz,⟨zz,zz,zz,aG⟩,zq⟩<|ag (aq (t:=8) zz)<|aa (aA ?_)
    refine lY 5 zz zz<|ah (cq (H0:=[]) zz (r m) zz zz (aW _) aF ?_)
    rintro res l ⟨rfl,d,rfl⟩;refine bF<|aj zz (λc=>?_) (λc=>?_)
    ·refine ag (aw aF)<|aJ zz<|ab (Mr (g2:=g2) (m:=d) zz zz ?_)
     show I _=I _;rw[rJ];first|(simp [c];done)|(simp [i,c];done)
    refine ak<|fE zz bL ?_
    refine⟨(0+1,d),⟨by simp only;omega,λj n=>?_⟩,by simp only;omega,ai (aw (H':=d.heap g1 g2) aF) eL⟩;simp only at n;by_cases e:j=0;rw[e];exact c;exact i j af
   ·refine bE [.cells [I 2,.fn (.func 410) [] []],.aT] zz ⟨⟨af,zz⟩,zz,⟨zz,zz,zz,aG⟩,zq⟩<|ag (aq (t:=8) zz)<|aa (aA ?_)
    refine lY 5 zz zz<|ah (cq (Hin:=m.heap g1 g2) (H0:=[]) zz (by exact g m (QR but g1 g2 ha c)) zz zz (aW _) aF ?_)
    rintro res l ⟨rfl,d,rfl⟩;refine bF<|aj (b:=jG t a b 1) zz (λc=>?_) (λc=>?_)
    ·refine ag (aw (H':=d.heap g1 g2) aF)<|aJ zz<|ab (Mr (t:=t) (g1:=g1) (g2:=g2) (m:=d) zz zz ?_)
     show I _=I _;rw[rJ];first|(simp [c];done)|(simp [i,c];done)
    refine ak<|fE zz bL ?_
    refine⟨(1+1,d),⟨by simp only;omega,λj n=>?_⟩,by simp only;omega,ai (aw (H':=d.heap g1 g2) aF) eL⟩;simp only at n;by_cases e:j=1;rw[e];exact c;exact i j af
   ·refine bE [.cells [I 3,.fn (.func 411) [] []],.aT] zz ⟨⟨af,zz⟩,zz,⟨zz,zz,zz,aG⟩,zq⟩<|ag (aq (t:=8) zz)<|aa (aA ?_)
    refine lY 5 zz zz<|ah (cq (Hin:=m.heap g1 g2) (H0:=[]) zz (by exact g m (PZ but g1 g2 ha c)) zz zz (aW _) aF ?_)
    rintro res l ⟨rfl,d,rfl⟩;refine bF<|aj (b:=jG t a b 2) zz (λc=>?_) (λc=>?_)
    ·refine ag (aw (H':=d.heap g1 g2) aF)<|aJ zz<|ab (Mr (t:=t) (g1:=g1) (g2:=g2) (m:=d) zz zz ?_)
     show I _=I _;rw[rJ];first|(simp [c];done)|(simp [i,c];done)
    refine ak<|fE zz bL ?_
    refine⟨(2+1,d),⟨by simp only;omega,λj n=>?_⟩,by simp only;omega,ai (aw (H':=d.heap g1 g2) aF) eL⟩;simp only at n;by_cases e:j=2;rw[e];exact c;exact i j af
   ·refine bE [.cells [I 4,.fn (.func 412) [] []],.aT] zz ⟨⟨af,zz⟩,zz,⟨zz,zz,zz,aG⟩,zq⟩<|ag (aq (t:=8) zz)<|aa (aA ?_)
    refine lY 5 zz zz<|ah (cq (Hin:=m.heap g1 g2) (H0:=[]) zz (by exact g m (RJ but g1 g2 ha c)) zz zz (aW _) aF ?_)
    rintro res l ⟨rfl,d,rfl⟩;refine bF<|aj (b:=jG t a b 3) zz (λc=>?_) (λc=>?_)
    ·refine ag (aw (H':=d.heap g1 g2) aF)<|aJ zz<|ab (Mr (t:=t) (g1:=g1) (g2:=g2) (m:=d) zz zz ?_)
     show I _=I _;rw[rJ];first|(simp [c];done)|(simp [i,c];done)
    refine ak<|fE zz bL ?_
    refine⟨(3+1,d),⟨by simp only;omega,λj n=>?_⟩,by simp only;omega,ai (aw (H':=d.heap g1 g2) aF) eL⟩;simp only at n;by_cases e:j=3;rw[e];exact c;exact i j af
  simp only[decide_eq_false_iff_not]at hc;have:k=4:=af;subst this;exact aE ⟨m,i,au zq⟩
 intro d i;refine aJ zz<|ab (Mr (t:=t) (g1:=g1) (g2:=g2) (m:=d) zz zz ?_)
 show I _=I _;rw[rJ];simp [i]
theorem WH (p:List Nat)(h:k<6):[I (aP p k:Nat)]<+:(cN p).drop (k*1):=by
 match k,h with
 |0,_=>exact⟨_,zz⟩
 |1,_=>exact⟨_,zz⟩
 |2,_=>exact⟨_,zz⟩
 |3,_=>exact⟨_,zz⟩
 |4,_=>exact⟨_,zz⟩
 |5,_=>exact⟨_,zz⟩
def jm (but:Int)(i:Nat):Bool:=da but i
theorem GH {but:Int}{i:Nat}:(((((but/2^((i:Nat):Int).toNat).toNat &&& (1:Int).toNat:Nat):Int))==0)= !jm but i:=by grind [jm,da,only]
def oC (t:be)(but:Nat->Bool)(p:List Nat)(i:Nat):Bool:=but i||(match t.dN[i]? with|some x=>Hy p x|none=>true)
theorem zr (t:be)(but:Nat->Bool)(p:List Nat):yd t but p=(az t.dN.length).all (oC t but p):=rfl
theorem xu {t:be}{but:Nat->Bool}{i:Nat}(h:t.dN[i]? =some x):oC t but p i=(but i||Hy p x):=by unfold oC;rw[h]
theorem wfI (a:0<=n)(b:n<64):(ht .i64 n).wf=true:=oE a b
abbrev Ur (x:sr):Value:=.agg #[.int .i64 x.a,.int .i64 x.b,.bool x.same]
theorem Hx (a0:0<=x.a)(a1:x.a<64)(d:0<=x.b)(e:x.b<64):bS ad 5 135 (Ur x):=by have c:ad.cellsOf 135=3:=aX;have f:ad.cellsOf 3=1:=aX;have g:ad.cellsOf 4=1:=aX;have h:(Lit.bool x.same).wf=true:=rfl;refine⟨?_,[.int .i64 x.a,.int .i64 x.b,.bool x.same],?_⟩;simp [fe,eT,c];simp [fk,en,eT,ds,Tryz.underlying4,c,f,g,wfI a0 a1,wfI d e]
theorem Z2 {y:sr}:Ur x=Ur y↔x=y:=by constructor;intro h;simp at h;obtain⟨a,b,c⟩:=h;cases x;cases y;simp only at a b c;subst a b c;rfl;grind
theorem Ke {d:Nat}{a b:Operand}{env:Env}{y:sr}(ha:bG env a= .agg x.ao)(c:bG env b= .agg y.ao)(e:bS ad 5 135 (Ur x))(f:bS ad 5 135 (Ur y)):
  ∀(r:Option Nat) (N:Nat) (D:List Nat),Q1 ad r N (.pK false 135 a b) (some d) env H D [(d,B (decide (x=y)))]:=by exact λr N D=>aO.pK (m:=5) aG aX aX aX aX (by rw[ha];rfl) (by rw[c];rfl) e f (decide (x=y)) (by rw[decide_eq_true_iff];exact Z2.symm) dO
set_option maxHeartbeats 2000000 in
theorem Zo {t:be}(h:t.OK)(but:Int)(z:0<=but)(T:but<9223372036854775808)(g1 g2:Nat)(p:List Nat):Ev ad 234 [tp t but g1 g2,.agg (cN p)] (B (yd t (jm but) p)):=by
 have s:((t.dN.map sr.ao).length:Int)=t.dN.length:=aF;have P:=h.FJ;have M:=h.zf;have r: ∀i:Nat,0<=but/2^((i:Nat):Int).toNat/\but/2^((i:Nat):Int).toNat<=but:=λi=>⟨Int.ediv_nonneg z (Int.le_of_lt (gQ af)),Int.ediv_le_self _ z⟩;have U:ad.underlying 4=some .bool:=aX;refine ar ahz.ok<|bE [.bY] zz aK<|aa (aa ?_);refine cZ zz<|cj (yd t (jm but) p=true) (el []) [] [] ?_ ?_
 ·refine gf (λk:Nat=>k<=t.dN.length/\ ∀j,j<k->oC t (jm but) p j=true) (λk=>el [(0,tp t but g1 g2),(3,.pi (cN p)),(11,qR t.dN),(12,I t.dN.length),(13,I k)]) (λk=>t.dN.length-k) 0 ⟨af,bD⟩
   (au ⟨zz,zz,zz,by show I _=I _;rw[s],zz,zq⟩) ?_
  rintro k ⟨hk,u⟩;refine aJ zz<|aa (aj zz (λhc=>?_) (λhc=>?_))
  ·simp at hc;obtain⟨x,hx⟩:=bq hc;obtain⟨a0,a1,F,R,H⟩:=h.tie x (bs hx);have d:=xu (but:=jm but) (p:=p) hx;refine ak (aa (ay ?_));refine bE [.cells x.ao,.aT] zz ⟨⟨af,by simp [hx]⟩,zz,ef,zq⟩<|ag (aq (t:=6) zz) ?_
   have next:oC t (jm but) p k=true-> ∀j,j<k+1->oC t (jm but) p j=true:=by intro he j A;by_cases e:j=k;rw[e];exact he;exact u j af
   refine aa (aU.G2 (λo:Bool=>o=true->oC t (jm but) p k=true) (λo=>el [(0,tp t but g1 g2),(3,.pi (cN p)),(5,I (k:Nat)),(6,.pi x.ao),(11,qR t.dN),(12,I t.dN.length),(13,I k),(43,B o)]) (λ_=>[]) (λ_=>[]) ?_ ?_)
   ·cases k with
    |zero=>refine tI [(20,false),(33,false)] [] zz (by(and_intros);(all_goals first|exact zk _|((rfl)))) ?_;exact⟨false,(λh=>by cases h),eL⟩
    |succ j=>
     obtain⟨y,hy⟩:=bq (l:=t.dN) (k:=j) af;obtain⟨c0,c1,d0,d1,_⟩:=h.tie y (bs hy);have q:((j+1:Nat):Int)-1=j:=af;have J:decide (((j+1:Nat):Int)>0)=true:=decide_eq_true af;have Q:(t.dN.map sr.ao)[(((j+1:Nat):Int)-1).toNat]? =some y.ao:=(by rw[q];simp [hy]);have N:0<=but/2^(((j+1:Nat):Int)-1).toNat:=(by rw[q];exact(r j).1);have O:but/2^(((j+1:Nat):Int)-1).toNat<9223372036854775808:=(by rw[q];have:=r j;omega);have D:=Hx a0 af F af;have E:=Hx c0 af d0 af;by_cases m:x=y
     ·have n:=decide_eq_true m;refine tI [(20,true),(33,true)] [.cells y.ao,.op (B (decide (x=y)))] zz (by(and_intros);(all_goals first|exact zk _|((exact Ke rfl rfl D E)))) ?_;refine⟨!jm but j,λc=>?_,au ⟨zz,zz,zz,zz,zz,zz,zz,?_,zq⟩⟩;have g:=u j af;rw[xu hy]at g;rw[d,m];have:jm but j=false:=(by simpa using c);rw[this,gm]at g;rw[g,gx];rw[q];exact congrArg B GH
     have n:=decide_eq_false m;refine tI [(20,true),(33,false)] [.cells y.ao,.op (B (decide (x=y)))] zz (by(and_intros);(all_goals first|exact zk _|((exact Ke rfl rfl D E)))) ?_;exact⟨false,(λh=>by cases h),eL⟩
   ·refine λo v=>aj (b:=o) zz (λc=>?_) (λ_=>ak ?_)
    ·refine aE<|fE zz bL ?_;exact⟨k+1,⟨hc,next (v c)⟩,af,eL⟩
    ·have K:0<=but/2^((k:Nat):Int).toNat:=(r k).1;have L:but/2^((k:Nat):Int).toNat<9223372036854775808:=(by have:=r k;omega);have C:=GH (but:=but) (i:=k);refine eZ True (el [(0,tp t but g1 g2),(3,.pi (cN p)),(11,qR t.dN),(12,I t.dN.length),(13,I k),(65,B (!oC t (jm but) p k))]) [] [] ?_ ?_
     ·cases c:jm but k with
      |true=>have w:(((((but/2^((k:Nat):Int).toNat).toNat &&& (1:Int).toNat:Nat):Int))==0)=false:=(by rw[C,c];rfl);refine tI [(52,false)] [] zz (by(and_intros);(all_goals first|exact zk _|((rfl)))) ?_;refine⟨(),zq,au ⟨zz,zz,zz,zz,zz,?_,zq⟩⟩;show B false=B _;rw[d,c];rfl
      |false=>have w:(((((but/2^((k:Nat):Int).toNat).toNat &&& (1:Int).toNat:Nat):Int))==0)=true:=(by rw[C,c];rfl);have S:=WH p (k:=x.a.toNat) af;have eb:=WH p (k:=x.b.toNat) af;refine tI [(52,true)] [.pre [I (aP p x.a.toNat:Nat)],.pre [I (aP p x.b.toNat:Nat)]] zz (by(and_intros);(all_goals first|exact zk _|((rfl)))) ?_;refine⟨(),zq,au ⟨zz,zz,zz,zz,zz,?_,zq⟩⟩;show B ((((aP p x.a.toNat:Nat):Int)==((aP p x.b.toNat:Nat):Int))!=x.same)=B _;rw[d,c];refine congrArg B ?_;unfold Hy;rw[show (((aP p x.a.toNat:Nat):Int)==((aP p x.b.toNat:Nat):Int))=(aP p x.a.toNat==aP p x.b.toNat)by rw[bt,beq_iff_eq,beq_iff_eq];omega];cases (aP p x.a.toNat==aP p x.b.toNat)<;>cases x.same<;>rfl
     intro _ _;refine aj zz (λc=>?_) (λc=>ak ?_);have f:oC t (jm but) p k=false:=(by simpa using c);refine aJ zz<|ab (aD ?_);show B false=B _;refine congrArg B ?_;symm;rw[zr,e6];exact⟨k,a8.2 hc,by rw[f];decide⟩
     ·have f:oC t (jm but) p k=true:=(by simpa using c);refine fE zz bL ?_;exact⟨k+1,⟨hc,next f⟩,af,eL⟩
  simp only[nL]at hc;refine aE ⟨(),?_,au zq⟩;rw[zr,b8];intro j A;exact u j (by have:=a8.1 A;omega)
 intro _ G;refine aJ zz<|ab (aD ?_);show B _=B _;rw[G]
abbrev oI (f:Nat->Nat):List AV:=[I (f 0:Nat),I (f 1:Nat),I (f 2:Nat),I (f 3:Nat),I (f 4:Nat),I (f 5:Nat)]
theorem DW (f:Nat->Nat)(h:k<6):gw none ((oI f).drop (0+k*1))=some (I (f k:Nat)):=by
 match k,h with
 |0,_=>rfl
 |1,_=>rfl
 |2,_=>rfl
 |3,_=>rfl
 |4,_=>rfl
 |5,_=>rfl
theorem oi (f:Nat->Nat)(h:k<6):[I (f k:Nat)]<+:(oI f).drop (k*1):=by
 match k,h with
 |0,_=>exact⟨_,zz⟩
 |1,_=>exact⟨_,zz⟩
 |2,_=>exact⟨_,zz⟩
 |3,_=>exact⟨_,zz⟩
 |4,_=>exact⟨_,zz⟩
 |5,_=>exact⟨_,zz⟩
theorem MQ (f:Nat->Nat)(h:k<6):lm none (k*1) (oI f)=some (I (f k:Nat)):=by
 match k,h with
 |0,_=>rfl
 |1,_=>rfl
 |2,_=>rfl
 |3,_=>rfl
 |4,_=>rfl
 |5,_=>rfl
theorem yp (f:Nat->Nat)(v:Nat)(h:k<6):bU (oI f) (0+k*1) [I (v:Nat)]=oI (λj=>if j=k then v else f j):=by
 match k,h with
 |0,_=>rfl
 |1,_=>rfl
 |2,_=>rfl
 |3,_=>rfl
 |4,_=>rfl
 |5,_=>rfl
theorem Wb {t:be}(h:t.OK)(but:Int)(g1 g2:Nat)(s: ∀i,aP p i<6)(m:MS t):
  iM ad 233 [tp t but g1 g2,.agg (cN p)] (m.heap g1 g2) (LR t g1 g2 (B (rz t p))):=by
 have q:((t.ms.map fw.ao).length:Int)=t.ms.length:=aF;have C:=h.zf;have G:=h.gK.Xq;refine bH aiD.ok<|bE [.bY] zz aK<|bE [.aT] zz cI<|bW (t:=5) zz λb5=>aa (aa ?_)
 refine cZ zz<|cj True (el [(0,tp t but g1 g2),(5,.po b5 0)]) ((b5,.cells 232 (oI (oO t p t.ms.length)))::m.heap g1 g2) [] ?_ ?_
 refine bJ (λk:Nat=>k<=t.ms.length) (λk=>el [(0,tp t but g1 g2),(3,.pi (cN p)),(5,.po b5 0),(14,oF t.ms),(15,I t.ms.length),(16,I k)]) (λk=>(b5,.cells 232 (oI (oO t p k)))::m.heap g1 g2) (λ_=>[]) (λk=>t.ms.length-k) 0 af
  (ai (aw zz) (au ⟨zz,zz,zz,zz,by show I _=I _;rw[q],zz,zq⟩)) ?_
 refine λk hk=>aJ zz<|aa (aj zz (λhc=>?_) (λhc=>?_))
 simp at hc;obtain⟨x,hx⟩:=bq hc;have z:=h.R2 k x hx;have s0:=z.Pf;have s1:=z.Oc;refine ak (aa (ay ?_));refine bE [.cells x.ao,.aT] zz ⟨⟨af,by simp [hx]⟩,zz,ef,zq⟩<|ag (aq (t:=7) zz)<|iF [(0,tp t but g1 g2),(3,.pi (cN p)),(5,.po b5 0),(6,I (k:Nat)),(7,.pi x.ao),(14,oF t.ms),(15,I t.ms.length),(16,I k)] ?_
 have pk:=s k;have c:=Ha h p (aP p k) k af;have H:(1:Int)*2^x.sp.toNat<32:=(by have E:(2:Nat)^x.sp.toNat<2^5:=cr af af;have F:(2:Int)^x.sp.toNat=((2^x.sp.toNat:Nat):Int):=aF;omega);have D:0<=(1:Int)*2^x.sp.toNat:=(by have:(0:Int)<2^x.sp.toNat:=gQ af;omega);refine zg [] [.pre [I (aP p k:Nat)],.RY 0 (I (oO t p k (aP p k):Nat))] zz ⟨⟨fR,oi (aP p) af⟩,fR,⟨zz,DW (oO t p k) pk⟩,⟨af,af,af,af⟩,⟨⟨af,af⟩,af,af⟩,fR,zq⟩<|aY.hd (gs:=[]) (hs:=[.iL 0]) zz ⟨⟨zz,zz,zz,zz,?_⟩,zq⟩ ?_
 show 0+((aP p k:Nat):Int).toNat*1+1<=6;omega;refine fE zz bL ?_;refine⟨k+1,hc,af,ai (aw ?_) eL⟩;show (b5,dp.cells 232 (bU (oI (oO t p k)) (0+(aP p k)*1) [I (((oO t p k (aP p k):Nat):Int).toNat ||| ((1:Int)*2^x.sp.toNat).toNat:Nat)]))::m.heap g1 g2=_;rw[yp _ _ pk,one_pow];have e:(λj=>if j=aP p k then((oO t p k (aP p k):Nat):Int).toNat ||| 2^x.sp.toNat else oO t p k j)=oO t p (k+1):=(by funext j;rw[AK,be.qI hx,cR];by_cases d:j=aP p k;rw[zy d,zy d.symm,d];rw[zj d,zj (λe=>d e.symm)]);rw[e]
 simp only[nL]at hc;have e:k=t.ms.length:=af;subst e;exact aE ⟨(),zq,eL⟩
 intro _ _;have a:rz t p=(az 6).all λw=>oO t p t.ms.length w==0||jn t.gK (oO t p t.ms.length w):=rfl
 have c: ∀w,oO t p t.ms.length w<32:=λw=>Ha h p w _ (ap _);generalize oO t p t.ms.length=f at a c;refine aa (aa ?_);refine kn [.at 0] zz cI<|aU.iN (λ_:MS t=>rz t p=true) (λ_=>el []) (λm=>m.heap g1 g2) (λ_=>[]) ?_ ?_
 ·refine bJ (X:=Nat×MS t) (λx=>x.1<=6/\ ∀w,w<x.1->(f w==0||jn t.gK (f w))=true) (λx=>el [(0,tp t but g1 g2),(32,.agg (oI f)),(33,I x.1)]) (λx=>x.2.heap g1 g2) (λ_=>[]) (λx=>6-x.1) (0,m) ⟨aF,by intro w g;simp at g⟩
   (ai (bO.Kb 0) eL) ?_
  rintro⟨k,m⟩ ⟨hk,r⟩;simp only at hk r ⊢;refine aJ zz<|aa (aj zz (λhc=>?_) (λhc=>?_))
  ·simp only[decide_eq_true_eq]at hc;have o:k<6:=af;refine ak (aa (ay ?_));refine bE [.idx (I (f k:Nat))] zz ⟨⟨fR,MQ f o⟩,zq⟩<|aU.G2 (λb:MS t=>True) (λ_=>el [(0,tp t but g1 g2),(32,.agg (oI f)),(33,I k),(43,B (!(f k==0||jn t.gK (f k))))]) (λb=>b.heap g1 g2) (λ_=>[]) ?_ ?_
   ·by_cases n:f k=0
    ·have y:(((f k:Nat):Int)!=0)=false:=(by rw[n];rfl);refine kD [(38,false)] [] zz (by(and_intros);(all_goals first|exact zk _|((rfl)))) ?_;refine⟨m,zq,au ⟨zz,zz,zz,?_,zq⟩⟩;show B false=B _;rw[n];rfl
    have y:(((f k:Nat):Int)!=0)=true:=(by rw[bne_iff_ne];omega);have u:(f k==0)=false:=(by rw[beq_eq_false_iff_ne];exact n);refine aA<|xnG [(38,true)] [] 5 zz zz (by(and_intros);(all_goals first|exact zk _|((rfl))))<|aY.Vg (congrArg B y) (cC (Hin:=m.heap g1 g2) (H0:=[]) (IR h but g1 g2 (f k) (c k) m) zz zz (aW _) aF ?_)
    rintro res v ⟨rfl,b,rfl⟩;refine xdG [(38,true)] [] zz (by(and_intros);(all_goals first|exact zk _|((rfl)))) ?_;refine⟨b,zq,ai (aw aF) (au ⟨zz,zz,zz,?_,zq⟩)⟩;show B _=B _;rw[u,gm]
   intro b _;refine aj zz (λl=>?_) (λl=>ak ?_);refine aJ zz<|ab (Mr (t:=t) (g1:=g1) (g2:=g2) (m:=b) zz zz ?_)
   show B false=B _;refine congrArg B ?_;symm;rw[a,e6];refine⟨k,a8.2 af,?_⟩;simpa using l
   refine fE zz bL ?_;refine⟨(k+1,b),⟨by simp only;omega,λw g=>?_⟩,by simp only;omega,eL⟩;simp only at g;by_cases e:w=k;rw[e];rw[Bool.not_eq_false']at l;exact l;exact r w af
  simp only[decide_eq_false_iff_not]at hc;refine aE ⟨m,?_,au zq⟩;rw[a,b8];intro w g;exact r w (by have:=a8.1 g;omega)
 intro b A;refine aJ zz<|ab (Mr (t:=t) (g1:=g1) (g2:=g2) (m:=b) zz zz ?_)
 show B true=B _;rw[A]
def HL (t:be)(p:List Nat)(k a:Nat):Nat:=(az k).foldl (λs i=>if (t.m i).eY≠ -1/\aP p i=a then aP p (t.m i).eY.toNat+1 else s) 0
theorem yY (t:be)(p:List Nat)(k a:Nat):HL t p (k+1) a=if (t.m k).eY≠ -1/\aP p k=a then aP p (t.m k).eY.toNat+1 else HL t p k a:=by unfold HL;rw[b0,e8];rfl
def xG (t:be)(p:List Nat)(i:Nat):Prop:=(t.m i).eY≠ -1->aP p (t.m i).eY.toNat≠aP p i/\ ∀k,k<i->(t.m k).eY≠ -1->aP p k=aP p i->aP p (t.m i).eY.toNat=aP p (t.m k).eY.toNat
theorem JR (t:be)(p:List Nat)(a:Nat): ∀k,(∀i,i<k->xG t p i)->(∀i,i<k->(t.m i).eY≠ -1->aP p i=a->HL t p k a=aP p (t.m i).eY.toNat+1)/\(HL t p k a≠0-> ∃i,i<k/\(t.m i).eY≠ -1/\aP p i=a)
 |0,_=>⟨λi hi=>af,λh=>absurd zz h⟩
 |k+1,hk=>by obtain⟨d,f⟩:=JR t p a k (λi hi=>hk i af);rw[yY];by_cases hc:(t.m k).eY≠ -1/\aP p k=a;rw[zy hc];refine⟨λi hi b c=>?_,λ_=>⟨k,af,hc⟩⟩;by_cases e:i=k;rw[e];have:=(hk k af hc.1).2 i af b (by rw[c,hc.2]);omega;rw[zj hc];refine⟨λi hi b c=>?_,λh=>?_⟩;have e:i≠k:=λe=>hc ⟨by rw[<-e];exact b,by rw[<-e];exact c⟩;exact d i af b c;obtain⟨i,hi,b,c⟩:=f h;exact⟨i,af,b,c⟩
theorem adl (t:be)(c: ∀i,aP p i<6)(k a:Nat):HL t p k a<7:=by
 induction k with
 |zero=>show (0:Nat)<7;omega
 |succ k b=>rw[yY];split;grind;exact b
theorem Uh {t:be}(hk: ∀i,i<k->xG t p i)(l:(t.m k).eY≠ -1):
  xG t p k↔ ¬(aP p k=aP p (t.m k).eY.toNat\/(HL t p k (aP p k)≠0/\HL t p k (aP p k)≠aP p (t.m k).eY.toNat+1)):=by obtain⟨f,n⟩:=JR t p (aP p k) k hk;constructor;intro h;obtain⟨g1,g2⟩:=h l;rintro (e|⟨c,d⟩);grind;grind;intro h _;refine⟨λe=>h (.inl e.symm),λj g b a=>?_⟩;have c:=f j g b a;have d: ¬(HL t p k (aP p k)≠0/\HL t p k (aP p k)≠aP p (t.m k).eY.toNat+1):=λe=>h (.inr e);omega
theorem HD {t:be}:BO t p=true↔ ∀i,i<t.ms.length->xG t p i:=xV
theorem JV {t:be}(h:t.OK)(but:Int)(g1 g2:Nat)(d: ∀i,aP p i<6):Ev ad 325 [tp t but g1 g2,.agg (cN p)] (B (BO t p)):=by
 have o:((t.ms.map fw.ao).length:Int)=t.ms.length:=aF;have D:=h.zf;refine ar akQ.ok<|bE [.bY] zz aK<|bE [.aT] zz cI<|bW (t:=5) zz λb5=>aa (aa ?_);refine cZ zz<|cj (BO t p=true) (el []) [] [] ?_ ?_
 ·refine bJ (λk:Nat=>k<=t.ms.length/\ ∀i,i<k->xG t p i) (λk=>el [(0,tp t but g1 g2),(3,.pi (cN p)),(5,.po b5 0),(14,oF t.ms),(15,I t.ms.length),(16,I k)]) (λk=>[(b5,.cells 232 (oI (HL t p k)))]) (λ_=>[]) (λk=>t.ms.length-k) 0 ⟨af,bD⟩
   (ai (aw zz) (au ⟨zz,zz,zz,zz,by show I _=I _;rw[o],zz,zq⟩)) ?_
  rintro k ⟨hk,r⟩;refine aJ zz<|aa (aj zz (λhc=>?_) (λhc=>?_))
  ·simp at hc;obtain⟨x,hx⟩:=bq hc;have y:=h.R2 k x hx;have M:=y.zL;have N:=y.zl;have a:=be.qI hx;refine ak (aa (ay ?_));refine bE [.cells x.ao,.aT] zz ⟨⟨af,by simp [hx]⟩,zz,ef,zq⟩<|ag (aq (t:=7) zz)<|iF [(0,tp t but g1 g2),(3,.pi (cN p)),(5,.po b5 0),(6,I (k:Nat)),(7,.pi x.ao),(14,oF t.ms),(15,I t.ms.length),(16,I k)] ?_
   have next:xG t p k-> ∀i,i<k+1->xG t p i:=by intro he j K;by_cases e:j=k;rw[e];exact he;exact r j af
   refine aa (aa ?_);refine cZ zz<|aj zz (λb=>?_) (λb=>ak ?_)
   ·have b:(x.eY== -1)=true:=b;rw[beq_iff_eq]at b;refine aE<|fE zz bL ?_;refine⟨k+1,⟨hc,next (λq=>absurd (by rw[a];exact b) q)⟩,af,ai (aw ?_) eL⟩;have e:HL t p (k+1)=HL t p k:=by funext w;rw[yY,zj (λhh=>hh.1 (by rw[a];exact b))]
    rw[e]
   ·have b:(x.eY== -1)=false:=b;rw[beq_eq_false_iff_ne]at b;have s:(t.m k).eY≠ -1:=(by rw[a];exact b);have f:=Uh r s;have z:=d k;have L:=d x.eY.toNat;have G:=adl t d k (aP p k);have A:=oi (aP p) (k:=k) af;have C:=oi (aP p) (k:=x.eY.toNat) af;have v:=DW (HL t p k) z;rw[a]at f;have g:HL t p (k+1)=λj=>if j=aP p k then aP p x.eY.toNat+1 else HL t p k j:=by funext w;rw[yY,a];by_cases l:w=aP p k;rw[zy ⟨b,l.symm⟩,zy l];rw[zj (λhh=>l hh.2.symm),zj l]
    generalize aP p x.eY.toNat=c at*
    generalize F:aP p k=v1 at*
    generalize E:HL t p k v1=ov at*
    refine xe [] [.pre [I (v1:Nat)],.pre [I (c:Nat)]] zz (by(and_intros);(all_goals first|exact zk _|((first|exact A|exact C))))<|iF [(0,tp t but g1 g2),(3,.pi (cN p)),(5,.po b5 0),(8,I (v1:Nat)),(9,I (c:Nat)),(14,oF t.ms),(15,I t.ms.length),(16,I k)]<|aa (eZ True (el [(0,tp t but g1 g2),(3,.pi (cN p)),(5,.po b5 0),(8,I (v1:Nat)),(9,I (c:Nat)),(14,oF t.ms),(15,I t.ms.length),(16,I k),(47,B (decide (v1=c\/(ov≠0/\ov≠c+1))))]) [(b5,.cells 232 (oI (HL t p k)))] [] ?_ ?_)
    ·by_cases c1:v1=c
     ·have H:(((v1:Nat):Int)==((c:Nat):Int))=true:=(by rw[beq_iff_eq];omega);refine kD [(34,true)] [] zz (by(and_intros);(all_goals first|exact zk _|((rfl)))) ?_;refine⟨(),zq,au ⟨zz,zz,zz,zz,zz,zz,zz,zz,?_,zq⟩⟩;show B true=B _;simp [c1]
     have H:(((v1:Nat):Int)==((c:Nat):Int))=false:=(by rw[beq_eq_false_iff_ne];omega);by_cases u:ov=0
     ·have J:(((ov:Nat):Int)!=0)=false:=(by rw[u];rfl);refine kD [(34,false),(39,false)] [.RY 0 (I (ov:Nat))] zz (by(and_intros);(all_goals first|exact zk _|((exact v)))) ?_;refine⟨(),zq,au ⟨zz,zz,zz,zz,zz,zz,zz,zz,?_,zq⟩⟩;show B false=B _;simp [c1,u]
     have J:(((ov:Nat):Int)!=0)=true:=(by rw[bne_iff_ne];omega);refine kD [(34,false),(39,true)] [.RY 0 (I (ov:Nat)),.RY 0 (I (ov:Nat))] zz (by(and_intros);(all_goals first|exact zk _|((exact v)))) ?_;refine⟨(),zq,au ⟨zz,zz,zz,zz,zz,zz,zz,zz,?_,zq⟩⟩;refine congrArg B ?_;rw[bt,bne_iff_ne,decide_eq_true_iff];omega
    intro _ _;refine aj zz (λhd=>?_) (λhd=>ak ?_);rw[decide_eq_true_iff]at hd;refine aJ zz<|ab (aD ?_);show B false=B _;refine congrArg B ?_;symm;rw[cb];intro n;exact f.1 (HD.1 n k hc) hd
    ·rw[decide_eq_false_iff_not]at hd;refine hxH [.iL 0] zz ⟨fR,fR,⟨zz,zz,zz,zz,?_⟩,zq⟩ ?_;show 0+((v1:Nat):Int).toNat*1+1<=6;omega;refine fE zz bL ?_;refine⟨k+1,⟨hc,next (f.2 hd)⟩,af,ai (aw ?_) eL⟩;show [(b5,dp.cells 232 (bU (oI (HL t p k)) (0+v1*1) [I ((c+1:Nat):Int)]))]=_;rw[yp _ _ z,g]
  simp only[nL]at hc;have e:k=t.ms.length:=af;subst e;exact aE ⟨(),HD.2 r,ai (bO.Kb 0) (au zq)⟩
 intro _ n;refine aJ zz<|ab (aD ?_);show B _=B _;rw[n]
abbrev jr (s:Sp):List AV:=[I s.1,I s.2]
abbrev XY (f:Nat->Sp):List AV:=[I (f 0).1,I (f 0).2,I (f 1).1,I (f 1).2,I (f 2).1,I (f 2).2,I (f 3).1,I (f 3).2,I (f 4).1,I (f 4).2,I (f 5).1,I (f 5).2]
theorem Hv (f:Nat->Sp)(h:k<6):gw (some 2) ((XY f).drop (0+k*2))=some (.agg (jr (f k))):=by
 match k,h with
 |0,_=>rfl
 |1,_=>rfl
 |2,_=>rfl
 |3,_=>rfl
 |4,_=>rfl
 |5,_=>rfl
theorem QU (f:Nat->Sp)(h:k<6):lm (some 2) (k*2) (XY f)=some (.agg (jr (f k))):=by
 match k,h with
 |0,_=>rfl
 |1,_=>rfl
 |2,_=>rfl
 |3,_=>rfl
 |4,_=>rfl
 |5,_=>rfl
theorem Hi (f:Nat->Sp)(s:Sp)(h:k<6):bU (XY f) (0+k*2) (jr s)=XY (λj=>if j=k then s else f j):=by
 match k,h with
 |0,_=>rfl
 |1,_=>rfl
 |2,_=>rfl
 |3,_=>rfl
 |4,_=>rfl
 |5,_=>rfl
theorem C3 {b:List Sp}(a:b.length=6)(s:Sp)(h:k<6):bU (gF b) (0+k*2) (jr s)=gF (b.set k s):=by
 have e:(λj=>if j=k then s else cK b j)=cK (b.set k s):=by funext j;rw[pA _ _ _ _ af];by_cases e:j=k;grind;grind
 have:=Hi (cK b) s h;rw[e]at this;exact this
abbrev afC (s:Sp):Value:=.agg #[.int .i64 s.1,.int .i64 s.2]
def sJ (n:Int)(s:Sp):Prop:= -n<=s.1/\s.1<=n/\ -n<=s.2/\s.2<=n
theorem sZ (c: -9223372036854775808<=n)(d:n<=9223372036854775807):(ht .i64 n).wf=true:=by have a:gR.min= -9223372036854775808:=rfl;have b:gR.max=9223372036854775807:=rfl;simp [Lit.wf];omega
theorem K5 (h:sJ 1000000 s):bS ad 5 128 (afC s):=by obtain⟨a0,a1,c,d⟩:=h;have a:ad.cellsOf 128=2:=aX;have b:ad.cellsOf 3=1:=aX;refine⟨?_,[.int .i64 s.1,.int .i64 s.2],?_⟩;simp [fe,eS,a];simp [fk,en,eS,ds,a,b,sZ (n:=s.1) af af,sZ (n:=s.2) af af]
theorem pj {d:Nat}{a b:Operand}{env:Env}{x y:Sp}(ha:bG env a= .agg (jr x))(c:bG env b= .agg (jr y))(e:sJ 1000000 x)(f:sJ 1000000 y):
  ∀(r:Option Nat) (N:Nat) (D:List Nat),Q1 ad r N (.pK true 128 a b) (some d) env H D [(d,B (!decide (x=y)))]:=by exact λr N D=>aO.pK (m:=5) aG aX aX aX aX (by rw[ha];rfl) (by rw[c];rfl) (K5 e) (K5 f) (decide (x=y)) bD dO
structure BB (n:Int)(b:List Sp):Prop where
 len:b.length=6
 bd: ∀k,sJ n (cK b k)
theorem BB.step {b:List Sp}(h:BB n b)(a:0<=n){x:Nat}(hx:x<6)(hy:y<6):BB (n+60) (gj b x y):=by
 have hl:=h.len;refine⟨by rw[tk];exact hl,λk=>?_⟩;unfold gj;rw[pA _ _ _ _ bD,pA _ _ _ _ af];have e:=h.bd x;have c:=h.bd y;have d:=h.bd k;unfold sJ kw iJ at*
 split;grind;grind
theorem Rh {b:List Sp}(k:BB 900000 b)(g:Nat){x:Nat}(hx:x<6)(hy:y<6):
  iM ad 379 [.po g 0,I (x:Nat),I (y:Nat)] [(g,.cells 399 (gF b))] (λr Ho=>r=B (kG b x y)/\Ho=[(g,.cells 399 (gF (gj b x y)))]):=by
 have hl:=k.len;have o:=k.bd x;have j:=k.bd y;have l1:=Hv (cK b) hx;have l2:=Hv (cK b) hy;have uR:gj b x y=(b.set x (kw (cK b x) (cK b y))).set y (iJ (cK b x) (cK b y)):=rfl;have c:kG b x y=(decide (kw (cK b x) (cK b y)≠cK b x)||decide (iJ (cK b x) (cK b y)≠cK b y)):=rfl;rw[uR,c];have n:sJ 1000000 (kw (cK b x) (cK b y)):=by unfold sJ kw at*;simp only;omega
 have i:sJ 1000000 (iJ (cK b x) (cK b y)):=by unfold sJ iJ at*;simp only;omega
 have f:sJ 1000000 (cK b x):=by unfold sJ at*;omega
 have h:sJ 1000000 (cK b y):=by unfold sJ at*;omega
 have p:kw (cK b x) (cK b y)=(max (cK b x).1 ((cK b y).1-60),min (cK b x).2 ((cK b y).2-15)):=rfl;have q:iJ (cK b x) (cK b y)=(max (cK b y).1 ((cK b x).1+15),min (cK b y).2 ((cK b x).2+60)):=rfl;generalize kw (cK b x) (cK b y)=a at*
 generalize iJ (cK b x) (cK b y)=d at*
 generalize s:cK b x=sx at*
 generalize u:cK b y=e at*
 unfold sJ at o j;refine bH ain.ok<|aJ zz<|xe [] [.RY 0 (.agg (jr sx)),.RY 0 (.agg (jr e)),.aT,.aT] zz (by(and_intros);(all_goals first|exact zk _|((first|exact l1|exact l2|rfl|decide))))<|ag (ai (aq (t:=7) zz) (aq (t:=8) zz))<|iF [(0,.po g 0),(1,I (x:Nat)),(2,I (y:Nat)),(7,.pi (jr sx)),(8,.pi (jr e))]<|bE [.aT] zz (by(and_intros);(all_goals first|exact zk _|((first|rfl|decide))))<|ag (aq (t:=9) zz)<|ag (au (l:=[(0,.po g 0),(1,I (x:Nat)),(2,I (y:Nat)),(7,.pi (jr sx)),(8,.pi (jr e)),(9,.pi (jr a))]) ⟨zz,zz,zz,zz,zz,by rw[p];rfl,zq⟩)<|bE [.aT] zz (by(and_intros);(all_goals first|exact zk _|((first|rfl|decide))))<|ag (aq (t:=10) zz)<|ag (au (l:=[(0,.po g 0),(1,I (x:Nat)),(2,I (y:Nat)),(7,.pi (jr sx)),(8,.pi (jr e)),(9,.pi (jr a)),(10,.pi (jr d))]) ⟨zz,zz,zz,zz,zz,zz,by rw[q];rfl,zq⟩)<|aa (zg [] [] zz ⟨⟨af,af⟩,zq⟩ ?_)
 refine aY.hd (gs:=[]) (hs:=[.iL 0]) zz ⟨⟨zz,zz,zz,zz,?_⟩,zq⟩ ?_;show 0+((x:Nat):Int).toNat*2+2<=12;omega;refine ag (ai (aw (H':=[(g,.cells 399 (gF (b.set x a)))]) ?_) (au (l:=[(0,.po g 0),(1,I (x:Nat)),(2,I (y:Nat)),(7,.pi (jr sx)),(8,.pi (jr e)),(9,.pi (jr a)),(10,.pi (jr d))]) ⟨zz,zz,zz,zz,zz,zz,zz,zq⟩)) ?_;show [(g,dp.cells _ (bU (gF b) (0+x*2) (jr a)))]=_;rw[C3 hl a hx];refine aa (zg [] [] zz uD ?_);refine aY.hd (gs:=[]) (hs:=[.iL 0]) zz ⟨⟨zz,zz,zz,zz,?_⟩,zq⟩ ?_;show 0+((y:Nat):Int).toNat*2+2<=12;omega;refine ag (ai (aw (H':=[(g,.cells 399 (gF ((b.set x a).set y d)))]) ?_) (au (l:=[(7,.pi (jr sx)),(8,.pi (jr e)),(9,.pi (jr a)),(10,.pi (jr d))]) ⟨zz,zz,zz,zz,zq⟩)) ?_;show [(g,dp.cells _ (bU (gF (b.set x a)) (0+y*2) (jr d)))]=_;rw[C3 bD d hy];by_cases m:a=sx
 ·have v:(!decide (a=sx))=false:=bD;refine vS [(60,false)] [.op (B (!decide (a=sx))),.op (B (!decide (d=e)))] zz (by(and_intros);(all_goals first|exact zk _|((first|exact pj rfl rfl n f|exact pj rfl rfl i h))))<|ab ⟨.inr zz,_,_,_,zz,.one (.tmp zz zz),⟨?_,zz⟩,an _⟩
  show B _=B _;refine congrArg B ?_;rw[bt];simp [m]
 have v:(!decide (a=sx))=true:=bD;refine vS [(60,true)] [.op (B (!decide (a=sx)))] zz (by(and_intros);(all_goals first|exact zk _|((first|exact pj rfl rfl n f|exact pj rfl rfl i h))))<|ab ⟨.inr zz,_,_,_,zz,.one (.tmp zz zz),⟨?_,zz⟩,an _⟩
 show B _=B _;refine congrArg B ?_;rw[bt];simp [m]
def KV (ms:List fw)(p:List Nat)(i:Nat):Option (Nat×Nat):=match ms[i]? with
 |some x=>if x.eY= -1 then none else some ((p[x.eY.toNat]?).getD 0,(p[i]?).getD 0)
 |none=>none
def kR (ms:List fw)(p:List Nat)(k:Nat):List (Nat×Nat):=(az k).filterMap (KV ms p)
theorem Kg {ms:List fw}{p:List Nat}{k:Nat}{x:fw}(hx:ms[k]? =some x)(h:x.eY= -1):kR ms p (k+1)=kR ms p k:=by
 have e:KV ms p k=none:=by unfold KV;rw[hx];simp only[h,if_true]
 unfold kR;rw[b0,er];simp [e]
theorem F5 {ms:List fw}{p:List Nat}{k:Nat}{x:fw}(hx:ms[k]? =some x)(h:x.eY≠ -1):kR ms p (k+1)=kR ms p k++[(aP p x.eY.toNat,aP p k)]:=by
 have e:KV ms p k=some (aP p x.eY.toNat,aP p k):=by unfold KV;rw[hx];simp only[zj h];rfl
 unfold kR;rw[b0,er];simp [e]
theorem mj: ∀(l1 l2:List (Nat×Nat)) (s:List Sp×Bool),aV (l1++l2) s=aV l2 (aV l1 s)
 |[],_,_=>rfl
 |(a,c)::l1,l2,s=>by simp;exact mj l1 l2 _
theorem se {n:Nat}(a:n<=6)(hg:yI n p):Gd n p/\ ∀i,aP p i<6:=by
 have key: ∀i,aP p i<6:=by intro i;by_cases hi:i<n;have:=hg.lt i hi;have:=hg.le;omega;unfold aP;rw[b1 (by rw[hg.len];omega)];show 0<6;omega
 exact⟨⟨hg.len,a,λi=>bD⟩,key⟩
theorem xJ {m:Int}(h:n<=m)(b:sJ n s):sJ m s:=by unfold sJ at*;omega
theorem Uw {t:be}(h:t.OK)(p:List Nat):BB 199 (jo t p 6):=by
 refine⟨gq t p 6,λk=>?_⟩;by_cases hk:k<6;rw[zB t p hk];have:=AG h p k t.ms.length (ap _);unfold sJ;omega;have e:cK (jo t p 6) k=(0,0):=by unfold cK;rw[b1 (by rw[gq];omega)];rfl
 rw[e];unfold sJ;simp
theorem VX {b:List Sp}(h:BB 199 b)(hk: ∀k∈o,k.1<b.length/\k.2<b.length)(he:bR (aV o (b,false)).1=false):BB 199 (aV o (b,false)).1:=by
 obtain⟨s1,_⟩:=iv o b false hk;refine⟨by rw[fF];exact h.len,λk=>?_⟩;by_cases a:k<6;have d:=oV he (by rw[fF,h.len];exact a);have c:=s1.2 k;have f:=h.bd k;unfold Bp at c;unfold sJ at*
 omega
 have e:cK (aV o (b,false)).1 k=(0,0):=by unfold cK;rw[b1 (by rw[fF,h.len];omega)];rfl
 rw[e];unfold sJ;simp
def agt (t:be)(p:List Nat)(r:AV):Prop:= ∃b,r= .cG [.agg (gF b),B (!bR (dH t p 6))]/\(bR (dH t p 6)=false->b=dH t p 6)
theorem aeh:(ad.info? 399).bind (·.zero)=some (.agg #[.int .i64 0,.int .i64 0,.int .i64 0,.int .i64 0,.int .i64 0,.int .i64 0,.int .i64 0,.int .i64 0,.int .i64 0,.int .i64 0,.int .i64 0,.int .i64 0]):=aX
theorem AY {b:List Sp}(hl:b.length=6):bR b=false↔ ∀k,k<6->(cK b k).1<=(cK b k).2:=by constructor;exact λh k hk=>oV h af;intro h;unfold bR;rw[List.any_eq_false];intro x hx;obtain⟨k,hk⟩:=cd hx;have a:=(a6.1 hk).1;have:=h k af;unfold cK at this;rw[hk]at this;simp at this;simp;omega
structure Yy (t:be)(p:List Nat)(b:List Sp)(more:Bool):Prop where
 bb:BB 199 b
 go:more=true->dH t p 6=lJ (kids t.ms p) b
 end_:more=false->dH t p 6=b/\bR b=false
theorem Yy.next {t:be}(h:t.OK)(hg:yI t.ms.length p)(hk:Ai t p){b:List Sp}(hi:Yy t p b true):
  (bR (aV (kids t.ms p) (b,false)).1=true->bR (dH t p 6)=true)/\
  (bR (aV (kids t.ms p) (b,false)).1=false->Yy t p (aV (kids t.ms p) (b,false)).1 (aV (kids t.ms p) (b,false)).2/\((aV (kids t.ms p) (b,false)).2=true->gb (aV (kids t.ms p) (b,false)).1<gb b)):=by
 have c: ∀k∈kids t.ms p,k.1<b.length/\k.2<b.length/\k.1≠k.2:=by have:=zc h hg hk (w:=6) (by have:=hg.le;have:=h.zf;omega);rw[gq]at this;rw[hi.bb.len];exact this
 have d: ∀k∈kids t.ms p,k.1<b.length/\k.2<b.length:=λk hk=>⟨(c k hk).1,(c k hk).2.1⟩;have e:=hi.go zz;obtain⟨s1,_⟩:=iv (kids t.ms p) b false d;constructor;intro he;by_cases f:bR b=true;rw[e,oK f];exact f;have a:bR b=false:=(by simpa using f);cases hm:(aV (kids t.ms p) (b,false)).2 with
 |true=>rw[e,tQ c a hm,oK he];exact he
 |false=>rw[e,uJ a hm];exact he
 intro he;have a:bR b=false:=by
  cases f:bR b with
  |false=>rfl
  |true=>rw[Cr s1 f]at he;cases he
 refine⟨⟨VX hi.bb d he,λhm=>?_,λhm=>?_⟩,λhm=>A0 c hm he⟩;rw[e,tQ c a hm];rw[e,uJ a hm];exact⟨zz,he⟩
abbrev adW (t:be)(g1 g2:Nat)(p:List Nat)(r:AV)(Ho:av):Prop:=agt t p r/\ ∃a:MS t,Ho=a.heap g1 g2
theorem abB {t:be}{g1 g2 a:Nat}{env:Env}{m:MS t}{b:List Sp}(h4:env 4= .po a 0)(c:env 5=B (!bR (dH t p 6)))(d:bR (dH t p 6)=false->b=dH t p 6):
  yH ad [.cell 4 399,.tmp 5] (adW t g1 g2 p) .ret env ((a,.cells 399 (gF b))::m.heap g1 g2) []:=
 ⟨.inr zz,_,.cG [.agg (gF b),B (!bR (dH t p 6))],m.heap g1 g2,zz,
   .many aG (show fp (jU ad env _) [.cell 4 399,.tmp 5] [.agg (gF b),B (!bR (dH t p 6))]from
    ⟨.dY (n:=some 12) (i:=0) h4 zz aX zz,.tmp c zz,zq⟩),⟨⟨b,zz,d⟩,m,zz⟩,cc _ _⟩
set_option maxHeartbeats 1000000 in
theorem Th {t:be}(h:t.OK)(but:Int)(g1 g2:Nat)(hg:yI t.ms.length p)(P:Ai t p)(m:MS t):
  iM ad 324 [tp t but g1 g2,.agg (cN p)] (m.heap g1 g2) (adW t g1 g2 p):=by
 obtain⟨G,g⟩:=se h.zf hg;obtain⟨o,K⟩:=GU m.k (uH p);have F:((t.ms.map fw.ao).length:Int)=t.ms.length:=aF;have a0:=h.zf;have wp:=O2 G;refine bH ah5.ok<|bE [.bY,.aT] zz ⟨⟨zz,zz⟩,zz,zq⟩ ?_;have E: ∀(env:Env) (H:av),bG env (tm 20)= .mo g2->H[1]? =some (g2,.map m.k)->valOf (bG env (tm 21))=some (uH p)-> ∀(r:Option Nat) (N:Nat) (D:List Nat),
   Q1 ad r N (.lookup 395 (tm 20) (tm 21) true 232 399 [.int .i64 0,.int .i64 0,.int .i64 0,.int .i64 0,.int .i64 0,.int .i64 0,.int .i64 0,.int .i64 0,.int .i64 0,.int .i64 0,.int .i64 0,.int .i64 0]) (some 22) env H D [(22,rQ true (cv (.agg #[.int .i64 0,.int .i64 0,.int .i64 0,.int .i64 0,.int .i64 0,.int .i64 0,.int .i64 0,.int .i64 0,.int .i64 0,.int .i64 0,.int .i64 0,.int .i64 0])) o)]:=by
  intro env H h1 h2 h3 r N D
  exact aO.oS hKP aeh h1 h2 h3 wp (λe he=>(m.hk.ok e he).key) K dO
 rcases Db K m.hk with rfl|⟨j,v,rfl,q,hq,R,Q,rfl⟩;case inr=>
  have e:=DP h.zf hg.len hq.len R;subst e;refine aa (aa ?_);refine tI [] [.op (.cG [.agg (gF (dH t p 6)),B true])] zz ⟨E _ _ zz zz zz,⟨zz,zz,zz,ap 12⟩,zq⟩<|aJ zz<|aC zz zz<|Ik zz ⟨⟨zz,zz,zz,ap 12⟩,zq⟩<|bW (t:=4) zz λa=>ag (aw zz)<|ab (abB zz ?_ (λ_=>rfl))
  rw[Q];rfl
 refine aa (aa ?_);refine tI [] [.op (.cG [.agg ([ec .i64 0,.int .i64 0,.int .i64 0,.int .i64 0,.int .i64 0,.int .i64 0,.int .i64 0,.int .i64 0,.int .i64 0,.int .i64 0,.int .i64 0,.int .i64 0].map .v),B false])] zz ⟨E _ _ zz zz zz,⟨zz,zz,zz,ap 12⟩,zq⟩<|aJ zz<|aH zz zz<|bW (t:=4) zz λa=>ag (ai (aw zz) (au (l:=[(0,tp t but g1 g2),(3,.pi (cN p)),(4,.po a 0)]) xH))<|aa (aa ?_)
 refine cZ zz<|cj True (el [(0,tp t but g1 g2),(3,.pi (cN p)),(4,.po a 0)]) ((a,.cells 399 (XY λ_=>(0,199)))::m.heap g1 g2) [] ?_ ?_
 refine bJ (λk:Nat=>k<=6) (λk=>el [(0,tp t but g1 g2),(3,.pi (cN p)),(4,.po a 0),(27,I k)]) (λk=>(a,.cells 399 (XY λj=>if j<k then(0,199)else(0,0)))::m.heap g1 g2) (λ_=>[]) (λk=>6-k) 0 af
  eL ?_
 intro k hk;refine aJ zz<|aa (aj zz (λhc=>?_) (λhc=>?_))
 simp only[decide_eq_true_eq]at hc;refine ak (aa (ay ?_));refine aJ zz<|hxH [.iL 0] zz ⟨fR,⟨zz,zz,zz,zz,?_⟩,zq⟩ ?_
 show 0+((k:Nat):Int).toNat*2+2<=12;omega;refine fE zz bL ?_;refine⟨k+1,af,af,ai (aw ?_) eL⟩;show (a,dp.cells _ (bU (XY λj=>if j<k then(0,199)else(0,0)) (0+k*2) (jr (0,199))))::_=_;rw[Hi _ _ af];have e:(λj=>if j=k then((0,199):Sp)else if j<k then(0,199)else(0,0))=λj=>if j<k+1 then(0,199)else(0,0):=by funext j;by_cases V:j=k;rw[zy V,zy af];rw[zj V];by_cases W:j<k;rw[zy W,zy af];rw[zj W,zj af]
 rw[e]
 simp only[decide_eq_false_iff_not]at hc;have e:k=6:=af;subst e;exact aE ⟨(),zq,ai (aw zz) eL⟩
 intro _ _;refine aa (aa ?_);refine cZ zz<|cj True (el [(0,tp t but g1 g2),(3,.pi (cN p)),(4,.po a 0)]) ((a,.cells 399 (gF (jo t p 6)))::m.heap g1 g2) [] ?_ ?_
 ·refine bJ (λk:Nat=>k<=t.ms.length) (λk=>el [(0,tp t but g1 g2),(3,.pi (cN p)),(4,.po a 0),(38,oF t.ms),(39,I t.ms.length),(40,I k)]) (λk=>(a,.cells 399 (XY (gD t p k)))::m.heap g1 g2) (λ_=>[]) (λk=>t.ms.length-k) 0 af
   (ai (aw zz) (au ⟨zz,zz,zz,zz,by show I _=I _;rw[F],zz,zq⟩)) ?_
  intro k hk;refine aJ zz<|aa (aj zz (λhc=>?_) (λhc=>?_))
  ·simp only[nL]at hc;obtain⟨x,hx⟩:=bq hc;have J:=g k;have l1:=oi (aP p) (k:=k) af;have l2:=Hv (gD t p k) J;have i:gD t p (k+1)=λj=>if j=aP p k then(max (gD t p k (aP p k)).1 x.lo,min (gD t p k (aP p k)).2 x.hi)else gD t p k j:=by funext w;rw[od,be.qI hx];by_cases e:w=aP p k;rw[zy e,zy e.symm,e];rw[zj e,zj (λh=>e h.symm)]
   generalize S:aP p k=v1 at*
   generalize a1:gD t p k v1=s1 at*
   refine ak (aa (ay ?_));refine bE [.cells x.ao,.aT] zz ⟨⟨af,by simp [hx]⟩,zz,ef,zq⟩<|ag (aq (t:=8) zz)<|iF [(0,tp t but g1 g2),(3,.pi (cN p)),(4,.po a 0),(7,I (k:Nat)),(8,.pi x.ao),(38,oF t.ms),(39,I t.ms.length),(40,I k)]<|bE [.pre [I (v1:Nat)],.RY 0 (.agg (jr s1)),.aT] zz (by(and_intros);(all_goals first|exact zk _|((first|exact l1|exact l2|rfl|decide))))<|ag (aq (t:=9) zz)<|iF [(0,tp t but g1 g2),(3,.pi (cN p)),(4,.po a 0),(7,I (k:Nat)),(8,.pi x.ao),(9,.pi (jr s1)),(38,oF t.ms),(39,I t.ms.length),(40,I k)]<|zg [] [.pre [I (v1:Nat)]] zz ⟨⟨fR,l1⟩,fR,zq⟩<|aY.hd (gs:=[]) (hs:=[.iL 0]) zz ⟨⟨zz,zz,zz,zz,?_⟩,zq⟩ ?_
   show 0+((v1:Nat):Int).toNat*2+2<=12;omega;refine fE zz bL ?_;refine⟨k+1,hc,af,ai (aw ?_) eL⟩;show (a,dp.cells _ (bU (XY (gD t p k)) (0+v1*2) (jr (max s1.1 x.lo,min s1.2 x.hi))))::_=_;rw[Hi _ _ J,i]
  simp only[nL]at hc;have e:k=t.ms.length:=af;subst e;exact aE ⟨(),zq,ai (aw zz) eL⟩
 intro _ _;refine aJ zz<|aa (aa ?_)
 refine cZ zz<|aU.iN (Y:=List Sp) (λb=>dH t p 6=b/\bR b=false) (λ_=>el [(0,tp t but g1 g2),(3,.pi (cN p)),(4,.po a 0)]) (λb=>(a,.cells 399 (gF b))::m.heap g1 g2) (λ_=>[]) ?_ ?_
 ·refine bJ (X:=List Sp×Bool) (λx=>Yy t p x.1 x.2) (λx=>el [(0,tp t but g1 g2),(3,.pi (cN p)),(4,.po a 0),(10,.fn (.func 379) [.po a 0] []),(11,B x.2)]) (λx=>(a,.cells 399 (gF x.1))::m.heap g1 g2) (λ_=>[]) (λx=>if x.2=true then gb x.1+1 else 0) (jo t p 6,true) ⟨Uw h p,λ_=>rfl,λh=>by cases h⟩
   eL ?_
  rintro⟨b,more⟩ hi;simp only at hi ⊢;refine aa (aa ?_);refine cZ zz ?_;cases more with
  |false=>refine aj (b:=false) zz (λh=>by cases h) (λ_=>aE ⟨b,hi.end_ zz,eL⟩)
  |true=>
  refine aj (b:=true) zz (λ_=>ak ?_) (λh=>by cases h);refine ay<|aJ zz<|aa (aa ?_)
  refine cZ zz ?_;obtain⟨n1,n2⟩:=hi.next h hg P;have A:=hi.bb;refine cj True (el [(0,tp t but g1 g2),(3,.pi (cN p)),(4,.po a 0),(10,.fn (.func 379) [.po a 0] []),(11,B (aV (kids t.ms p) (b,false)).2)]) ((a,.cells 399 (gF (aV (kids t.ms p) (b,false)).1))::m.heap g1 g2) [] ?_ ?_
  ·refine bJ (λk:Nat=>k<=t.ms.length/\BB (199+60*k) (aV (kR t.ms p k) (b,false)).1) (λk=>el [(0,tp t but g1 g2),(3,.pi (cN p)),(4,.po a 0),(10,.fn (.func 379) [.po a 0] []),(11,B (aV (kR t.ms p k) (b,false)).2),(74,oF t.ms),(75,I t.ms.length),(76,I k)]) (λk=>(a,.cells 399 (gF (aV (kR t.ms p k) (b,false)).1))::m.heap g1 g2) (λ_=>[]) (λk=>t.ms.length-k) 0 ⟨af,by simpa [kR,aV]using A⟩
    (au ⟨zz,zz,zz,zz,zz,zz,by show I _=I _;rw[F],zz,zq⟩) ?_
   rintro k ⟨hk,y⟩;refine aJ zz<|aa (aj zz (λhc=>?_) (λhc=>?_))
   ·simp only[nL]at hc;obtain⟨x,hx⟩:=bq hc;have ox:=h.R2 k x hx;have q0:=ox.zL;have q1:=ox.zl;have J:=g k;have p2:=g x.eY.toNat;have l1:=oi (aP p) (k:=k) af;have l2:=oi (aP p) (k:=x.eY.toNat) af;refine ak (aa (ay ?_));refine bE [.cells x.ao,.aT] zz ⟨⟨af,by simp [hx]⟩,zz,ef,zq⟩<|ag (aq (t:=13) zz)<|iF [(0,tp t but g1 g2),(3,.pi (cN p)),(4,.po a 0),(10,.fn (.func 379) [.po a 0] []),(11,B (aV (kR t.ms p k) (b,false)).2),(12,I (k:Nat)),(13,.pi x.ao),(74,oF t.ms),(75,I t.ms.length),(76,I k)] ?_
    by_cases f:x.eY= -1
    ·have hz:(x.eY != -1)=false:=(by rw[f];rfl);refine xe [(84,false)] [] zz (by(and_intros);(all_goals first|exact zk _|((rfl))))<|aH zz zz<|fE zz ⟨af,zq⟩ ?_
     have u:=Kg (p:=p) hx f;refine⟨k+1,⟨hc,?_⟩,af,ai (aw ?_) (au ⟨zz,zz,zz,zz,?_,zz,zz,zz,zq⟩)⟩;rw[u];exact⟨y.len,λj=>xJ af (y.bd j)⟩;rw[u];rw[u];rfl
    have hz:(x.eY != -1)=true:=(by rw[bne_iff_ne];exact f);have u:=F5 (p:=p) hx f;have s:aV (kR t.ms p (k+1)) (b,false)=(gj (aV (kR t.ms p k) (b,false)).1 (aP p x.eY.toNat) (aP p k),(aV (kR t.ms p k) (b,false)).2||kG (aV (kR t.ms p k) (b,false)).1 (aP p x.eY.toNat) (aP p k)):=(by rw[u,mj];rfl);have z:BB (199+60*((k+1:Nat):Int)) (gj (aV (kR t.ms p k) (b,false)).1 (aP p x.eY.toNat) (aP p k)):=(by have:=y.step af p2 J;rw[show (199+60*((k+1:Nat):Int))=199+60*(k:Int)+60 from af];exact this);generalize (aV (kR t.ms p k) (b,false)).1=L at*
    generalize (aV (kR t.ms p k) (b,false)).2=mk at*
    generalize aP p x.eY.toNat=T at*
    generalize S:aP p k=v1 at*
    have M:BB 900000 L:=⟨y.len,λj=>xJ af (y.bd j)⟩;refine aa (zg [(84,true)] [.pre [I (T:Nat)],.pre [I (v1:Nat)]] zz (by(and_intros);(all_goals first|(with_reducible exact trivial)|(with_reducible rfl)|(with_reducible assumption)|omega|exact l1|exact l2)) ?_);refine aY.Vg (congrArg B hz) (cq (Hin:=[(a,.cells 399 (gF L))]) (H0:=m.heap g1 g2) zz (show iM ad 379 [.po a 0,I (T:Nat),I (v1:Nat)] _ _ from Rh M a p2 J) zz zz (aW _) zz ?_);rintro res U ⟨rfl,rfl⟩;refine xdG [(84,true)] [] zz (by(and_intros);(all_goals first|exact zk _|((rfl))))<|aj (b:=kG L T v1) zz (λhm=>?_) (λhm=>ak ?_)
    refine cZ zz<|fE zz bL ?_
    refine⟨k+1,⟨hc,by rw[s];exact z⟩,af,ai (aw (by rw[s];rfl)) (au ⟨zz,zz,zz,zz,?_,zz,zz,zz,zq⟩)⟩;show B true=B _;rw[s,hm,gx]
    refine fE zz bL ?_;refine⟨k+1,⟨hc,by rw[s];exact z⟩,af,ai (aw (by rw[s];rfl)) (au ⟨zz,zz,zz,zz,?_,zz,zz,zz,zq⟩)⟩;show B mk=B _;rw[s,hm,eP]
   simp only[nL]at hc;have e:k=t.ms.length:=af;subst e;exact aE ⟨(),zq,eL⟩
  intro _ _;have C:(aV (kids t.ms p) (b,false)).1.length=6:=by rw[fF];exact A.len
  generalize (aV (kids t.ms p) (b,false)).1=b2 at*
  generalize (aV (kids t.ms p) (b,false)).2=m2 at*
  refine bE [.at 0] zz cI<|ay<|bJ (λk:Nat=>k<=6/\ ∀j,j<k->(cK b2 j).1<=(cK b2 j).2) (λk=>el [(0,tp t but g1 g2),(3,.pi (cN p)),(4,.po a 0),(10,.fn (.func 379) [.po a 0] []),(11,B m2),(96,.agg (gF b2)),(97,I k)]) (λ_=>(a,.cells 399 (gF b2))::m.heap g1 g2) (λ_=>[]) (λk=>6-k) 0 ⟨af,bD⟩
   eL ?_
  rintro k ⟨hk,f⟩;refine aJ zz<|aa (aj zz (λhc=>?_) (λhc=>?_));simp only[decide_eq_true_eq]at hc;refine ak (aa (ay ?_));refine bE [.idx (.agg (jr (cK b2 k))),.aT] zz ⟨⟨fR,QU (cK b2) af⟩,zz,ef,zq⟩<|ag (aq (t:=15) zz)<|aJ zz<|aj (b:=decide ((cK b2 k).1>(cK b2 k).2)) zz (λhd=>?_) (λhd=>ak ?_)
  rw[decide_eq_true_iff]at hd;have he:bR b2=true:=by
   cases hb:bR b2 with
   |true=>rfl
   |false=>have:=(AY C).1 hb k af;omega
  refine nw [.at 0,.iL 0] zz ⟨zz,⟨zz,zz,zz,zz,ap 12⟩,zq⟩<|ab (abB (m:=m) (b:=b2) zz ?_ (λZ=>by rw[n1 he]at Z;cases Z))
  show B false=B _;rw[n1 he];rfl
  rw[decide_eq_false_iff_not]at hd;refine fE zz bL ?_;refine⟨k+1,⟨af,λj hj=>?_⟩,af,eL⟩;by_cases e:j=k;rw[e];omega;exact f j af
  simp only[decide_eq_false_iff_not]at hc;have he:bR b2=false:=(AY C).2 (λj hj=>f j af);obtain⟨i1,i2⟩:=n2 he;refine aE ⟨(b2,m2),i1,?_,eL⟩;simp only[if_true];split;have:=i2 bB;omega;omega
 rintro b ⟨d,O⟩;refine aa (zg [] [.at 0] zz cI ?_);refine ah (aO.jH (n:=2) hKP zz zz zz wp (λe he=>(m.hk.ok e he).key) K zz zz ?_);refine bF ?_;have w2:zY (GK t) (mA m.k (uH p) (.agg (gF b)) none):=zY.put K (m.hk.M8 _) ⟨p,G,zz,bD,by rw[d]⟩;refine ag (aw (H':=(a,.cells 399 (gF b))::(⟨m.c,_,m.hc,w2⟩:MS t).heap g1 g2) zz)<|nw [.at 0,.iL 0] zz ⟨zz,⟨zz,zz,zz,zz,ap 12⟩,zq⟩<|ab (abB (m:=⟨m.c,_,m.hc,w2⟩) (b:=b) zz ?_ (λ_=>d.symm));show B true=B _;rw[d,O];rfl
abbrev jk (t:be):Nat->Nat->Bool:=λj i=>vX t j i !=0
abbrev Yv (l:Nat):AV:=.fn (.yield l) [] []
def aaV (t:be)(but:Int)(g1 g2 l bp bn:Nat):AV:=.fn (.func 323) [] [.pi [tp t but g1 g2],.po bp 0,.pi [Yv l],.po bn 0]
abbrev NT (t:be)(but:Int)(g1 g2 l bp bn:Nat)(a:Nat->Nat):av:=[(bp,.cells 232 (oI a)),(bn,.cells 266 [aaV t but g1 g2 l bp bn])]
theorem nH (p:List Nat){i:Nat}(h: ¬i<p.length):aP p i=0:=by unfold aP;rw[b1 af];rfl
theorem ZY {t:be}(h:t.OK)(hl:p.length=t.ms.length)(f:kJ (jk t) p=true):Ai t p:=by intro i hi d e;have a:=(Fj hl).1 f;have c:=h.at hi;have g:=c.zL;have j:=c.zl;have k:=c.own;by_cases b:(t.m i).eY.toNat<i;have:=(rT.1 (a i hi _ b e)).2.2.2.2;omega;have:=(rT.1 (a (t.m i).eY.toNat af i af e.symm)).2.2.2.1;omega
def zD (t:be)(last:List Nat->Bool)(m:Nat)(p:List Nat)(k:Nat):List (List Nat):=
 if (az p.length).all (λj=> !(p[j]? ==some k&&jk t j p.length))=true then ue (jk t) last m (p++[k])else[]
theorem QX (t:be)(last:List Nat->Bool)(m:Nat)(p:List Nat):ue (jk t) last (m+1) p=(az (eW p+1)).flatMap (zD t last m p):=rfl
theorem nB (g:Nat->List e)(n:Nat):(az (n+1)).flatMap g=(az n).flatMap g++g n:=by rw[b0,eM];simp
theorem lU (g:Nat->List e){n:Nat}(h:k<=n): ∃r,(az n).flatMap g=(az k).flatMap g++r:=by obtain⟨d,rfl⟩: ∃d,n=k+d:=⟨n-k,af⟩;rw[List.range_add,eM];exact⟨_,zz⟩
theorem Tq {t:be}{last:List Nat->Bool}{m:Nat}(h: ∀j,j<p.length-> ¬(aP p j=k/\vX t j p.length≠0)):zD t last m p k=ue (jk t) last m (p++[k])/\(az p.length).all (λj=> !(p[j]? ==some k&&jk t j p.length))=true:=by
 have e:(az p.length).all (λj=> !(p[j]? ==some k&&jk t j p.length))=true:=by rw[b8];intro j a;rw[a8]at a;have:=h j a;rw[km a,Bool.not_eq_true',Bool.and_eq_false_iff];by_cases e:aP p j=k;grind;left;simp [e]
 unfold zD;exact⟨by rw[zy e],e⟩
theorem TM {t:be}{last:List Nat->Bool}{m:Nat}{j:Nat}(c:j<p.length)(a:aP p j=k)(b:vX t j p.length≠0):zD t last m p k=[]:=by grind [zD,km]
theorem aai (A B:Nat×dp)(u w:av):(u++(A::B::w)).Perm ((u++w)++[A,B]):=by rw[bl];exact(bA (l₁:=[A,B])).append_left u
section
variable {t:be} (h:t.OK) (but:Int) (g1 g2 l bp bn:Nat) {X:Type} (f:X->List Nat->J×X) (W:J->X->av) (x0:X)
def YOK (t:be)(g1 g2 l:Nat)(f:X->List Nat->J×X)(W:J->X->av)(x0:X)(L:List (List Nat)):Prop:=
 ∀a p b,L=a++p::b->(aZ f a x0).1= .go-> ∀m:MS t,Gl ad l [.agg (cN p),I (eW p:Nat)] (m.heap g1 g2++W .go (aZ f a x0).2)
  (λres Ho=> ∃c:MS t,res=B (f (aZ f a x0).2 p).1.on/\Ho=c.heap g1 g2++W (f (aZ f a x0).2 p).1 (f (aZ f a x0).2 p).2)
def UB (t:be)(but:Int)(g1 g2 l bp bn:Nat)(W:J->X->av)(p:List Nat)(res:J×X)(r:AV)(Ho:av):Prop:=
 ∃(b:MS t) (a:Nat->Nat),r=B res.1.on/\Ho=b.heap g1 g2++(NT t but g1 g2 l bp bn a++W res.1 res.2)/\(res.1= .go->a=aP p)
theorem XD {but:Int}{g1 g2 l bp bn:Nat}{W:J->X->av}{res:J×X}{env:Env}{m:MS t}{a:Nat->Nat}(b:env 8=B res.1.on)(ha:res.1= .go->a=aP p):
  yH ad [.tmp 8] (UB t but g1 g2 l bp bn W p res) .ret env (m.heap g1 g2++(NT t but g1 g2 l bp bn a++W res.1 res.2)) []:=
 ⟨.inr zz,_,_,_,zz,.one (.tmp b zz),⟨m,a,zz,zz,ha⟩,an _⟩
include h
theorem RH (hy:YOK t g1 g2 l f W x0 L){c q:List (List Nat)}(hl:p.length=t.ms.length)(hg:yI t.ms.length p)(A:kJ (jk t) p=true)(r:L=c++ue (jk t) (jI t) 0 p++q)
  (g:(aZ f c x0).1= .go) (m:MS t):iM ad 323 [I (p.length:Nat),I (eW p:Nat),.pi [tp t but g1 g2],.po bp 0,.pi [Yv l],.po bn 0] (m.heap g1 g2++(NT t but g1 g2 l bp bn (aP p)++W .go (aZ f c x0).2))
    (UB t but g1 g2 l bp bn W p (aZ f (c++ue (jk t) (jI t) 0 p) x0)):=by
 have v:((t.ms.map fw.ao).length:Int)=t.ms.length:=aF;have u:=ZY h hl A;obtain⟨C,w⟩:=se h.zf hg;have s:=JV h but g1 g2 w;have d:(jI t p=false/\aZ f (c++ue (jk t) (jI t) 0 p) x0=aZ f c x0)\/(jI t p=true/\L=c++p::q/\aZ f (c++ue (jk t) (jI t) 0 p) x0=f (aZ f c x0).2 p):=by
  simp only[ue]at r ⊢;cases n:jI t p with
  |false=>grind
  |true=>right;rw[n,zy zz]at r;rw[zy zz,uB g,C7];exact⟨zz,by rw[r];simp,zz⟩
 have i:jI t p=(!bR (dH t p 6)&&BO t p):=rfl;generalize aZ f (c++ue (jk t) (jI t) 0 p) x0=res at d;have stop:jI t p=false-> ∀(env:Env) (m:MS t),env 8=B true->yH ad [.tmp 8] (UB t but g1 g2 l bp bn W p res) .ret env (m.heap g1 g2++(NT t but g1 g2 l bp bn (aP p)++W .go (aZ f c x0).2)) []:=by
  intro E env m z;rcases d with⟨_,e⟩|⟨e,_⟩
  subst e;have:=XD (but:=but) (g1:=g1) (g2:=g2) (l:=l) (bp:=bp) (bn:=bn) (W:=W) (p:=p) (res:=aZ f c x0) (env:=env) (m:=m) (a:=aP p) (by rw[z,g];rfl) (λ_=>rfl);rw[g]at this;exact this;grind
 refine bH amu.ok<|aJ zz<|aU.scope (aa (aa ?_))
 refine cZ zz<|aj (b:=true) (by show B _=B _;refine congrArg B ?_;rw[beq_iff_eq,v];omega) (λ_=>?_) (λh=>by cases h)
 refine aa (aa (aA ?_));refine mO [.at 2] 2 zz zz cI<|ah (cC (Hin:=m.heap g1 g2) (H0:=NT t but g1 g2 l bp bn (aP p)++W .go (aZ f c x0).2) (Th h but g1 g2 hg u m) zz zz (aW _) zz ?_)
 rintro G x ⟨⟨b,rfl,n⟩,o,rfl⟩;refine VR [.aT] zz ⟨zz,⟨zz,zz,zz,ap 12⟩,zq⟩<|iF [(0,I (p.length:Nat)),(1,I (eW p:Nat)),(2,.pi [tp t but g1 g2]),(3,.po bp 0),(4,.pi [Yv l]),(5,.po bn 0),(10,B (!bR (dH t p 6)))]<|eZ True (el [(0,I (p.length:Nat)),(1,I (eW p:Nat)),(2,.pi [tp t but g1 g2]),(3,.po bp 0),(4,.pi [Yv l]),(5,.po bn 0),(34,B (!jI t p))]) (o.heap g1 g2++(NT t but g1 g2 l bp bn (aP p)++W .go (aZ f c x0).2)) [] ?_ ?_
 ·rw[i];cases D:bR (dH t p 6)with
  |true=>refine kD [(29,true)] [] zz (by(and_intros);(all_goals first|exact zk _|((rfl)))) ?_;exact⟨(),zq,eL⟩
  |false=>refine kD [(29,false)] [.at 2,.ret (B (BO t p))] zz (by(repeat' (with_reducible apply cA));(all_goals first|exact zk _|((first|rfl|exact s)))) ?_;exact⟨(),zq,eL⟩
 intro _ _;refine aj (b:= !jI t p) zz (λn=>?_) (λn=>ak ?_);have j:jI t p=false:=bD;refine aJ zz ?_;exact ab (stop j _ o zz);have j:jI t p=true:=bD;rcases d with⟨e,_⟩|⟨_,eL,e⟩
 grind;have k:=hy c p q eL g o;rw[<-e]at k;refine aa (aA ?_);refine mO [.at 2] 3 zz zz cI<|aR (cM (aai _ _ _ _))<|ah (cq (Hin:=o.heap g1 g2++W .go (aZ f c x0).2) (H0:=NT t but g1 g2 l bp bn (aP p)) zz (show Sr ad (.yield l) [] _ _ _ from⟨zz,k⟩) zz zz (aW _) zz ?_)
 rintro H y ⟨F,rfl,rfl⟩;refine aR (cM (aai _ _ _ _).symm)<|gk zz ?_;exact ab (XD zz (λ_=>rfl))
end
theorem aba {t:be}{but:Int}{g1 g2 l bp bn:Nat}{X:Type}{W:J->X->av}{res:J×X}{env:Env}{m:MS t}(b:env 8=B true)(hg:res.1= .go):
  yH ad [.tmp 8] (UB t but g1 g2 l bp bn W p res) .ret env (m.heap g1 g2++(NT t but g1 g2 l bp bn (aP p)++W .go res.2)) []:=by have:=XD (but:=but) (g1:=g1) (g2:=g2) (l:=l) (bp:=bp) (bn:=bn) (W:=W) (res:=res) (env:=env) (m:=m) (a:=aP p) (by rw[b,hg];rfl) (λ_=>rfl);rw[hg]at this;exact this
section
variable {t:be} (h:t.OK) (but:Int) (g1 g2 l bp bn:Nat) {X:Type} (f:X->List Nat->J×X) (W:J->X->av) (x0:X)
include h
theorem W5 (hy:YOK t g1 g2 l f W x0 L): ∀(z:Nat) (p:List Nat) (g T:List (List Nat)),p.length+z=t.ms.length->yI p.length p->kJ (jk t) p=true->L=g++ue (jk t) (jI t) z p++T->
  (aZ f g x0).1= .go-> ∀m:MS t,iM ad 323 [I (p.length:Nat),I (eW p:Nat),.pi [tp t but g1 g2],.po bp 0,.pi [Yv l],.po bn 0] (m.heap g1 g2++(NT t but g1 g2 l bp bn (aP p)++W .go (aZ f g x0).2))
    (UB t but g1 g2 l bp bn W p (aZ f (g++ue (jk t) (jI t) z p) x0)):=by
 intro z;induction z with
 |zero=>intro p g T hl hg hp O G m;rw[Nat.add_zero]at hl;exact RH h but g1 g2 l bp bn f W x0 hy hl bD hp O G m
 |succ z ih=>
  intro p g T hl hg hp O G m;have a0:((t.ms.map fw.ao).length:Int)=t.ms.length:=aF;have a2:=h.zf;have a1:=hg.le;have Q:p.length<6:=af;rw[QX]at O ⊢;generalize Z:zD t (jI t) z p=ch at O;have C:=λk=>Tq (t:=t) (last:=jI t) (m:=z) (p:=p) (k:=k);have A:=λk j=>TM (t:=t) (last:=jI t) (m:=z) (p:=p) (k:=k) (j:=j);rw[Z]at C A;refine bH amu.ok<|aJ zz<|aU.scope (aa (aa ?_))
  refine cZ zz<|aj (b:=false) (by show B _=B _;refine congrArg B ?_;rw[beq_eq_false_iff_ne,a0];omega) (λh=>by cases h) (λ_=>ak ?_)
  refine aa (aU.label ?_);refine aa (aa ?_);refine fE zz uD ?_;let E0:List (Nat×AV):=[(0,I (p.length:Nat)),(1,I (eW p:Nat)),(2,.pi [tp t but g1 g2]),(3,.po bp 0),(4,.pi [Yv l]),(5,.po bn 0)];refine aU.iN (Y:=MS t×(Nat->Nat)) (λy=>(aZ f (g++(az (eW p+1)).flatMap ch) x0).1= .go/\ ∀i,i≠p.length->y.2 i=aP p i) (λ_=>el [(0,I (p.length:Nat)),(1,I (eW p:Nat)),(2,.pi [tp t but g1 g2]),(3,.po bp 0),(4,.pi [Yv l]),(5,.po bn 0)])
   (λy=>y.1.heap g1 g2++(NT t but g1 g2 l bp bn y.2++W .go (aZ f (g++(az (eW p+1)).flatMap ch) x0).2)) (λ_=>[]) ?_ ?_
  ·refine bJ (X:=Nat×MS t×(Nat->Nat)) (λy=>y.1<=eW p+1/\(aZ f (g++(az y.1).flatMap ch) x0).1= .go/\ ∀i,i≠p.length->y.2.2 i=aP p i)
    (λy=>el [(0,I (p.length:Nat)),(1,I (eW p:Nat)),(2,.pi [tp t but g1 g2]),(3,.po bp 0),(4,.pi [Yv l]),(5,.po bn 0),(40,I (eW p+1:Nat)),(41,I y.1)])
    (λy=>y.2.1.heap g1 g2++(NT t but g1 g2 l bp bn y.2.2++W .go (aZ f (g++(az y.1).flatMap ch) x0).2)) (λ_=>[]) (λy=>eW p+1-y.1) (0,m,aP p) ⟨aF,by simpa using G,λ_ _=>rfl⟩
    (ai (aw aF) eL) ?_
   rintro⟨n,m,a⟩ ⟨hn,o,ha⟩;simp only at hn o ha ⊢;refine aJ zz<|aa (aj zz (λhc=>?_) (λhc=>?_))
   ·simp only[nL]at hc;have d:=nB ch n;refine ak (aa (ay ?_));refine aJ zz<|aa (aa ?_)
    refine cZ zz<|aU.iN (Y:=MS t) (λ_=> ∀j,j<p.length-> ¬(aP p j=n/\vX t j p.length≠0)) (λ_=>el [(0,I (p.length:Nat)),(1,I (eW p:Nat)),(2,.pi [tp t but g1 g2]),(3,.po bp 0),(4,.pi [Yv l]),(5,.po bn 0),(11,I n),(40,I (eW p+1:Nat)),(41,I n)])
     (λm=>m.heap g1 g2++(NT t but g1 g2 l bp bn a++W .go (aZ f (g++(az n).flatMap ch) x0).2)) (λ_=>[]) ?_ ?_
    ·refine bJ (X:=Nat×MS t) (λy=>y.1<=p.length/\ ∀j,j<y.1-> ¬(aP p j=n/\vX t j p.length≠0)) (λy=>el [(0,I (p.length:Nat)),(1,I (eW p:Nat)),(2,.pi [tp t but g1 g2]),(3,.po bp 0),(4,.pi [Yv l]),(5,.po bn 0),(11,I n),(40,I (eW p+1:Nat)),(41,I n),(44,I (p.length:Nat)),(45,I y.1)])
      (λy=>y.2.heap g1 g2++(NT t but g1 g2 l bp bn a++W .go (aZ f (g++(az n).flatMap ch) x0).2)) (λ_=>[]) (λy=>p.length-y.1) (0,m) ⟨aF,by intro j u;simp at u⟩
      eL ?_
     rintro⟨k,m⟩ ⟨hk,J⟩;simp only at hk J ⊢;refine aJ zz<|aa (aj zz (λhd=>?_) (λhd=>?_))
     ·simp only[nL]at hd;have l1:=DW a (k:=k) af;have P:=ha k af;refine ak (aa (ay ?_));refine aJ zz<|aU.G2 (Y:=MS t) (λ_=>True) (λ_=>el [(0,I (p.length:Nat)),(1,I (eW p:Nat)),(2,.pi [tp t but g1 g2]),(3,.po bp 0),(4,.pi [Yv l]),(5,.po bn 0),(11,I n),(40,I (eW p+1:Nat)),(41,I n),(44,I (p.length:Nat)),(45,I k),(59,B (decide (aP p k=n/\vX t k p.length≠0)))])
       (λm=>m.heap g1 g2++(NT t but g1 g2 l bp bn a++W .go (aZ f (g++(az n).flatMap ch) x0).2)) (λ_=>[]) ?_ ?_
      ·by_cases K:aP p k=n
       ·have hz:(((a k:Nat):Int)==((n:Nat):Int))=true:=(by rw[beq_iff_eq,P,K]);refine aA<|xnG [(53,true)] [.RY 2 (I (a k:Nat))] 9 zz zz (by(and_intros);(all_goals first|exact zk _|((first|exact l1|rfl))))<|aY.Vg (congrArg B hz) (cC (Hin:=m.heap g1 g2) (H0:=NT t but g1 g2 l bp bn a++W .go (aZ f (g++(az n).flatMap ch) x0).2) (abG h but g1 g2 (a:=k) (b:=p.length) af af m) zz zz (aW _) zz ?_)
        rintro res N ⟨rfl,m',rfl⟩;refine xdG [(53,true)] [] zz (by(and_intros);(all_goals first|exact zk _|((rfl)))) ?_;refine⟨m',zq,au ⟨zz,zz,zz,zz,zz,zz,zz,zz,zz,zz,zz,?_,zq⟩⟩;show B (vX t k p.length !=0)=B _;refine congrArg B ?_;rw[bt,bne_iff_ne,decide_eq_true_iff];exact⟨λh=>⟨K,h⟩,λh=>h.2⟩
       have hz:(((a k:Nat):Int)==((n:Nat):Int))=false:=(by rw[beq_eq_false_iff_ne,P];omega);refine kD [(53,false)] [.RY 2 (I (a k:Nat))] zz (by(and_intros);(all_goals first|exact zk _|((first|exact l1|rfl)))) ?_;refine⟨m,zq,au ⟨zz,zz,zz,zz,zz,zz,zz,zz,zz,zz,zz,?_,zq⟩⟩;show B false=B _;refine congrArg B ?_;symm;rw[decide_eq_false_iff_not];exact λh=>K h.1
      intro m _;refine aj zz (λM=>?_) (λM=>ak ?_);rw[decide_eq_true_iff]at M;have H:=A n k af M.1 M.2;rw[H,bm]at d;refine aE<|fE zz bL ?_
      refine⟨(n+1,m,a),⟨by simp only;omega,by simp only;rw[d];exact o,ha⟩,by simp only;omega,ai (aw ?_) eL⟩;simp only;rw[d];rw[decide_eq_false_iff_not]at M;refine fE zz bL ?_;refine⟨(k+1,m),⟨by simp only;omega,λj u=>?_⟩,by simp only;omega,eL⟩;simp only at u;by_cases e:j=k;rw[e];exact M;exact J j af
     simp only[nL]at hd;refine aE ⟨m,λj u=>J j af,eL⟩
    intro m H;obtain⟨R,F⟩:=C n H;refine nw [.iL 2] zz ⟨fR,⟨zz,zz,zz,zz,by show 0+((p.length:Nat):Int).toNat*1+1<=6;omega⟩,zq⟩ ?_;have ea:(λj=>if j=p.length then n else a j)=aP (p++[n]):=(by funext j;rw[kQ];by_cases s:j=p.length;rw[zy s,zj af,zy s];rw[zj s,ha j s];by_cases E:j<p.length;rw[zy E];rw[zj E,zj s,nH p E]);refine ag (aw (H':=m.heap g1 g2++(NT t but g1 g2 l bp bn (aP (p++[n]))++W .go (aZ f (g++(az n).flatMap ch) x0).2)) ?_) ?_;show (g1,dp.map m.c)::(g2,dp.map m.k)::(bp,dp.cells _ (bU (oI a) (0+p.length*1) [I (n:Nat)]))::_=_;rw[yp _ _ Q,ea];rfl;obtain⟨r,hr⟩:=lU ch (k:=n+1) (n:=eW p+1) af;have S:yI (p++[n]).length (p++[n]):=(by rw[bx,b4];exact Kc hg af);have w:kJ (jk t) (p++[n])=true:=(by rw[tY,hp,F];rfl);have a3:=uB (f:=f) (b:=ch n) o;have x:=ih (p++[n]) (g++(az n).flatMap ch) (r++T) (by rw[bx,b4];omega) S w (by rw[O,hr,d,<-R];simp only[bl]) o m;rw[<-R]at x;have e1:(((p++[n]).length:Nat):Int)=((p.length:Nat):Int)+1:=(by rw[bx,b4];omega);have e2:((eW (p++[n]):Nat):Int)=max ((eW p:Nat):Int) (((n:Nat):Int)+1):=(by rw[sf];omega);rw[e1,e2]at x;have D:(aZ f (g++(az n).flatMap ch++ch n) x0).1≠.go->aZ f (g++(az (eW p+1)).flatMap ch) x0=aZ f (g++(az n).flatMap ch++ch n) x0:=(by intro v;rw[hr,d,<-bl,<-bl];exact pg v);have U:g++(az (n+1)).flatMap ch=g++(az n).flatMap ch++ch n:=(by rw[d,bl]);rw[<-U]at x D;refine aa (aA ?_);refine mO [.at 3] 7 zz zz ⟨zz,⟨af,af⟩,⟨af,af⟩,zq⟩<|ah (cq (Hin:=m.heap g1 g2++(NT t but g1 g2 l bp bn (aP (p++[n]))++W .go (aZ f (g++(az n).flatMap ch) x0).2)) (H0:=[]) zz (show iM ad 323 _ _ _ from x) zz zz (aW _) aF ?_)
    rintro res N ⟨m',a',rfl,rfl,V⟩;refine gk zz ?_;cases u:(aZ f (g++(az (n+1)).flatMap ch) x0).1.on with
    |false=>
     have v:(aZ f (g++(az (n+1)).flatMap ch) x0).1≠.go:=λe=>(by rw[e]at u;cases u);refine aC zz zz<|ag (aw (bm _))<|aJ zz ?_
     rw[D v];refine ab (XD ?_ (λe=>absurd e v));show B false=B _;rw[u]
    |true=>
     have q:=QB.1 u;refine aH zz zz<|fE zz bL ?_
     refine⟨(n+1,m',a'),⟨by simp only;omega,q,λi hi=>?_⟩,by simp only;omega,ai (aw ?_) eL⟩;simp only;rw[V q,kQ];by_cases e:i<p.length;rw[zy e];rw[zj e,zj hi,nH p e];simp only;rw[q,bm]
   simp only[nL]at hc;have e:n=eW p+1:=af;subst e;exact aE ⟨(m,a),⟨o,ha⟩,eL⟩
  rintro⟨m,a⟩ ⟨o,ha⟩;simp only at o ha ⊢;refine nw [.iL 2] zz ⟨fR,⟨zz,zz,zz,zz,by show 0+((p.length:Nat):Int).toNat*1+1<=6;omega⟩,zq⟩ ?_;have e:(λj=>if j=p.length then 0 else a j)=aP p:=(by funext j;by_cases s:j=p.length;rw[zy s,s,nH p af];rw[zj s,ha j s]);refine ag (aw (H':=m.heap g1 g2++(NT t but g1 g2 l bp bn (aP p)++W .go (aZ f (g++(az (eW p+1)).flatMap ch) x0).2)) ?_) ?_;show (g1,dp.map m.c)::(g2,dp.map m.k)::(bp,dp.cells _ (bU (oI a) (0+p.length*1) [I (0:Nat)]))::_=_;rw[yp _ _ Q,e];rfl;refine aJ zz ?_;exact ab (aba zz o)
end
section
variable {t:be} (h:t.OK) (but:Int) (g1 g2 l:Nat) {X:Type} (f:X->List Nat->J×X) (W:J->X->av) (x0:X)
include h
theorem Ns (hy:YOK t g1 g2 l f W x0 (eG t))(m:MS t):iM ad 322 [Yv l,.pi [tp t but g1 g2]] (m.heap g1 g2++W .go x0)
  (λ_ Ho=> ∃a:MS t,Ho=a.heap g1 g2++W (aZ f (eG t) x0).1 (aZ f (eG t) x0).2):=by
 refine bH ala.ok<|bE [.bY] zz aK<|bE [.aT] zz cI<|bW (t:=3) zz λbp=>bE [.aT] zz cI<|bW (t:=4) zz λbn=>nw [.iL 0] zz ⟨⟨zz,zz,zz,zz,ap 1⟩,zq⟩<|ag (ai (aw (H':=(bn,.cells 266 [aaV t but g1 g2 l bp bn])::(bp,.cells 232 (oI (aP [])))::(m.heap g1 g2++W .go x0)) zz) (cM (H':=m.heap g1 g2++(NT t but g1 g2 l bp bn (aP [])++W .go x0)) ?_)) ?_
 refine(ga _ _ _).trans ?_;rw[<-bl];exact(bA (l₁:=[_,_])).append_right _ |>.trans (by rw[bl])
 refine aA<|mO [.at 3] 1 zz zz cI ?_
 have hs:eG t=ue (jk t) (jI t) t.ms.length []:=rfl;refine ah (cq (Hin:=m.heap g1 g2++(NT t but g1 g2 l bp bn (aP [])++W .go x0)) (H0:=[]) zz
  (show iM ad 323 _ _ _ from W5 h but g1 g2 l bp bn f W x0 hy t.ms.length [] [] [] aF N7 zz (by rw[hs];simp) zz m) zz zz (aW _) aF ?_)
 rintro res b ⟨a,c,rfl,rfl,_⟩;apply bF;rw[List.nil_append,<-hs];exact⟨.inl zz,_,.cG [],a.heap g1 g2++W (aZ f (eG t) x0).1 (aZ f (eG t) x0).2,zz,.many aG zq,⟨a,zz⟩,bD⟩
end
theorem RE (t:be)(but:Int)(g1 g2:Nat):Ev ad 232 [tp t but g1 g2] (.fn (.func 322) [] [.pi [tp t but g1 g2]]):=by refine ar ak1.ok<|bE [.bY] zz aK<|aJ zz<|ab (aD ?_);rfl
theorem B6 (t:be)(but:Int)(g1 g2:Nat):Ev ad 140 [tp t but g1 g2] (.fn (.func 231) [] [.pi [tp t but g1 g2]]):=by refine ar al7.ok<|bE [.bY] zz aK<|aJ zz<|ab (aD ?_);rfl
abbrev X1 (X:Type):=(J×X)×(Nat->Nat)
def fZ {X:Type}(f:X->List Nat->J×X)(a:List Nat->Bool)(y:X1 X)(p:List Nat):J×X1 X:=
 if a p=true then(match (f y.1.2 p).1 with
  | .go=>(.go,((.go,(f y.1.2 p).2),aP p))
  |_=>(.ret,(f y.1.2 p,y.2)))
 else(.go,y)
def Fv (l:List (List Nat))(a:Nat->Nat):Nat->Nat:=match l.getLast? with
 |none=>a
 |some q=>aP q
theorem At {X:Type}(f:X->List Nat->J×X)(b:List Nat->Bool): ∀(L:List (List Nat)) (x:X) (a:Nat->Nat),
  ((aZ f (L.filter b) x).1= .go->aZ (fZ f b) L ((.go,x),a)=(.go,((.go,(aZ f (L.filter b) x).2),Fv (L.filter b) a)))/\
  ((aZ f (L.filter b) x).1≠.go->(aZ (fZ f b) L ((.go,x),a)).1= .ret/\(aZ (fZ f b) L ((.go,x),a)).2.1=aZ f (L.filter b) x)
 |[],x,a=>⟨λ_=>rfl,λh=>absurd zz h⟩
 |p::L,x,a=>by
  by_cases d:b p=true
  ·rw[dk d]
   rcases c:f x p with⟨j,g⟩
   cases j with
   |go=>
    have hs:fZ f b ((.go,x),a) p=(.go,((.go,g),aP p)):=by simp [fZ,d,c]
    simp only[aZ,hs,c]
    obtain⟨i,k⟩:=At f b L g (aP p)
    refine⟨λh=>?_,k⟩
    rw[i h]
    have e:Fv (p::L.filter b) a=Fv (L.filter b) (aP p):=by
     unfold Fv
     rw[List.getLast?_cons]
     cases (L.filter b).getLast? <;>rfl
    rw[e]
   |ret=>
    have hs:fZ f b ((.go,x),a) p=(.ret,((.ret,g),a)):=by simp [fZ,d,c]
    simp only[aZ,hs,c]
    exact⟨(λh=>by cases h),λ_=>⟨zq,zq⟩⟩
   |exit id=>
    have hs:fZ f b ((.go,x),a) p=(.ret,((.exit id,g),a)):=by simp [fZ,d,c]
    simp only[aZ,hs,c]
    exact⟨(λh=>by cases h),λ_=>⟨zq,zq⟩⟩
  ·rw[List.filter_cons_of_neg (by simpa using d)]
   have hs:fZ f b ((.go,x),a) p=(.go,((.go,x),a)):=by simp [fZ,d]
   simp only[aZ,hs]
   exact At f b L x a
theorem yF: ∀n:Nat,(fg n).Nodup
 |0=>by simp [fg]
 |n+1=>by unfold hf;simp only[fg];rw[eu];refine⟨λp _=>?_,?_⟩;unfold pM;rw[e9];refine e0 ?_ List.nodup_range;intro a b c e;exact c (by simpa using e);refine c7 ?_ (yF n);intro p q f g d x hx y hy e;simp only[pM,cy]at hx hy;obtain⟨k,_,rfl⟩:=hx;obtain⟨h,_,rfl⟩:=hy;have hl:p.length=q.length:=(by rw[(jc f).len,(jc g).len]);exact d (fs e hl).1
theorem wB (t:be):eG t=(fg t.ms.length).filter λq=>kJ (jk t) q&&jI t q:=by unfold eG;rw[xr _ _ _ _ zz,<-zo]
theorem If (t:be):(eG t).Nodup:=by rw[wB];exact gX _ (yF _)
theorem nf {t:be}(h:p∈eG t):yI t.ms.length p:=by rw[wB]at h;exact jc (cx.1 h).1
def CH (l:List (List Nat)):List Nat:=l.getLast?.getD []
theorem Zv (l:List (List Nat)):Fv l (aP [])=aP (CH l):=by unfold Fv CH;cases l.getLast? <;>rfl
theorem SI {t:be}(h:t.OK){l:List (List Nat)}(hl: ∀q∈l,yI t.ms.length q): ∃n,Gd n (CH l):=by
 unfold CH;cases e:l.getLast? with
 |none=>exact⟨0,zz,af,λi=>by rw[nH _ aF];omega⟩
 |some q=>exact⟨_,(se h.zf (hl q (ew e))).1⟩
theorem Zs {t:be}(h:t.OK){d k:List (List Nat)}(g:eG t=d++p::k)(a:List Nat->Bool)(hc:1<eW p):uH p≠uH (CH (d.filter a)):=by
 intro e;have hg:=nf (p:=p) (by rw[g];simp);have c:=If t;rw[g,List.nodup_append]at c;unfold CH at e;cases b:(d.filter a).getLast? with
 |none=>
  rw[b]at e;obtain⟨i,hi,he⟩:=hg.on 1 hc;have w:=h.zf;simp at e;obtain⟨l,m,n,o,r,s⟩:=e;have v: ∀j,aP [] j=0:=λj=>rfl;rw[v]at l m n o r s;match i with
  |0=>omega
  |1=>omega
  |2=>omega
  |3=>omega
  |4=>omega
  |5=>omega
  |i+6=>omega
 |some q=>rw[b]at e;have u:q∈d:=(cx.1 (ew b)).1;have f:=nf (t:=t) (p:=q) bD;have:=DP h.zf hg.len f.len e;exact c.2.2 q u p aF this.symm
theorem JQ {d:Nat}{a b:Operand}{env:Env}{q:List Nat}{n:Nat}(ha:bG env a= .agg (cN p))(c:bG env b= .agg (cN q))(f:Gd n p)(g:Gd k q)(e:Bool)(he:e=true↔uH p=uH q):
  ∀(r:Option Nat) (N:Nat) (D:List Nat),Q1 ad r N (.pK false 232 a b) (some d) env H D [(d,B e)]:=by exact λr N D=>aO.pK (m:=5) aG aX aX aX aX (by rw[ha];rfl) (by rw[c];rfl) (O2 f) (O2 g) e he dO
theorem Cs {n:Nat}{q:List Nat}(h:n<=6)(i:p.length=n)(j:q.length=n)(e:cN p=cN q):p=q:=by apply DP h i j;simp at e;obtain⟨a,b,c,d,f,g⟩:=e;simp only[uH,a,b,c,d,f,g]
theorem aah (A:Nat×dp)(u w:av):(u++(A::w)).Perm ((u++w)++[A]):=by rw[bl];exact(bA (l₁:=[A])).append_left u
theorem Uc {X:Type}{f:X->List Nat->J×X}{a:List Nat->Bool}{y:X1 X}(h:a p=false):fZ f a y p=(.go,y):=by unfold fZ;rw[h];rfl
theorem Vh {X:Type}{f:X->List Nat->J×X}{a:List Nat->Bool}{y:X1 X}(h:a p=true)(b:(f y.1.2 p).1= .go):fZ f a y p=(.go,((.go,(f y.1.2 p).2),aP p)):=by unfold fZ;rw[h,zy zz,b]
theorem Nz {X:Type}{f:X->List Nat->J×X}{a:List Nat->Bool}{y:X1 X}(h:a p=true)(b:(f y.1.2 p).1≠.go):fZ f a y p=(.ret,(f y.1.2 p,y.2)):=by grind [fZ]
abbrev gH (t:be)(but:Int):List Nat->Bool:=λp=>rz t p&&yd t (jm but) p
theorem TD (t:be)(but:Int):kM t (jm but)=(eG t).filter (gH t but):=rfl
theorem Wx {t:be}(h:t.OK)(but:Int)(T:0<=but)(U:but<9223372036854775808)(g1 g2 l2:Nat){X:Type}(f:X->List Nat->J×X)(W:J->X->av)(a:X)(hy:YOK t g1 g2 l2 f W a (kM t (jm but)))(m:MS t):
  iM ad 231 [Yv l2,.pi [tp t but g1 g2]] (m.heap g1 g2++W .go a) (λ_ Ho=> ∃w:MS t,Ho=w.heap g1 g2++W (aZ f (kM t (jm but)) a).1 (aZ f (kM t (jm but)) a).2):=by
 rw[TD]at hy ⊢;have eD:=λL=>At f (gH t but) L a (aP []);refine bH amw.ok<|bE [.bY] zz aK<|bE [.aT] zz cI<|bW (t:=3) zz λg=>ag (ai (aw zz) (cM (H':=m.heap g1 g2++((g,.cells 232 (oI (aP [])))::W .go a)) bk.symm))<|bE [.ret (.fn (.func 322) [] [.pi [tp t but g1 g2]])] zz ⟨RE t but g1 g2,zq⟩<|ay<|aU.Cu (HS:=λy=>y.1.heap g1 g2++((g,.cells 232 (oI y.2.2))::W y.2.1.1 y.2.1.2)) (H0:=[]) (m,((.go,a),aP []))
  (λj y=>j=(aZ (fZ f (gH t but)) (eG t) ((.go,a),aP [])).1/\y.2=(aZ (fZ f (gH t but)) (eG t) ((.go,a),aP [])).2)
  (λy args=> ∃d p E,eG t=d++p::E/\(aZ (fZ f (gH t but)) d ((.go,a),aP [])).1= .go/\y.2=(aZ (fZ f (gH t but)) d ((.go,a),aP [])).2/\args=[.agg (cN p),I (eW p:Nat)])
  (λy args j y'=> ∀p,yI t.ms.length p->args=[.agg (cN p),I (eW p:Nat)]->j=(fZ f (gH t but) y.2 p).1/\y'.2=(fZ f (gH t but) y.2 p).2)
  (el [(1,.pi [tp t but g1 g2]),(2,.pi [Yv l2]),(3,.po g 0)]) zz aF ?_ aG ?_ ?_ ?_
 intro u;by_cases h1:u=1;subst h1;exact .inr gJ;by_cases h2:u=2;subst h2;exact .inr gJ;by_cases h3:u=3;subst h3;exact .inr gJ;left;have n1:gM u 1=false:=(by rw[cb];exact λe=>h1 (b6 e));have n2:gM u 2=false:=(by rw[cb];exact λe=>h2 (b6 e));have n3:gM u 3=false:=(by rw[cb];exact λe=>h3 (b6 e));simp [el,n1,n2,n3]
 ·rintro l ⟨m,z⟩ args ⟨d,p,E,D,M,hz,rfl⟩;refine⟨zz,?_⟩;simp only at hz ⊢;have hg:=nf (p:=p) (by rw[D];simp);obtain⟨O,Z⟩:=se h.zf hg;have hs:(aZ f (d.filter (gH t but)) a).1= .go:=bD;have a1:=hy (d.filter (gH t but)) p (E.filter (gH t but));have P:=(eD d).1 hs;rw[Zv]at P;rw[P]at hz;subst hz;simp only;have N:=Zs h D (gH t but);obtain⟨nq,hq⟩:=SI h (l:=d.filter (gH t but)) (λq hq=>nf bD);generalize CH (d.filter (gH t but))=q at*
  generalize hx:(aZ f (d.filter (gH t but)) a).2=x at*
  have o: ∀n,yI t.ms.length n->([.agg (cN p),I (eW p:Nat)]:List AV)=[.agg (cN n),I (eW n:Nat)]->n=p:=by intro n c e;simp only[fu,AV.agg.injEq]at e;exact(Cs h.zf hg.len c.len (by simpa using e.1)).symm
  refine bE [.aT] zz ⟨zz,⟨zz,zz,zz,ap 6⟩,zq⟩<|ag (aq (t:=4) zz)<|cZ zz ?_
  refine⟨zz,?_⟩;refine iF [(1,.pi [tp t but g1 g2]),(2,.pi [Yv l2]),(3,.po g 0),(4,.pi (cN p)),(5,I (eW p:Nat))]<|ay (aa (aa (aA ?_)))
  have V: ∃e:Bool,(e=true↔uH p=uH q):=by by_cases e:uH p=uH q;exact⟨true,by simp [e]⟩;exact⟨false,by simp [e]⟩
  obtain⟨e,he⟩:=V;have H:e=true->decide (((eW p:Nat):Int)>1)=false:=bD;cases e;case' true=>have K:=H zz;refine xnG [(13,true)] [.at 2,.op (B true)] 8 zz zz ⟨zz,JQ zz zz O hq _ he,zz,zz,zz,zq⟩<|aR (au (l:=[(1,.pi [tp t but g1 g2]),(2,.pi [Yv l2]),(3,.po g 0),(4,.pi (cN p)),(5,I (eW p:Nat)),(17,B false)]) ⟨zz,zz,zz,zz,zz,congrArg B K,zq⟩) ?_
  case' false=>refine xnG [(13,false)] [.at 2,.op (B false)] 8 zz zz ⟨zz,JQ zz zz O hq _ he,zz,zz,zz,zq⟩<|Ug [(1,.pi [tp t but g1 g2]),(2,.pi [Yv l2]),(3,.po g 0),(4,.pi (cN p)),(5,I (eW p:Nat)),(17,B false)] ?_
  all_goals
   clear H he
   refine xnG [(17,false)] [] 2 zz zz jA<|aY.Vg zz (cC (Hin:=m.heap g1 g2) (H0:=(g,.cells 232 (oI (aP q)))::W .go x) (Wb h but g1 g2 Z m) zz zz (aW _) zz ?_)
   rintro r1 a2 ⟨rfl,Q,rfl⟩
   have a0:=Zo h but T U g1 g2 p
   have k:gH t but p=(rz t p&&yd t (jm but) p):=rfl
   have fin: ∀env,env 28=B (!gH t but p)->env 1= .pi [tp t but g1 g2]->env 2= .pi [Yv l2]->env 3= .po g 0->env 4= .pi (cN p)->env 5=I (eW p:Nat)->
     bO env (Q.heap g1 g2++((g,.cells 232 (oI (aP q)))::W .go x)) [] (el [(1,.pi [tp t but g1 g2]),(2,.pi [Yv l2]),(3,.po g 0),(4,.pi (cN p)),(5,I (eW p:Nat)),(28,B (!gH t but p))]) (Q.heap g1 g2++((g,.cells 232 (oI (aP q)))::W .go x)) []:=
    λenv R A C e3 e4 e5=>au ⟨A,C,e3,e4,e5,R,zq⟩
   cases S:rz t p
   case' false=>
    refine aY.xq (gs:=[(17,false),(23,true)]) (hs:=[]) (ls':=[]) zz bD<|bF (ag (fin _ (by rw[k,S];rfl) zz zz zz zz zz) ?_)
   case' true=>
    refine aY.xq (gs:=[(17,false),(23,false)]) (hs:=[.ret (B (yd t (jm but) p))]) (ls':=[]) zz (by(repeat' (with_reducible apply cA));(all_goals first|(with_reducible exact trivial)|rfl|exact a0))<|bF (ag (fin _ (by rw[k,S];rfl) zz zz zz zz zz) ?_)
   all_goals
    clear fin S
    refine aj (b:= !gH t but p) zz (λG=>?_) (λG=>ak ?_)
    ·have i:gH t but p=false:=by cases hv:gH t but p with
      |false=>rfl
      |true=>rw[hv]at G;cases G
     refine aE ⟨.go,(Q,((.go,x),aP q)),zz,λn c e=>?_,an _⟩
     rw[o n c e,Uc i]
     exact gJ
    ·have i:gH t but p=true:=by cases hv:gH t but p with
      |true=>rfl
      |false=>rw[hv]at G;cases G
     have s:=a1 (by rw[D,List.filter_append,dk i]) hs Q
     refine aa (aa (aA ?_))
     refine lY 3 zz zz<|aR (cM (aah _ _ _))<|ah (cq (Hin:=Q.heap g1 g2++W .go x) (H0:=[(g,.cells 232 (oI (aP q)))]) zz (show Sr ad (.yield l2) [] _ _ _ from⟨zz,s⟩) zz zz (aW _) zz ?_)
     rintro r2 a3 ⟨m2,rfl,rfl⟩
     refine aR (cM (aah _ _ _).symm) ?_
     cases Y:(f x p).1.on with
     |false=>
      have N:(f x p).1≠.go:=λe=>by rw[e]at Y;cases Y
      refine gk zz<|aC zz zz<|ab ⟨.ret,(m2,(f x p,aP q)),zz,λn c e=>?_,an _⟩
      rw[o n c e,Nz i N]
      exact gJ
     |true=>
      have v:=QB.1 Y
      refine gk zz<|aH zz zz<|hxH [.iL 2] zz ⟨⟨zz,zz,zz,zz,ap 6⟩,zq⟩ ?_
      refine⟨.go,(m2,((.go,(f x p).2),aP p)),zz,λn c e=>?_,?_⟩
      ·rw[o n c e,Vh i v]
       exact gJ
      ·rw[v]
       exact an _
 intro l lo hE;have F:YOK t g1 g2 l (fZ f (gH t but)) (λj y=>(l,lo j)::(g,.cells 232 (oI y.2))::W y.1.1 y.1.2) ((.go,a),aP []) (eG t):=by intro d p E D M m;refine(hE (m,(aZ (fZ f (gH t but)) d ((.go,a),aP [])).2) _ ⟨d,p,E,D,M,zz,zz⟩).perm bk.symm ?_;rintro r Ho ⟨j,y',hZ,rfl,rfl⟩;obtain⟨A,C⟩:=hZ p (nf (by rw[D];simp)) zz;simp only at A C;refine⟨_,bk.symm,y'.1,by rw[A],?_⟩;rw[A,C]
 have hT:=Ns h but g1 g2 l _ _ _ F m;refine hT.perm bk ?_;rintro r Ho ⟨w,rfl⟩;exact⟨_,bk,(aZ (fZ f (gH t but)) (eG t) ((.go,a),aP [])).1,(w,(aZ (fZ f (gH t but)) (eG t) ((.go,a),aP [])).2),gJ,zz⟩
 rintro j ⟨w,y⟩ rD ⟨rfl,s⟩;simp only at s ⊢;subst s;by_cases hs:(aZ f ((eG t).filter (gH t but)) a).1= .go;rw[(eD _).1 hs];refine⟨.inl zz,_,.cG [],w.heap g1 g2++W (aZ f ((eG t).filter (gH t but)) a).1 (aZ f ((eG t).filter (gH t but)) a).2,⟨0,zz,zz⟩,.many aG zq,⟨w,zz⟩,?_⟩;rw[hs,bm];exact ey (an _) (cc _ _);obtain⟨A,C⟩:=(eD _).2 hs;rw[A,C];refine⟨.inr zz,_,.cG [],w.heap g1 g2++W (aZ f ((eG t).filter (gH t but)) a).1 (aZ f ((eG t).filter (gH t but)) a).2,⟨0,zz,zz⟩,.many aG zq,⟨w,zz⟩,?_⟩;rw[bm];exact ey (an _) (cc _ _)
theorem aU.fair {t:be}(h:t.OK){but:Int}(B:0<=but)(C:but<9223372036854775808){g1 g2 N:Nat}{X:Type}(f:X->List Nat->J×X)(U:X->av)(a:X){env:Env}{H0:av}{Q:dl}{fo:Operand}{ps:List Nat}{la P:bZ}(m:MS t)(env0:Env)
  (hx:bG env fo= .fn (.func 231) [] [.pi [tp t but g1 g2]]) (Y:H=m.heap g1 g2++U a++H0) (V: ∀u,env0 u= .any\/(env0 u=env u/\(env u).bT=false)) (G: ∀u∈ps,u<N) (F:ps.length=2)
  (i: ∀l b p g w,kM t (jm but)=b++p::g->(aZ f b a).1= .go->yI t.ms.length p->
    aU ad (some l) N la (λe c H' L=>e= .normal/\aU ad (some l) N P (λe _ H' _=>e=(f (aZ f b a).2 p).1.ex/\ ∃o:MS t,(o.heap g1 g2++U (f (aZ f b a).2 p).2).Sublist H') c H' L) (wD ps [.agg (cN p),I (eW p:Nat)] env0) ((w:MS t).heap g1 g2++U (aZ f b a).2) [])
  (k: ∀(w:MS t) R,Q (aZ f (kM t (jm but)) a).1.ex env ((R,.ri)::(w.heap g1 g2++U (aZ f (kM t (jm but)) a).2++H0)) (R::D)):aU ad none N (.Az fo ps la P) Q env H D:=by
 have d: ∀{p},p∈kM t (jm but)->yI t.ms.length p:=λhp=>nf (cx.1 hp).1;refine aU.Cu (HS:=λy=>y.1.heap g1 g2++U y.2) (m,a)
  (λj y=>j=(aZ f (kM t (jm but)) a).1/\y.2=(aZ f (kM t (jm but)) a).2)
  (λy args=> ∃b p g,kM t (jm but)=b++p::g/\(aZ f b a).1= .go/\y.2=(aZ f b a).2/\args=[.agg (cN p),I (eW p:Nat)])
  (λy args j K=> ∀p,yI t.ms.length p->args=[.agg (cN p),I (eW p:Nat)]->j=(f y.2 p).1/\K.2=(f y.2 p).2)
  env0 hx Y V G ?_ ?_ ?_
 rintro l ⟨m,z⟩ args ⟨b,p,g,q,n,O,rfl⟩;simp only at O ⊢;subst O;have hg:=d (p:=p) (by rw[q];simp);refine⟨by simp [F],(i l b p g m q n hg).mono ?_⟩;rintro e c H' L ⟨rfl,hw⟩;refine⟨zz,hw.mono ?_⟩;rintro e A T S ⟨rfl,o,v⟩;refine⟨_,(o,_),zz,λp' E he=>?_,v⟩;simp at he;rw[Cs h.zf hg.len E.len bD];exact gJ;intro l lo W;have s:YOK t g1 g2 l f (λj y=>(l,lo j)::U y) a (kM t (jm but)):=by intro b p g q n m;refine(W (m,(aZ f b a).2) _ ⟨b,p,g,q,n,zz,zz⟩).perm bk.symm ?_;rintro r Ho ⟨j,K,Z,rfl,rfl⟩;obtain⟨x,M⟩:=Z p (d (by rw[q];simp)) zz;simp only at x M;refine⟨_,bk.symm,K.1,by rw[x],?_⟩;rw[x,M]
 refine(Wx h but B C g1 g2 l f _ a s m).perm bk ?_;rintro r Ho ⟨w,rfl⟩;exact⟨_,bk,_,(w,_),gJ,zz⟩
 grind
theorem td {env:Env}{l:List (Nat×AV)}(h:uX env l)(hl:l.all (λx=> !x.2.bT)=true): ∀u,el l u= .any\/(el l u=env u/\(env u).bT=false):=by
 induction l with
 |nil=>exact λu=>.inl zz
 |cons x l c=>
  obtain⟨t,p⟩:=x;intro u;simp only[List.all_cons,de]at hl;simp only[el];cases e:gM u t with
  |true=>have b:=b6 e;subst b;right;have a:=h.1;refine⟨by rw[a];rfl,?_⟩;rw[a];simpa using hl.1
  |false=>exact c h.2 hl.2 u
theorem I7: ∀L:List (List Nat),aZ (λ(_:Bool) (_:List Nat)=>(J.ret,true)) L false=(if L.isEmpty=true then .go else .ret,!L.isEmpty)
 |[]=>rfl
 |_p::a=>rfl
theorem ZD {t:be}(h:t.OK){but:Int}(c:0<=but)(d:but<9223372036854775808)(g1 g2:Nat)(m:MS t):iM ad 230 [tp t but g1 g2] (m.heap g1 g2) (LR t g1 g2 (B (!(kM t (jm but)).isEmpty))):=by
 refine bH akW.ok<|bE [.aT] zz cI<|bW (t:=2) zz λb2=>aa (aa ?_);refine kn [.ret (.fn (.func 231) [] [.pi [tp t but g1 g2]])] zz ⟨B6 t but g1 g2,zq⟩<|ag (ai (aw zz) (cM (bA (l₁:=[_]))))<|ay ?_;have g:=I7 (kM t (jm but));refine aU.fair h c d (λ_ _=>(.ret,true)) (λx=>[(b2,.cells 4 [B x])]) false (H0:=[]) m (el [(2,.po b2 0)]) zz aF (td cI zz) aG zz ?_ ?_
 intro l e p j b k a hg;have hx:(aZ (λ(_:Bool) (_:List Nat)=>(J.ret,true)) e false).2=false:=by
  rw[I7]at a ⊢;simp only at a ⊢;cases f:e.isEmpty with
  |true=>rfl
  |false=>rw[f]at a;simp at a
 rw[hx];refine ak ⟨zz,?_⟩;refine ay<|nw [.iL 2] zz ⟨⟨zz,zz,zz,zz,ap 1⟩,zq⟩ ?_;exact ab ⟨zz,b,an _⟩
 intro b o;rw[g];cases f:(kM t (jm but)).isEmpty with
 |true=>show aU _ _ _ _ _ _ _ _;refine nw [.iL 3] zz ⟨⟨zz,zz,zz,zz,ap 1⟩,zq⟩<|ab ⟨.inr zz,_,B false,b.heap g1 g2,⟨0,zz,zz⟩,.one (.dY (n:=none) (i:=2) zz zz aX zz),⟨zz,b,zz⟩,?_⟩;exact c8 _ _
 |false=>refine⟨.inr zz,_,B true,b.heap g1 g2,⟨0,zz,zz⟩,.one (.dY (n:=none) (i:=2) (cs:=[B true]) zz zz aX zz),⟨zz,b,zz⟩,?_⟩;exact c8 (b.heap g1 g2) _
theorem IV (t:be)(but:Int):iM ad 229 [.agg t.ao,I but] [] (λr Ho=> ∃g1 g2,r=tp t but g1 g2/\Ho=(MS.new t).heap g1 g2):=by refine bH ahm.ok<|bE [.bY] zz aK<|aa (aA ?_);refine lY 2 zz zz<|ah (aO.vY λg1=>?_);refine ah (aO.vY λg2=>?_);refine VR [.bY] zz aK<|ag (cM (ga _ _ _)) ?_;exact ab ⟨.inr zz,_,tp t but g1 g2,(MS.new t).heap g1 g2,zz,.one (.tmp zz zz),⟨g1,g2,zz,zz⟩,an _⟩
theorem Fs (t:be)(E:t.wf):Ev ad 50 [.agg t.ao] (.cG [I (gV t).1,I (gV t).2.1,I (gV t).2.2]):=by
 have g:=K4 t.gK E.gK;have C:(t.ms.map fw.ao).length=t.ms.length:=a7 _;have D:(t.dN.map sr.ao).length=t.dN.length:=a7 _;have eb:=nE 1 4 [t.tj];have res: ∀{Q:dl} {env:Env} {H:av} {x y r:Int},(∀env H,qn ad [.tmp 2,.tmp 3,.tmp 4] (.cG [I (gV t).1,I (gV t).2.1,I (gV t).2.2]) .ret env H []->Q .ret env H [])->gV t=(x,y,r)->env 2=I x->env 3=I y->env 4=I r->Q .ret env H []:=by intro Q env H x y r A h d z h4;refine A _ _ ?_;rw[h];exact gv (.inr zz) (.many aG ⟨.tmp d zz,.tmp z zz,.tmp h4 zz,zq⟩)
 have a:gV t=if (check t.gK).2.2≠0 then(1,0,(check t.gK).2.2)else if ae 1 4 [t.tj]=true then(2,0,7)
  else if 5<t.ms.length then(3,0,3)
  else if (aB (kq t) t.ms.length 0).2≠0 then(3,(aB (kq t) t.ms.length 0).1,(aB (kq t) t.ms.length 0).2)
  else if 4<t.dN.length then(4,0,3)
  else if (aB (kA t) t.dN.length 0).2≠0 then(4,(aB (kA t) t.dN.length 0).1,(aB (kA t) t.dN.length 0).2)
  else(0,0,0):=rfl
 have f:(check t.gK).2.2=0->t.gK.ss.length<=5:=λh=>(pc.1 h).Xq;have m:ae 1 4 [t.tj]=false->1<=t.tj/\t.tj<=4:=by
  intro h;have q: ¬ae 1 4 [t.tj]=true:=by rw[h];decide
  rw[dc,ho]at q;exact q
 generalize (check t.gK).1=c1 at g;generalize (check t.gK).2.1=w at g;generalize (check t.gK).2.2=p at g a f;generalize ae 1 4 [t.tj]=o at eb a m;refine ar S50.ok<|bE [.bY] zz aK<|aa (aa ?_);refine kn [.ret (.cG [I c1,I w,I p])] zz ⟨g,zq⟩<|aa<|cZ zz ?_;by_cases h:p=0
 case neg=>rw[zy h]at a;refine aj (b:=true) (by exact congrArg B bD) (λ_=>?_) (λh=>by cases h);apply aJ zz;exact ab (res (λ_ _ h=>h) a zz zz zz)
 rw[zj (by simp [h])]at a;refine aj (b:=false) (by exact congrArg B (by rw[h];rfl)) (λh=>by cases h) (λ_=>ak ?_);refine aU.pD<|bE [.bY,.ret (B o)] zz (by(repeat' (with_reducible apply cA));(all_goals first|exact zk _|((first|exact eb)))) ?_;cases o with
 |true=>rw[zy zz]at a;refine aC zz zz<|aJ zz ?_;exact ab (res (λ_ _ h=>h) a zz zz zz)
 |false=>
 rw[zj aG]at a;refine dm zz zz<|aJ zz ?_;by_cases s:5<t.ms.length
 rw[zy s]at a;refine aj (by exact congrArg B (decide_eq_true af)) (λ_=>?_) (λh=>by cases h);apply aJ zz;exact ab (res (λ_ _ h=>h) a zz zz zz);rw[zj s]at a;refine aj (by exact congrArg B (decide_eq_false af)) (λh=>by cases h) (λ_=>ak ?_);have n:t.gK.ss.length<=1000:=bD;have e:t.ms.length<=1000:=af;have c: -9223372036854775807<=t.tj/\t.tj<=9223372036854775807:=bD;have j:=IZ t.ms 107 [.pi t.ao] (kq t) (λi x hx=>by
  have:=RI t x i c.1 c.2 e n
  rw[show kq t i=nX t x i by unfold kq;rw[hx]]
  exact this)
 have k:=KR t.dN 110 [.pi t.ao] (kA t) (λi x hx=>by
  have:=Re t x i e
  rw[show kA t i=DE t x by unfold kA;rw[hx]]
  exact this)
 generalize (aB (kq t) t.ms.length 0).1=G at j a;generalize (aB (kq t) t.ms.length 0).2=v at j a;generalize (aB (kA t) t.dN.length 0).1=F at k a;generalize (aB (kA t) t.dN.length 0).2=u at k a;refine aa (aa ?_);refine kn [.ret (.cG [I G,I v])] zz ⟨j,zq⟩<|aa<|cZ zz ?_;by_cases l:v=0
 case neg=>rw[zy l]at a;refine aj (b:=true) (by show B _=B _;exact congrArg B bD) (λ_=>?_) (λh=>by cases h);refine aJ zz ?_;exact ab (res (λ_ _ h=>h) a zz zz zz)
 rw[zj (by simp [l])]at a;refine aj (b:=false) (by show B _=B _;exact congrArg B (by rw[l];rfl)) (λh=>by cases h) (λ_=>ak ?_);refine aa (aa ?_);refine cZ zz ?_;by_cases h4:4<t.dN.length;rw[zy h4]at a;refine aj (b:=true) (by show B _=B _;exact congrArg B (decide_eq_true af)) (λ_=>?_) (λh=>by cases h);refine aJ zz ?_;exact ab (res (λ_ _ h=>h) a zz zz zz);rw[zj h4]at a;refine aj (b:=false) (by show B _=B _;exact congrArg B (decide_eq_false af)) (λh=>by cases h) (λ_=>ak ?_);refine bE [.ret (.cG [I F,I u])] zz ⟨k,zq⟩<|aa (aa ?_);refine cZ zz ?_;by_cases d:u=0
 case neg=>rw[zy d]at a;refine aj (b:=true) (by show B _=B _;exact congrArg B bD) (λ_=>?_) (λh=>by cases h);refine aJ zz ?_;exact ab (res (λ_ _ h=>h) a zz zz zz)
 rw[zj (by simp [d])]at a;refine aj (b:=false) (by show B _=B _;exact congrArg B (by rw[d];rfl)) (λh=>by cases h) (λ_=>ak ?_);refine aJ zz ?_;exact ab (res (λ_ _ h=>h) a zz zz zz)
theorem LN {lo hi:Int}{l:List Int}:ae lo hi l=false↔ ∀n∈l,lo<=n/\n<=hi:=by grind [ae,only]
theorem zE {t:be}{x:fw}{i:Nat}:nX t x i=0↔(0<=x.sp/\x.sp<t.gK.ss.length)/\(-1<=x.v/\x.v<t.tj)/\(-1<=x.eY/\x.eY<t.ms.length)/\0<=x.lo/\x.lo<=x.hi/\x.hi<=199/\x.eY≠i:=by grind [only,nX,ae]
theorem FL {t:be}:DE t x=0↔0<=x.a/\x.a<t.ms.length/\0<=x.b/\x.b<t.ms.length/\x.a≠x.b:=by grind [only,DE,ae]
abbrev kY (t:be):Int:=(gV t).2.2
theorem jP {t:be}(E:t.wf):kY t=0↔t.OK/\t.ms.length<=5:=by
 have e:=LN (lo:=1) (hi:=4) (l:=[t.tj]);simp at e;have q:=eN (f:=kq t) (m:=t.ms.length);have r:=eN (f:=kA t) (m:=t.dN.length);have a:(∀j,j<t.ms.length->kq t j=0)↔ ∀(i:Nat) (x:fw),t.ms[i]? =some x->nX t x i=0:=by constructor;intro h i x hx;have:=h i (a6.1 hx).1;unfold kq at this;rw[hx]at this;exact this;intro h j k;obtain⟨x,hx⟩:=bq k;unfold kq;rw[hx];exact h j x hx
 have b:(∀j,j<t.dN.length->kA t j=0)↔ ∀x∈t.dN,DE t x=0:=by constructor;intro h x hx;obtain⟨i,hi⟩:=cd hx;have:=h i (a6.1 hi).1;unfold kA at this;rw[hi]at this;exact this;intro h j k;obtain⟨x,hx⟩:=bq k;unfold kA;rw[hx];exact h x (bs hx)
 unfold kY gV;by_cases c:(check t.gK).2.2=0;case neg=>rw[zy c];exact⟨λh=>absurd h c,λh=>absurd (pc.2 h.1.gK) c⟩
 rw[zj (by simp [c])];cases n:ae 1 4 [t.tj]with
 |true=>rw[zy zz];rw[n]at e;exact⟨λh=>by simp at h,λh=>by have:=e.2 ⟨h.1.Zp,h.1.Rp⟩;cases this⟩
 |false=>
 rw[zj aG];have s:=e.1 n;by_cases D:5<t.ms.length;grind;rw[zj D];by_cases h4:(aB (kq t) t.ms.length 0).2=0;case neg=>rw[zy h4];refine⟨λh=>absurd h h4,λh=>absurd (q.2 (a.2 λi x hx=>zE.2 ?_)) h4⟩;have o:=h.1.R2 i x hx;exact⟨⟨o.Pf,o.Oc⟩,⟨o.v0,o.v1⟩,⟨o.zL,o.zl⟩,o.Xp,o.lh,o.MR,o.own⟩
 rw[zj (by simp [h4])];by_cases p:4<t.dN.length;rw[zy p];exact⟨λh=>by simp at h,λh=>by have:=h.1.FJ;omega⟩;rw[zj p];by_cases d:(aB (kA t) t.dN.length 0).2=0;case neg=>rw[zy d];exact⟨λh=>absurd h d,λh=>absurd (r.2 (b.2 λx hx=>FL.2 (h.1.tie x hx))) d⟩
 rw[zj (by simp [d])];refine⟨λ_=>⟨?_,af⟩,λ_=>rfl⟩;refine⟨pc.1 c,E.gK,s.1,s.2,af,λi x hx=>?_,af,λx hx=>FL.1 (b.1 (r.1 d) x hx)⟩;obtain⟨⟨a1,u⟩,⟨v,w⟩,⟨y,z⟩,A,B,C,g⟩:=zE.1 (a.1 (q.1 h4) i x hx);exact⟨a1,u,v,w,y,z,A,B,C,g⟩
theorem G1:jm 0=λ_=>false:=by funext i;unfold jm da;rw[Int.zero_ediv];rfl
abbrev iR:Nat->Bool:=λ_=>false
def ja (t:be)(e:Int):Int:=if e≠0 then e else if (db t iR).isEmpty=true then 8 else 0
def uv (t:be)(a:Int):Int:=if kY t≠0 then kY t else a
theorem nt {t:be}{e:Int}:ja t e=0↔e=0/\db t iR≠[]:=by unfold ja;by_cases h:e=0;grind;grind
theorem Gv {t:be}{e:Int}:uv t e=0↔kY t=0/\e=0:=by unfold uv;by_cases h:kY t=0;grind;grind
theorem Of:Ev ad 139 [] (I 0):=by refine ar ajj.ok<|aJ zz<|aJ zz<|ab (aD ?_);rfl
theorem XL (t:be)(x:fw)(b:Nat)(e: -9223372036854775807<=t.tj)(f:t.tj<=9223372036854775807)(c:t.ms.length<=1000)(d:t.gK.ss.length<=1000):
  iM ad 352 [.po b 0,.pi x.ao] [(b,.cells 33 t.ao)] (λr Ho=>r=I (nX t x t.ms.length)/\Ho=[(b,.cells 33 t.ao)]):=by
 have a:(t.ms.map fw.ao).length=t.ms.length:=a7 _;have g:=Dk t x (((t.ms.map fw.ao).length:Nat):Int) e f c d;have h:nX t x t.ms.length=nX t x (((t.ms.map fw.ao).length:Nat):Int):=by rw[a]
 rw[h];refine bH ak9.ok<|aJ zz<|bE [.at 0,.at 0,.ret (I (nX t x (((t.ms.map fw.ao).length:Nat):Int)))] zz (by(repeat' (with_reducible apply cA));(all_goals first|exact zk _|((first|rfl|exact g)))) ?_
 exact ab ⟨.inr zz,_,_,_,zz,.one (.tmp zz zz),gJ,an _⟩
abbrev X2:AV:=.v (.pointer none)
def adX (t:be)(a:Int)(b:av)(r:AV)(Ho:av):Prop:=
 (ja t (uv t a)=0/\ ∃(g1 g2:Nat) (m:MS t),r= .cG [tp t 0 g1 g2,I 0]/\Ho=m.heap g1 g2++b)\/(ja t (uv t a)≠0/\r= .cG [X2,I (ja t (uv t a))]/\Ho=b)
theorem ab4 {t:be}{b:Int}{a:av}{env:Env}{x:Int}(he:ja t (uv t b)=x)(d:x≠0)(h4:env 4=X2)(c:env 5=I x)(hs:a.Sublist H):yH ad [.tmp 4,.tmp 5] (adX t b a) .ret env H []:=
 ⟨.inr zz,_,.cG [X2,I x],a,zz,.many aG (show fp (jU ad env _) [.tmp 4,.tmp 5] [X2,I x]from⟨.tmp h4 zz,.tmp c zz,zq⟩),.inr ⟨bD,by rw[he],zz⟩,hs⟩
theorem zu (t:be)(m:t.wf)(g:Nat)(a:List AV)(d:Int)(c:av)(u:kY t=0->iM ad g a c (λr Ho=>r=I d/\Ho=c)):
  iM ad 138 [.agg t.ao,.fn (.func g) [] a] c (adX t d c):=by
 have i:=Fs t m;have w:=jP m;have v:kY t=(gV t).2.2:=rfl;refine bH amg.ok<|bE [.bY] zz aK<|aa (aa ?_)
 refine kn [.ret (.cG [I (gV t).1,I (gV t).2.1,I (gV t).2.2])] zz ⟨i,zq⟩<|aa<|cZ zz ?_
 by_cases e:kY t=0;case neg=>refine aj (b:=true) (by exact congrArg B bD) (λ_=>?_) (λh=>by cases h);apply aJ zz;exact ab (ab4 (by unfold ja uv;rw[zy e,zy e]) e zz zz (an _))
 refine aj (b:=false) (by exact congrArg B bD) (λh=>by cases h) (λ_=>ak ?_);refine aa (aa (aA ?_));refine lY 1 zz zz<|ah (cq (H0:=[]) zz (show iM ad g a _ _ from u e) zz zz (aW _) aF ?_)
 rintro x o ⟨rfl,k⟩;rw[k,bm];refine gk zz<|aa<|cZ zz ?_;by_cases j:d=0;case neg=>
  refine aj (b:=true) (by exact congrArg B bD) (λ_=>?_) (λh=>by cases h);apply aJ zz;have he:uv t d=d:=by unfold uv;rw[zj (by simp [e])]
  exact ab (ab4 (by unfold ja;rw[he,zy j]) j zz zz (an _))
 refine aj (b:=false) (by show B _=B _;exact congrArg B bD) (λh=>by cases h) (λ_=>ak ?_);have f:=(w.1 e).1;have he:uv t d=0:=Gv.2 ⟨e,j⟩;refine aa (aA ?_);refine lY 1 zz zz<|ah (cC (Hin:=[]) (H0:=c) (IV t 0) zz zz (aW _) zz ?_)
 rintro y p ⟨g1,g2,rfl,rfl⟩;refine gk zz<|aa (aa (aA ?_));refine lY 1 zz zz<|ah (cC (Hin:=(MS.new t).heap g1 g2) (H0:=c) (ZD f af af g1 g2 (MS.new t)) zz zz (aW _) zz ?_);rintro z q ⟨rfl,n,rfl⟩;rw[G1,nR f];refine gk zz ?_;cases s:(db t iR).isEmpty with
 |true=>
  refine aC zz zz<|aJ zz ?_
  exact ab (ab4 (by unfold ja;rw[zj (by simp [he]),zy s]) aG zz zz (List.sublist_append_right _ _))
 |false=>
  refine aH zz zz<|aJ zz ?_
  have l:ja t (uv t d)=0:=nt.2 ⟨he,bD⟩;exact ab ⟨.inr zz,_,.cG [tp t 0 g1 g2,I 0],n.heap g1 g2++c,zz,.many aG (show fp (jU ad _ _) [.tmp 4,.tmp 5] [tp t 0 g1 g2,I 0]from⟨.tmp zz zz,.tmp zz zz,zq⟩),.inl ⟨l,g1,g2,n,zz,zz⟩,an _⟩
theorem B4 {α X:Type}{f:X->α->J×X}(h: ∀x p,(f x p).1= .go): ∀(L:List α) (x:X),aZ f L x=(.go,L.foldl (λx p=>(f x p).2) x)
 |[],_=>rfl
 |p::L,x=>by have e:f x p=(.go,(f x p).2):=Prod.ext (h x p) zz;simp only[aZ,fv];rw[e];exact B4 h L _
theorem pB: ∀{n:Nat},n<=6->(fg n).length<=1000:=by
 intro n h;have: ∀k:Fin 7,(fg k.1).length<=1000:=by decide+kernel
 exact this ⟨n,af⟩
theorem Q4 {t:be}(h:t.OK)(but:Nat->Bool):(kM t but).length<=1000:=by rw[nR h];exact Nat.le_trans (List.length_filter_le _ _) (pB h.zf)
theorem vO (t:be):uv t 0=kY t:=by unfold uv;by_cases h:kY t=0;grind;rw[zy h]
def gP (t:be):List Int×Int×Int:=
 if ja t (kY t)=0 then(dt ((db t iR).headD []),(db t iR).length,0)else([],0,ja t (kY t))
abbrev DZ (x:List Int×Nat)(p:List Nat):J×(List Int×Nat):=(.go,(if x.2=0 then dt p else x.1,x.2+1))
theorem DY (L:List (List Nat)):aZ DZ L ([],0)=(.go,(dt (L.headD []),L.length)):=by
 rw[B4 (λ_ _=>rfl)];have key: ∀(L:List (List Nat)) (l:List Int) (k:Nat),0<k->L.foldl (λx p=>(DZ x p).2) (l,k)=(l,k+L.length):=by
  intro L;induction L with
  |nil=>grind
  |cons p L a=>intro l k hk;simp only[fv];rw[zj af,a _ _ af];simp only[ff];congr 1;omega
 cases L with
 |nil=>rfl
 |cons p L=>grind
theorem RU:fK (.v (.slice none 0 0)) (ints []):=by intro S v h;simp only[bf]at h ⊢;exact .inl ⟨⟨none,h⟩,zz⟩
theorem Rc {n:Nat}(h:n<=6)(hl:p.length=n):(kI (chunk 1 6 (cN p)) none none).take n=(dt p).map λx=>[I x]:=by
 match p,hl with
 |[],e=>subst e;rfl
 |[a],e=>subst e;rfl
 |[a,b],e=>subst e;rfl
 |[a,b,c],e=>subst e;rfl
 |[a,b,c,d],e=>subst e;rfl
 |[a,b,c,d,x],e=>subst e;rfl
 |[a,b,c,d,x,y],e=>subst e;rfl
 |a::b::c::d::x::y::z::l,e=>grind
theorem E3 (t:be)(w:t.wf):Ev ad 65 [.agg t.ao] (.cG [ints (gP t).1,I (gP t).2.1,I (gP t).2.2]):=by
 refine ar S65.ok<|bE [.bY,.aT,.aT] zz ⟨⟨zz,zz⟩,zz,zz,zq⟩<|bW (t:=2) zz λb2=>bW (t:=3) zz λd=>aa (aA ?_);refine lY 1 zz zz<|ah (cC (zu t w 139 [] 0 [] (λ_=>(Of.toR []))) zz zz (aW _) zz ?_);rintro E y (⟨c,g1,g2,m,rfl,rfl⟩|⟨c,rfl,rfl⟩)
 case inr=>
  rw[vO]at c ⊢;have q:gP t=([],0,ja t (kY t)):=by unfold gP;rw[zj c]
  rw[q];refine gk zz<|aa (aa ?_);refine cZ zz<|aj (b:=true) (by exact congrArg B bD) (λ_=>?_) (λh=>by cases h);refine nw [.iL 1,.iL 0] zz ⟨⟨zz,zz,zz,zz,ap 1⟩,⟨zz,zz,zz,zz,ap 1⟩,zq⟩<|ag (cW (j:=1) [ints []] zz ⟨iP 1,zq⟩) ?_
  exact ab ⟨.inr zz,_,zz,.many aG (show fp (jU ad _ _) [.cell 2 71,.cell 3 3,.tmp 4] [ints [],I 0,I (ja t (kY t))]from
   ⟨.dY (n:=none) (i:=1) (cs:=[ints []]) zz zz aX zz,.dY (n:=none) (i:=0) (cs:=[I 0]) zz zz aX zz,.tmp zz zz,zq⟩)⟩
 rw[vO]at c;have a:=((jP w).1 (nt.1 c).1).1;have u:=a.zf;have q:gP t=(dt ((db t iR).headD []),(((db t iR).length:Nat):Int),0):=by unfold gP;rw[zy c]
 have s:kM t (jm 0)=db t iR:=by rw[G1,nR a]
 have f:=Q4 a (jm 0);have g:(t.ms.map fw.ao).length=t.ms.length:=a7 _;rw[q];refine gk zz<|aa (aa ?_);refine cZ zz<|aH zz zz<|ag (ai (aw (H':=m.heap g1 g2++[(d,.cells 3 [I 0]),(b2,.cells 71 [.v (.slice none 0 0)])]) aF) (cW (j:=3) (bo:=b2) (To:=71) (cs:=[.v (.slice none 0 0)]) [ints []] zz ⟨RU,zq⟩))<|aa (aa ?_);refine kn [.ret (.fn (.func 231) [] [.pi [tp t 0 g1 g2]])] zz ⟨B6 t 0 g1 g2,zq⟩<|ay<|aU.fair a (but:=0) af af (X:=List Int×Nat) DZ (λx=>[(d,.cells 3 [I x.2]),(b2,.cells 71 [ints x.1])]) ([],0) (H0:=[]) m (el [(1,.pi t.ao),(2,.po b2 0),(3,.po d 0)]) zz aF (td xH zz) aG zz ?_ ?_
 intro l o p C m A _ hg;have hk:(aZ DZ o ([],0)).2.2<1000:=by rw[DY];rw[A,bx,ff]at f;show o.length<1000;omega
 generalize (aZ DZ o ([],0)).2=x at hk;obtain⟨ls,k⟩:=x;simp only at hk;refine kn [.aT] zz ⟨zz,⟨zz,zz,zz,ap 6⟩,zq⟩ ?_;refine⟨zz,ag (aq (t:=6) zz) ?_⟩;refine iF [(1,.pi t.ao),(2,.po b2 0),(3,.po d 0),(6,.pi (cN p))]<|ay<|nw [.at 2,.iL 2] zz ⟨zz,fR,⟨zz,zz,zz,zz,ap 1⟩,zq⟩<|bE [.at 2] zz cI ?_;by_cases e:k=0
 subst e;refine aC zz zz<|aa (aA ?_);refine lY 3 zz zz<|ah (aO.Zf t.ms.length t.ms.length zz zz (by rw[g]) (by rw[g]) (ap _) af af zz λba=>?_);refine aY.hd (gs:=[]) (hs:=[.iL 4]) zz ⟨⟨zz,zz,zz,zz,ap 1⟩,zq⟩<|zg [] [.at 4] zz ⟨zz,⟨⟨zq,zq⟩,⟨ap 6,aG⟩,aG,aG⟩,zq⟩<|ah (aO.Ot (i:=0) zz zz zz ?_);have r:(kI (chunk 1 6 (cN p)) none none).take (min (kI (chunk 1 6 (cN p)) none none).length (b7 t.ms.length ([ec .i64 0].map AV.v)).length)++(b7 t.ms.length ([ec .i64 0].map AV.v)).drop (min (kI (chunk 1 6 (cN p)) none none).length (b7 t.ms.length ([ec .i64 0].map AV.v)).length)=(dt p).map λx=>[I x]:=by have z:(kI (chunk 1 6 (cN p)) none none).length=6:=rfl;rw[et,z,Nat.min_eq_right u,Rc u hg.len,List.drop_eq_nil_of_le aF,bm]
 refine aR (ai (aw (H':=(ba,.arr 3 1 t.ms.length ((dt p).map λx=>[I x]))::(m.heap g1 g2++[(d,.cells 3 [I 1]),(b2,.cells 71 [.so ba (b7 t.ms.length ([ec .i64 0].map AV.v)).length t.ms.length])])) ?_)
  (bO.nU (i:=0) (j:=3) (b:=ba) (T:=3) (kk:=1) (cap:=t.ms.length) (bo:=b2) (To:=71) (es:=(dt p).map λx=>[I x]) (cs:=[.so ba (b7 t.ms.length ([ec .i64 0].map AV.v)).length t.ms.length]) [ints (dt p)] zz zz ⟨.inr ⟨?_,zz⟩,zq⟩)) (bF ⟨zz,m,an _⟩)
 rw[<-r];rfl;rw[a7,rV,hg.len,et]
 refine aj (b:=false) (by show B _=B _;refine congrArg B ?_;rw[beq_eq_false_iff_ne];omega) (λh=>by cases h) (λ_=>ak ?_);refine⟨zz,m,?_⟩;simp only[zj e];exact an _
 intro D F;rw[s,DY];show aU _ _ _ _ _ _ _ _;refine aa (aU.WG (gs:=[]) (hs:=[.at 4,.at 3]) [2,30] 4 zx zz aX jA zz zz zz zz zz zz (ap 1) zz ?_);refine aY.hd (gs:=[]) (hs:=[.iL 3]) zz ⟨⟨zz,zz,zz,zz,ap 1⟩,zq⟩ ?_;exact ab ⟨.inr zz,_,⟨0,zz,zz⟩,.many aG (show fp (jU ad _ _) [.cell 2 71,.cell 3 3,.tmp 4] [ints (dt ((db t iR).headD [])),I ((db t iR).length:Nat),I 0]from
  ⟨.dY (n:=none) (i:=3) (cs:=[ints (dt ((db t iR).headD []))]) zz zz aX zz,.dY (n:=none) (i:=2) (cs:=[I ((db t iR).length:Nat)]) zz zz aX zz,.tmp zz zz,zq⟩)⟩
def rB (s x:Sp)(first:Bool):Sp:=if first=true then x else(min s.1 x.1,max s.2 x.2)
theorem UC (s x:Sp)(first:Bool):Ev ad 364 [.agg (jr s),.agg (jr x),B first] (.agg (jr (rB s x first))):=by
 refine ar ah7.ok<|bE [.bY,.bY,.aT] zz ⟨⟨zz,zz⟩,⟨zz,zz⟩,zz,zq⟩<|aa (aa ?_);apply cZ zz;cases first with
 |true=>refine aC zz zz<|Ik zz ⟨⟨zz,zz,zz,ap 2⟩,zq⟩<|ag (aq zz) (ab ⟨.inr zz,[],zz,.one (.nP (n:=some 2) (bN _ _ _) aX zz)⟩)
 |false=>refine aH zz zz<|Ik zz ⟨⟨zz,zz,zz,ap 2⟩,zq⟩<|ag (aq zz) (ab ⟨.inr zz,[],zz,.one (.nP (n:=some 2) (bN _ _ _) aX zz)⟩)
def Bo (g:List Nat->Sp)(l:List (List Nat)):Sp:=(l.foldl (λ(x:Sp×Bool) p=>(rB x.1 (g p) x.2,false)) ((0,0),true)).1
abbrev Pw (g:List Nat->Sp)(x:Sp×Bool)(p:List Nat):J×(Sp×Bool):=(.go,(rB x.1 (g p) x.2,false))
theorem Qe (g:List Nat->Sp)(L:List (List Nat)):(aZ (Pw g) L ((0,0),true)).1= .go/\(aZ (Pw g) L ((0,0),true)).2.1=Bo g L:=by rw[B4 (λ_ _=>rfl)];exact gJ
def fQ (t:be):Sp×Int:=if ja t (kY t)=0 then(Bo (λp=>(((eW p:Nat):Int),((eW p:Nat):Int))) (db t iR),0)else((0,0),ja t (kY t))
theorem IG (t:be)(k:t.wf):Ev ad 272 [.agg t.ao] (.cG [.agg (jr (fQ t).1),I (fQ t).2]):=by
 refine ar ajV.ok<|bE [.bY,.aT] zz ⟨⟨zz,zz⟩,zz,zq⟩<|aa (aA ?_);refine lY 1 zz zz<|ah (cC (zu t k 139 [] 0 [] (λ_=>(Of.toR []))) zz zz (aW _) zz ?_);rintro z o (⟨a,g1,g2,m,rfl,rfl⟩|⟨a,rfl,rfl⟩)
 case inr=>
  rw[vO]at a ⊢;have e:fQ t=((0,0),ja t (kY t)):=by unfold fQ;rw[zj a]
  rw[e];refine gk zz<|aa (aa ?_);refine cZ zz<|aj (b:=true) (by exact congrArg B bD) (λ_=>?_) (λh=>by cases h);refine Ik zz ⟨⟨zz,zz,zz,ap 2⟩,zq⟩<|ag (aq zz) (ab ⟨.inr zz,[],zz,.many aG (show fp (jU ad _ _) [.cell 2 128,.tmp 3] [.agg (jr (0,0)),I (ja t (kY t))]from⟨.nP (n:=some 2) (bN _ _ _) aX zz,.tmp zz zz,zq⟩)⟩)
 rw[vO]at a;have d:=((jP k).1 (nt.1 a).1).1;have e:fQ t=(Bo (λp=>(((eW p:Nat):Int),((eW p:Nat):Int))) (db t iR),0):=by unfold fQ;rw[zy a]
 have f:kM t (jm 0)=db t iR:=by rw[G1,nR d]
 rw[e];refine gk zz<|aa (aa ?_);refine cZ zz<|aH zz zz<|bE [.aT] zz ⟨zz,⟨zz,zz,zz,ap 1⟩,zq⟩<|bW (t:=2) zz λb2=>bW (t:=5) zz λb5=>ag (ai (aw (H':=[(b5,.cells 4 [B true]),(b2,.cells 128 (jr (0,0)))]++m.heap g1 g2) zz) (cM (H':=m.heap g1 g2++[(b5,.cells 4 [B true]),(b2,.cells 128 (jr (0,0)))]) bA))<|aa (aa ?_);refine kn [.ret (.fn (.func 231) [] [.pi [tp t 0 g1 g2]])] zz ⟨B6 t 0 g1 g2,zq⟩<|ay<|aU.fair d (but:=0) af af (X:=Sp×Bool) (Pw λp=>(((eW p:Nat):Int),((eW p:Nat):Int))) (λx=>[(b5,.cells 4 [B x.2]),(b2,.cells 128 (jr x.1))]) ((0,0),true) (H0:=[]) m (el [(2,.po b2 0),(5,.po b5 0)]) zz aF (td jA zz) aG zz ?_ ?_
 intro l q p v m w _ hg;generalize (aZ (Pw λp=>(((eW p:Nat):Int),((eW p:Nat):Int))) q ((0,0),true)).2=x;obtain⟨s,c⟩:=x;refine cZ zz ?_;refine⟨zz,?_⟩;refine iF [(2,.po b2 0),(5,.po b5 0),(7,I (eW p:Nat))]<|ay ?_;have g:=UC s (((eW p:Nat):Int),((eW p:Nat):Int)) c;refine nw [.at 3,.at 2,.ret (.agg (jr (rB s (((eW p:Nat):Int),((eW p:Nat):Int)) c))),.iL 3] zz ⟨zz,zz,g,⟨zz,zz,zz,zz,ap 2⟩,zq⟩<|hxH [.iL 2] zz ⟨⟨zz,zz,zz,zz,ap 1⟩,zq⟩ ?_;exact⟨zz,m,an _⟩
 intro y A;obtain⟨r,u⟩:=Qe (λp=>(((eW p:Nat):Int),((eW p:Nat):Int))) (db t iR);rw[f,r];simp only[u];show aU _ _ _ _ _ _ _ _;refine nw [.at 4,.iL 4] zz ⟨zz,⟨zz,zz,zz,zz,ap 2⟩,zq⟩ ?_;generalize Bo (λp=>(((eW p:Nat):Int),((eW p:Nat):Int))) (db t iR)=j;exact ab ⟨.inr zz,_,⟨0,zz,zz⟩,.many aG (show fp (jU ad _ _) [.cell 2 128,.tmp 3] [.agg (jr j),I 0]from⟨.dY (n:=some 2) (i:=3) (cs:=jr j) zz zz aX zz,.tmp zz zz,zq⟩)⟩
theorem Wj (l:List fw)(hl:l.length<=1000):Ev ad 353 [oF l] (.aT 133 5 (l.map fw.ao)):=by
 refine ar aho.ok<|aJ zz<|aa (aa (aA ?_));refine lY 1 zz zz<|ah (aO.aaW Tryz.underlying30 aX zz zz λb a=>?_);apply bF;cases b with
 |true=>have he:=a zz;refine aC zz zz<|aJ zz<|ag (bO.mM (t:=2) 133 5 zz) (ab (gv (.inr zz) (.aT ?_ zz)));rw[he];rfl
 |false=>refine aH zz zz<|bE [.aT] zz ⟨zz,⟨by simp only[a7,chunk,fx];omega,by simp only[a7,chunk,fx];omega⟩,zq⟩<|ab (gv (.inr zz) (.aT ?_ zz));rfl
end Go.Px
