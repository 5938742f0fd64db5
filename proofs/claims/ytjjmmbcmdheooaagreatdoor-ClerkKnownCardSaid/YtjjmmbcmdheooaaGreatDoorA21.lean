/- Part 21 of the proof of a statement of this seat (a logic of pure contracts; the functions; their contracts). No conditions. -/
import Derived.Test.YtjjmmbcmdheooaaGreatDoorA15
import Derived.Lib.Builder
import Derived.Lib.Walk
import Derived.Laws.Externs
open And renaming intro->eM
open Array renaming getElem?_modify->bI
open Bool renaming eq_iff_iff->bs,false_eq_true->cc
open ByteArray renaming mk->cr,size->ea,data_append->et,ext->eP
open Go.Extern.AbiNoEscape renaming same->en
open Go.IntKind renaming i64->eu
open Go.Lit renaming int->b8
open Go.Oper renaming upon_value->bA
open Go.Proofs.Tryz renaming prog->ad,underlying96->c7,func93->dk,ntmps93->er
open Go.Result renaming andThen->b7
open Go.Utf8 renaming decode->dl
open Go.World renaming setCell->cb
open Int renaming toNat_natCast->cA
open List renaming length_map->an,mem_of_getElem?->ap,map_append->az,range->a6,getElem?_eq_some_iff->a7,length_append->a8,mem_singleton->bi,sublist_cons_self->bk,append_nil->bt,headD_cons->bx,length_replicate->b0,perm_append_comm->b1,take_append_drop->b3,replicate->b4,tail_cons->b6,flatMap_append->b9,append_assoc->cB,getElem?_map->cD,size_toArray->cR,length_cons->c8,nil_sublist->de,map_cons->ej
open List.Perm renaming swap->ec
open List.Sublist renaming refl->be,trans->ey
open List.cons renaming inj->eS
open Nat renaming min_eq_left->dn,mul_one->ew
open Option renaming map_eq_some_iff->bn
open Option.some renaming inj->ds
open Prod.mk renaming injEq->ek
namespace Go.Px
open Go.Proofs
theorem QB:ad.underlying 128=some (.pointer 131):=zw
theorem Wu:ad.underlying 268=some .unsafePointer:=zw
theorem Z7:((ad.info? 131).map λi=>i.size)=some 2:=zw
theorem UH:liesAt ad ad.depth 131 (2/ad.cellsOf 131) 0 131 1=true:=zw
set_option maxHeartbeats 1000000 in
set_option maxRecDepth 100000 in
theorem V6 (b:Nat)(w:World)(c:w.cell? ⟨b,0,none⟩=some (.pointer (some ⟨b,0,none⟩))):
  Calls ad 93 #[.pointer (some ⟨b,0,none⟩)] w λe w'=>e= .returned (.tuple #[])/\w'=w:=by
 obtain⟨j,a,_⟩:=bn.1 Z7
 go_enter dk,er
 go_wp2
 rw[Lib.run_neq_ptr_same w _ QB a]
 go_wp2
 go_end0
 exact⟨rfl,rfl⟩
set_option maxHeartbeats 1000000 in
set_option maxRecDepth 100000 in
theorem QX (b:Nat)(w:World)(g:w.cell? ⟨b,0,none⟩=some (.pointer none))(a:w.shape? b=some (131,2))(f:w.frozen? ⟨b,0,none⟩=false):
  Calls ad 93 #[.pointer (some ⟨b,0,none⟩)] w λe w'=>e= .returned (.tuple #[])/\w'=w.setCell ⟨b,0,none⟩ (.pointer (some ⟨b,0,none⟩)):=by
 obtain⟨j,d,c⟩:=bn.1 Z7
 go_enter dk,er
 go_wp2
 rw[Lib.run_to_unsafe w ⟨b,0,none⟩ QB Wu d (by rw[c];decide) a (Nat.zero_lt_succ 1)]
 simp only[b7]
 rw[bA]
 go_wp2
 rw[run_callFunc_extern Tryz.func175 zw zw zw (e:=en) zw]
 rw[Lib.run_noEscape]
 simp only[b7]
 rw[bA]
 go_wp2
 rw[Lib.run_from_unsafe w ⟨b,0,none⟩ Wu QB d a UH]
 simp only[b7]
 rw[bA]
 go_wp2
 go_end0
 exact⟨rfl,rfl⟩
theorem EK:vd ad 93:=⟨_,dk,zw,zw⟩
theorem vN (b:Nat)(c0 x:AV)(h:c0= .v (.pointer none)\/c0= .po b 0):il ad 93 [.po b 0] [(b,.cells 131 [c0,x])] (λ_ Ho=>Ho=[(b,.cells 131 [.po b 0,x])]):=by
 refine⟨EK,?_⟩;intro S w A _ k f l u;simp only[aS,aR]at f;obtain⟨c,t,rfl,rfl,rfl⟩:=f;have n:=l _ (bi.2 rfl);obtain⟨o,a,hh⟩:=n.holds;obtain⟨cs,rfl,s,r⟩:=hh;simp only[aS]at s;obtain⟨v0,y,rfl,i,v1,z,rfl,m,rfl⟩:=s;have q:w.cell? ⟨b,0,none⟩=some v0:=by rw[Lib.cell_of_heap a];rfl
 rcases h with rfl|rfl
 ·simp only[aR]at i;subst i;refine(QX b w q (by simp [World.shape?,a]) (Lib.frozen_of_heap a 0)).mono ?_;rintro e w' ⟨rfl,rfl⟩;have d: ∀g,g≠b->(w.setCell ⟨b,0,none⟩ (.pointer (some ⟨b,0,none⟩))).heap[g]? =w.heap[g]? :=by intro g hg;simp only[cb,bI];rw[if_neg (λe=>hg e.symm)]
  have j:(w.setCell ⟨b,0,none⟩ (.pointer (some ⟨b,0,none⟩))).heap[b]? =some (.cells #[.pointer (some ⟨b,0,none⟩),v1] 131 (0,0)):=by simp only[cb,bI,a,if_true,Option.map_some];rfl
  refine⟨.tuple #[],S,none,.bZ [],[(b,.cells 131 [.po b 0,x])],rfl,rfl,ph S,k.sA (λg hg=>d g (λe=>n.apart (e▸hg))),λ_ p=>.inl p,?_,bF.dC rfl (by simp only[aR];exact⟨[],rfl,by simp [aS]⟩),?_,zj,λ_ e=>by cases e⟩
  ·exact⟨rfl,rfl,rfl,by simp [cb],λg _ hg=>d g (λe=>hg (.inr (by simp [e])))⟩
  ·intro e he;rw[bi]at he;subst he;refine⟨.inr zj,n.apart,_,j,[.pointer (some ⟨b,0,none⟩),v1],rfl,?_,?_⟩
   ·simp only[aS,aR];exact⟨_,_,rfl,rfl,_,_,rfl,m,rfl⟩
   ·intro c hc;simp only[List.mem_cons,List.not_mem_nil,or_false]at hc;rcases hc with rfl|rfl
    ·rfl
    ·exact r _ zj
 ·simp only[aR]at i;subst i;refine(V6 b w q).mono ?_;rintro e w' ⟨rfl,rfl⟩;refine⟨.tuple #[],S,none,.bZ [],[(b,.cells 131 [.po b 0,x])],rfl,rfl,ph S,k,λ_ p=>.inl p,eI.refl _ _,bF.dC rfl (by simp only[aR];exact⟨[],rfl,by simp [aS]⟩),?_,zj,λ_ e=>by cases e⟩;intro e he;rw[bi]at he;subst he;refine⟨.inr zj,n.apart,_,a,[.pointer (some ⟨b,0,none⟩),v1],rfl,?_,r⟩;simp only[aS,aR];exact⟨_,_,rfl,rfl,_,_,rfl,m,rfl⟩
def vK (b:Nat)(c0:AV):Option (Nat×Nat)->List UInt8->Heap
 |none,_=>[(b,.cells 131 [c0,.nil])]
 |some (g,cap),l=>[(b,.cells 131 [c0,.so g l.length cap]),(g,.arr 5 1 cap (l.map λc=>[U c.toNat]))]
def uL:Option (Nat×Nat)->List UInt8->Prop
 |none,l=>l=[]
 |some _,l=>l≠[]
theorem Oc (l:List Wd)(g:Nat)(a:List AV)(p:Wd->Bool)(h: ∀x∈l,Ev ad g (bg x::a) (B (p x))):Ev ad 78 [.sl 1 (l.map (λs=>[bg s])),.fn (.func g) [] a] (I (bD p l 0)):=by
 refine ak S78.ok<|cH 0 rfl λha=>?_;simp only[an]at ha;refine aC rfl<|aa<|aC rfl<|bE (bD p l 0= -1) (el []) [] [] ?_ ?_
 ·refine dE (λk:Nat=>k<=l.length/\bD p l 0=bD p (l.drop k) k) (λk=>el [(0,.sl 1 (l.map (λs=>[bg s]))),(1,.fn (.func g) [] a),(7,I l.length),(8,I k)]) (λk=>l.length-k) 0 ⟨zz,rfl⟩
   (ao ⟨rfl,rfl,by show I _=I _;simp,rfl,trivial⟩) ?_
  rintro k ⟨hk,hi⟩;refine aC rfl<|aa (ag rfl (λhc=>?_) (λhc=>?_))
  ·simp only[nL]at hc;obtain⟨x,hx⟩:=aL hc;rw[drop_cons hx,bD]at hi;refine af (aa (au ?_));refine aC rfl<|aa<|iO [.cells ([bg x]),.ret (B (p x))] rfl ⟨⟨zz,by simp [hx]⟩,h x (ap hx),trivial⟩<|ag rfl (λb=>?_) (λb=>?_)
   ·refine aC rfl<|ab (aB ?_);show I _=I _;rw[hi,b];rfl
   ·refine af<|dS rfl ⟨zz,trivial⟩ ?_;exact⟨k+1,⟨hc,by rw[hi,b];rfl⟩,zz,eL⟩
  ·simp only[nL]at hc;refine ay ⟨(),?_,ao trivial⟩;rw[hi,drop_nil hc];rfl
 ·intro _ h;refine aC rfl<|ab (aB ?_);rw[h];rfl
theorem EN (l:List Wd)(g:Nat)(a:List AV)(p:Wd->Bool)(h: ∀x∈l,Ev ad g (bg x::a) (B (p x))):Ev ad 38 [.sl 1 (l.map (λs=>[bg s])),.fn (.func g) [] a] (B (l.any p)):=by refine ak S38.ok<|aC rfl<|bc [.ret (I (bD p l 0))] rfl ⟨Oc l g a p h,trivial⟩<|ab (aB ?_);show B _=B _;rw[tI p l 0 zz]
theorem OU (l:List Form)(g:Nat)(a:List AV)(p:Form->Bool)(h: ∀x∈l,Ev ad g (.agg x.enc::a) (B (p x))):Ev ad 182 [.sl 2 (l.map Form.enc),.fn (.func g) [] a] (I (bD p l 0)):=by
 refine ak ag4.ok<|cH 0 rfl λha=>?_;simp only[an]at ha;refine aC rfl<|aa<|aC rfl<|bE (bD p l 0= -1) (el []) [] [] ?_ ?_
 ·refine dE (λk:Nat=>k<=l.length/\bD p l 0=bD p (l.drop k) k) (λk=>el [(0,.sl 2 (l.map Form.enc)),(1,.fn (.func g) [] a),(7,I l.length),(8,I k)]) (λk=>l.length-k) 0 ⟨zz,rfl⟩
   (ao ⟨rfl,rfl,by show I _=I _;simp,rfl,trivial⟩) ?_
  rintro k ⟨hk,hi⟩;refine aC rfl<|aa (ag rfl (λhc=>?_) (λhc=>?_))
  ·simp only[nL]at hc;obtain⟨x,hx⟩:=aL hc;rw[drop_cons hx,bD]at hi;refine af (aa (au ?_));refine aC rfl<|aa<|iO [.cells (x.enc),.ret (B (p x))] rfl ⟨⟨zz,by simp [hx]⟩,h x (ap hx),trivial⟩<|ag rfl (λb=>?_) (λb=>?_)
   ·refine aC rfl<|ab (aB ?_);show I _=I _;rw[hi,b];rfl
   ·refine af<|dS rfl ⟨zz,trivial⟩ ?_;exact⟨k+1,⟨hc,by rw[hi,b];rfl⟩,zz,eL⟩
  ·simp only[nL]at hc;refine ay ⟨(),?_,ao trivial⟩;rw[hi,drop_nil hc];rfl
 ·intro _ h;refine aC rfl<|ab (aB ?_);rw[h];rfl
theorem Ex (l:List Form)(g:Nat)(a:List AV)(p:Form->Bool)(h: ∀x∈l,Ev ad g (.agg x.enc::a) (B (p x))):Ev ad 99 [.sl 2 (l.map Form.enc),.fn (.func g) [] a] (B (l.any p)):=by refine ak S99.ok<|aC rfl<|bc [.ret (I (bD p l 0))] rfl ⟨OU l g a p h,trivial⟩<|ab (aB ?_);show B _=B _;rw[tI p l 0 zz]
theorem Vc (n lo hi:Int):Ev ad 180 [I n,.pi [I lo],.pi [I hi]] (B (decide (n<lo)||decide (n>hi))):=by
 refine ak aeP.ok<|aC rfl ?_;by_cases h:n<lo
 ·refine uk [(8,true)] [] rfl (by simp [h])<|ab (aB ?_);show B _=B _;simp [h]
 ·refine uk [(8,false)] [] rfl (by simp [h])<|ab (aB ?_);show B _=B _;simp [h]
theorem Fz (lo hi:Int)(l:List Int):Ev ad 97 [I lo,I hi,ints l] (B (ah lo hi l)):=by refine ak S97.ok<|bc [.bW,.bW] rfl ⟨⟨rfl,rfl⟩,⟨rfl,rfl⟩,trivial⟩<|bc [.ret (B (ah lo hi l))] rfl ⟨jg l _ _ _ (λn _=>Vc n lo hi),trivial⟩<|ab (aB ?_);rfl
def qv (c:Nat):Bool:=decide (97<=c)&&decide (c<=122)
theorem F8 (l:Wd):rL l=(!ah 1 8 [(l.length:Int)]&&l.all λc=>qv c.toNat):=by unfold rL qv;congr 1;rw[bs];simp [ah];omega
theorem Vr (l:Wd):Ev ad 262 [bg l] (B (rL l)):=by
 refine ak afJ.ok<|aC rfl<|aa (aa (av ?_));refine aT.xq (gs:=[]) (hs:=[]) rfl trivial<|ai (aF.tn rfl (λb=>?_));refine eZ rfl<|bE (l.all (λc=>qv c.toNat)=true) (el [(0,bg l)]) [] [] ?_ ?_
 ·refine br (λk:Nat=>k<=l.length/\l.all (λc=>qv c.toNat)=(l.drop k).all (λc=>qv c.toNat)) (λk=>el [(0,bg l),(6,.po b 0)]) (λk=>[(b,.raw (.stringIter ⟨l.toArray⟩ k))]) (λ_=>[]) (λk=>l.length-k) 0 ⟨zz,rfl⟩
   eL ?_
  rintro k ⟨hk,hi⟩;refine aa (av (ai (aF.Qr (i:=0) rfl rfl (λd=>?_) (λd=>?_))))
  ·simp only[cR,ea]at d;obtain⟨c,hc⟩:=aL d;have hg:(cr l.toArray).get! k=c:=by have r:=(a7.1 hc).2;show l.toArray[k]! =c;rw[getElem!_pos l.toArray k (by simpa using d)];simpa using r
   rw[drop_cons hc,List.all_cons]at hi;have e:128<=c.toNat->128<=(dl ⟨l.toArray⟩ k).1:=λh=>xK _ _ (by rw[hg];exact h);have g:c.toNat<128->dl ⟨l.toArray⟩ k=(c.toNat,1):=λh=>by rw[yn _ _ (by rw[hg];exact h),hg]
   generalize s:dl ⟨l.toArray⟩ k=o at e g;obtain⟨u,n⟩:=o;simp only at e
   have f:qv c.toNat=qv u/\(qv u=true->(u,n)=(c.toNat,1)):=by
    by_cases j:c.toNat<128
    ·have:=g j;simp only[ek]at this;obtain⟨rfl,rfl⟩:=this;exact⟨rfl,λ_=>rfl⟩
    ·have:=e zz;have p:qv c.toNat=false:=by simp [qv];omega
     have q:qv u=false:=by simp [qv];omega
     rw[p,q];exact⟨rfl,λh=>by cases h⟩
   refine eZ rfl<|aa (ag (b:=true) rfl (λ_=>af ?_) (λh=>by cases h));refine au<|aC rfl<|dZ True (el [(0,bg l),(6,.po b 0),(15,B (!qv u))]) [(b,.raw (.stringIter ⟨l.toArray⟩ (k+n)))] [] ?_ ?_
   ·by_cases m:(u:Int)<97
    ·have g1:decide ((u:Int)<97)=true:=decide_eq_true m;refine js [(12,true)] [] rfl (by(and_intros);(all_goals try exact zt _)) ?_;refine⟨(),trivial,ao ⟨rfl,rfl,?_,trivial⟩⟩;have:qv u=false:=by simp [qv];omega
     rw[this];rfl
    ·have g1:decide ((u:Int)<97)=false:=decide_eq_false m;refine js [(12,false)] [] rfl (by(and_intros);(all_goals try exact zt _)) ?_;refine⟨(),trivial,ao ⟨rfl,rfl,?_,trivial⟩⟩;have:(!qv u)=decide ((u:Int)>122):=by rw[bs];simp [qv];omega
     rw[this];rfl
   intro _ _;refine ag rfl (λa=>?_) (λa=>?_)
   ·have a:qv u=false:=by simpa using a
    refine aC rfl<|ab (aB ?_);show B _=B _;rw[F8,hi,f.1,a];simp
   ·have a:qv u=true:=by simpa using a
    have:=f.2 a;simp only[ek]at this;obtain⟨rfl,rfl⟩:=this;exact af ⟨k+1,⟨d,by rw[hi,a,Bool.true_and]⟩,zz,eL⟩
  ·simp only[cR,ea]at d;refine eZ rfl<|aa (ag (b:=false) rfl (λh=>by cases h) (λ_=>ay ⟨(),?_,?_⟩))
   ·rw[hi,drop_nil d];rfl
   ·exact aj (bB.Hv 0) eL
 ·intro _ h;refine bc [.bW,.ret (B (ah 1 8 [(l.length:Int)]))] rfl ⟨rfl,Fz 1 8 [(l.length:Int)],trivial⟩<|ab (aB ?_);show B _=B _;rw[F8,h,Bool.and_true]
theorem Ji (s:Wd):Ev ad 261 [bg s] (B (!rL s)):=by refine ak agC.ok<|aC rfl<|bc [.ret (B (rL s))] rfl ⟨Vr s,trivial⟩<|ab (aB ?_);rfl
theorem CG (l:List Wd):Ev ad 183 [strs l] (I (if jb l=true then 0 else 6)):=by
 refine ak afP.ok<|aC rfl ?_;have hc:=EN l 261 [] (λs=> !rL s) (λs _=>Ji s);have he:l.any (λs=> !rL s)= !jb l:=by unfold jb;rw[List.all_eq_not_any_not];simp
 rw[he]at hc;refine aa (aa ?_);refine iO [.ret (B (!jb l))] rfl ⟨hc,trivial⟩<|ag rfl (λh=>?_) (λh=>af ?_)
 ·have h:jb l=false:=by simpa using h
  rw[h];refine aC rfl<|ab (aB ?_);rfl
 ·have h:jb l=true:=by simpa using h
  rw[h];refine aC rfl<|ab (aB ?_);rfl
theorem sL (l:List Wd):Ev ad 201 [strs l] (I (cG l)):=by
 refine ak afR.ok<|aC rfl<|aa (aa ?_);refine cC rfl<|ag rfl (λh=>?_) (λh=>af ?_)
 ·have h:15<l.length:=zx
  refine aC rfl<|ab (aB ?_);show I _=I _;unfold cG;rw[if_pos h]
 ·have h: ¬15<l.length:=zx
  refine bc [.ret (I (if jb l=true then 0 else 6))] rfl ⟨CG l,trivial⟩<|ab (aB ?_);show I _=I _;unfold cG;rw[if_neg h]
theorem wf_i64 {n:Int}(c: -9223372036854775808<=n)(d:n<=9223372036854775807):(b8 .i64 n).wf=true:=by have a:eu.min= -9223372036854775808:=rfl;have b:eu.max=9223372036854775807:=rfl;simp [Lit.wf];omega
theorem WQ {a b:Int}(ha:(b8 .i64 a).wf=true)(e:(b8 .i64 b).wf=true):bJ ad 3 96 (.agg #[.int .i64 a,.int .i64 b]):=by
 have c:ad.cellsOf 96=2:=zw
 have d:ad.cellsOf 3=1:=zw
 refine⟨?_,[.int .i64 a,.int .i64 b],?_⟩
 ·simp [Value.formed,c7,c]
 ·simp [Value.cells,Program.keyLits,c7,Tryz.underlying3,c,d,ha,e]
theorem Wb {a b c d:Int}(ha:(b8 .i64 a).wf=true)(e:(b8 .i64 b).wf=true)(hc:(b8 .i64 c).wf=true)(hd:(b8 .i64 d).wf=true){neg:Bool}{x y:Operand}{env:Env}{H:Heap}{t:Nat}
  (hx:valOf (bu env x)=some (.agg #[.int .i64 a,.int .i64 b])) (hy:valOf (bu env y)=some (.agg #[.int .i64 c,.int .i64 d])):
  ∀(r:Option Nat) (N:Nat) (D:List Nat),Q1 ad r N (.nI neg 96 x y) (some t) env H D [(t,B (if neg=true then !decide (a=c/\b=d)else decide (a=c/\b=d)))]:=by
 intro r N D
 exact aF.nI (m:=3) (DD:=3) zq zw zw zw zw hx hy (WQ ha e) (WQ hc hd) (decide (a=c/\b=d)) zx ⟨rfl,rfl,rfl⟩
theorem RW (p:Part):sS p=if 3<p.words.length then 3 else if jb p.words=true then(if 0<p.words.length then(if p.lo=0/\p.hi=0 then 0 else 2)else if (ah 0 3 [p.lo,p.hi]||decide (p.hi=0))=true then 7 else if p.hi<p.lo then 2 else 0)else 6:=by
 unfold sS;have e:(p.words≠[])=(0<p.words.length):=zx
 simp only[e]
theorem Nq (p:Part)(g:p.wf):Ev ad 101 [.agg p.enc] (I (sS p)):=by
 have k:=wf_i64 g.Ul g.lo1;have j:=wf_i64 g.ud g.Mr;have d:=wf_i64 (n:=0) zq zq;have f:(p.words.map λs=>[bg s]).length=p.words.length:=an _;have b:=Fz 0 3 [p.lo,p.hi];refine ak agz.ok ?_;rw[RW];refine bc [.bW] rfl ⟨⟨rfl,rfl⟩,trivial⟩<|bc [.ret (I (if jb p.words=true then 0 else 6))] rfl ⟨CG _,trivial⟩<|aJ.nV<|aC rfl<|ag rfl (λh=>?_) (λh=>?_)
 ·have h:3<p.words.length:=zx
  rw[if_pos h];refine aC rfl<|ab (aB ?_);rfl
 have h: ¬3<p.words.length:=zx
 rw[if_neg h];by_cases a:jb p.words=true
 case neg=>rw[if_neg a];refine ae (ao (l:=[(1,.pi p.enc),(3,I 6)]) ⟨rfl,by rw[if_neg a];rfl,trivial⟩)<|aC rfl<|ax rfl rfl<|aC rfl<|ab (aB ?_);rfl
 rw[if_pos a];refine ae (ao (l:=[(1,.pi p.enc),(3,I 0)]) ⟨rfl,by rw[if_pos a];rfl,trivial⟩)<|aC rfl<|cJ rfl rfl ?_;by_cases hl:0<p.words.length
 ·rw[if_pos hl];have g1:decide (((p.words.map λs=>[bg s]).length:Int)>0)=true:=decide_eq_true (by rw[f];omega);refine uk [(21,true)] [.op (B (!decide (p.lo=0/\p.hi=0)))] rfl (by(and_intros);(all_goals try exact zt _);exact Wb (neg:=true) k j d d rfl rfl)<|ag rfl (λc=>?_) (λc=>?_)
  ·have c: ¬(p.lo=0/\p.hi=0):=by intro e;simp [e.1,e.2]at c
   rw[if_neg c];refine aC rfl<|ab (aB ?_);rfl
  ·have c:p.lo=0/\p.hi=0:=by simpa using c
   rw[if_pos c];refine aC rfl<|ag rfl (λ_=>?_) (λh=>absurd hl (by simpa using h));refine aC rfl<|ab (aB ?_);rfl
 ·rw[if_neg hl];have g1:decide (((p.words.map λs=>[bg s]).length:Int)>0)=false:=decide_eq_false (by rw[f];omega);refine uk [(21,false)] [] rfl zx<|cJ rfl rfl<|aC rfl<|ag rfl (λh=>absurd (by simpa using h) (show ¬(0<p.words.length)from hl)) (λ_=>?_);generalize m:ah 0 3 [p.lo,p.hi]=bb at b;refine dZ True (el [(1,.pi p.enc),(32,B (bb||decide (p.hi=0)))]) [] [] ?_ (λ_ _=>?_)
  ·cases bb with
   |true=>refine js [(41,true)] [.bW,.ret (B true)] rfl (by(repeat' (with_reducible apply eM));(all_goals try exact zt _);exact b) ?_;exact⟨(),trivial,eL⟩
   |false=>
    refine js [(41,false)] [.bW,.ret (B false)] rfl (by(repeat' (with_reducible apply eM));(all_goals try exact zt _);exact b) ?_;refine⟨(),trivial,ao ⟨rfl,?_,trivial⟩⟩;have:(false||decide (p.hi=0))=(p.hi==0):=by rw[Bool.false_or,bs];simp
    rw[this];rfl
  refine ag rfl (λi=>?_) (λi=>?_)
  ·rw[if_pos i];refine aC rfl<|ab (aB ?_);rfl
  ·rw[if_neg (by simp [i])];refine aC rfl<|ag rfl (λh=>?_) (λh=>?_)
   ·have h:p.hi<p.lo:=by simpa using h
    rw[if_pos h];refine aC rfl<|ab (aB ?_);rfl
   ·have h: ¬p.hi<p.lo:=by simpa using h
    rw[if_neg h];refine af<|aC rfl<|ab (aB ?_);rfl
theorem yZ {f:Nat->Int}{n k:Nat}(h:k<n):(aA f (n-k) k)=if f k=0 then aA f (n-(k+1)) (k+1)else((k:Int),f k):=by rw[show n-k=(n-(k+1))+1 from zz,aA]
theorem Jc (x f:Form):Ev ad 100 [.agg x.enc,.pi f.enc] (B (x.name==f.name)):=by refine ak afA.ok<|bc [.bW] rfl ⟨⟨rfl,rfl⟩,trivial⟩<|aC rfl<|ab (aB ?_);show B _=B _;simp
theorem Du (s:Shelf)(D:s.wf):Ev ad 53 [.agg s.enc] (.bZ [I (eD s).1,I (eD s).2.1,I (eD s).2.2]):=by
 refine ak S53.ok ?_;have y:(s.bH.map Form.enc).length=s.bH.length:=an _;have res: ∀{env:Env} {H:Heap} {p q r:Int},eD s=(p,q,r)->env 2=I p->env 3=I q->env 4=I r->pD ad [.tmp 2,.tmp 3,.tmp 4] (.bZ [I (eD s).1,I (eD s).2.1,I (eD s).2.2]) .ret env H []:=by intro env H p q r h l i h4;rw[h];exact fh (.inr rfl) (.many zq ⟨.tmp l rfl,.tmp i rfl,.tmp h4 rfl,trivial⟩)
 refine bc [.bW] rfl ⟨⟨rfl,rfl⟩,trivial⟩<|aJ.nV<|bc [.bW,.ret (B (ah 8 30 [s.w]))] rfl ⟨rfl,Fz 8 30 [s.w],trivial⟩<|ag rfl (λhc=>?_) (λhc=>?_)
 ·refine aC rfl ?_;exact ab (res (p:=1) (q:=0) (r:=7) (by simp only[eD,hc,if_true]) rfl rfl rfl)
 refine aC rfl<|ag rfl (λhd=>?_) (λhd=>?_)
 ·have hd:4<s.bH.length:=zx
  refine aC rfl ?_;exact ab (res (p:=2) (q:=0) (r:=3) (by simp only[eD,hc,hd,if_true,if_false,cc]) rfl rfl rfl)
 have hd: ¬4<s.bH.length:=zx
 refine af ?_;have u:eD s=if (aA (kN s.bH) s.bH.length 0).2=0 then(0,0,0)else(2,(aA (kN s.bH) s.bH.length 0).1,(aA (kN s.bH) s.bH.length 0).2):=by simp only[eD,hc,hd,if_false,cc]
 refine aa (aa ?_);refine cC rfl<|bE ((aA (kN s.bH) s.bH.length 0).2=0) (el []) [] [] ?_ ?_
 ·refine dE (λk:Nat=>k<=s.bH.length/\aA (kN s.bH) s.bH.length 0=aA (kN s.bH) (s.bH.length-k) k) (λk=>el [(1,.pi s.enc),(20,sP s.bH),(21,I s.bH.length),(22,I k)]) (λk=>s.bH.length-k) 0 ⟨zz,rfl⟩
   (ao ⟨rfl,rfl,by show I _=I _;rw[y],rfl,trivial⟩) ?_
  rintro k ⟨hk,hi⟩;refine aC rfl<|aa (ag rfl (λhe=>?_) (λhe=>?_))
  ·simp only[nL]at he;obtain⟨f,v⟩:=aL he;have n:=D.bH f (ap v);have C:(f.parts.map Part.enc).length=f.parts.length:=an _;rw[yZ he]at hi;have a:kN s.bH k=if fl f.name=true then(if (s.bH.take k).any (λx=>x.name==f.name)=true then 5 else if 5<f.parts.length then 3 else(aA (nR f.parts) f.parts.length 0).2)else 6:=by simp only[kN,v]
   have d: ∀{e:Int},kN s.bH k=e->e≠0->eD s=(2,(k:Int),e):=by intro e g l;rw[g,if_neg l]at hi;rw[u,hi,if_neg l]
   refine af<|cX (kN s.bH k=0) (el [(1,.pi s.enc),(20,sP s.bH),(21,I s.bH.length),(22,I k)]) [] [] ?_ ?_
   ·refine bc [.cells f.enc,.aI] rfl ⟨⟨zz,by simp [v]⟩,rfl,⟨rfl,rfl,rfl,zq⟩,trivial⟩<|ae (aq (t:=6) rfl)<|aJ.nV<|bc [.ret (B (fl f.name))] rfl ⟨tZ f.name n.name,trivial⟩<|ag rfl (λg=>?_) (λg=>?_)
    ·have g:fl f.name=false:=by simpa using g
     refine aC rfl ?_;exact ab (res (d (by rw[a,if_neg (by simp [g])]) zq) rfl rfl rfl)
    have g:fl f.name=true:=by simpa using g
    rw[if_pos g]at a;refine bc [.wC [sP (s.bH.take k),.fn (.func 100) [] [.pi f.enc]] (B ((s.bH.take k).any (λx=>x.name==f.name)))] rfl ⟨⟨⟨trivial,zz⟩,zj,by simp;omega⟩,⟨Ex _ _ _ _ (λx _=>Jc x f),fL (by show [AV.sl 2 ((s.bH.map Form.enc).take k),.fn (.func 100) [] [.pi f.enc]]=_;rw[<-List.map_take])⟩,trivial⟩<|ag rfl (λl=>?_) (λl=>?_)
    ·rw[if_pos l]at a;refine aC rfl ?_;exact ab (res (d a zq) rfl rfl rfl)
    rw[if_neg (by simp [l])]at a;refine aC rfl<|ag rfl (λi=>?_) (λi=>?_)
    ·have i:5<f.parts.length:=by simp at i;omega
     rw[if_pos i]at a;refine aC rfl ?_;exact ab (res (d a zq) rfl rfl rfl)
    have i: ¬5<f.parts.length:=by simp at i;omega
    rw[if_neg i]at a;refine af<|aC rfl<|au<|dE (λj:Nat=>j<=f.parts.length/\aA (nR f.parts) f.parts.length 0=aA (nR f.parts) (f.parts.length-j) j) (λj=>el [(1,.pi s.enc),(5,I k),(20,sP s.bH),(21,I s.bH.length),(22,I k),(48,fX f.parts),(49,I f.parts.length),(50,I j)]) (λj=>f.parts.length-j) 0 ⟨zz,rfl⟩
     (ao ⟨rfl,rfl,rfl,rfl,rfl,rfl,by show I _=I _;rw[C],rfl,trivial⟩) ?_
    rintro j ⟨E,b⟩;refine aC rfl<|aa (ag rfl (λc=>?_) (λc=>?_))
    ·simp only[nL]at c;obtain⟨p,z⟩:=aL c;have A:nR f.parts j=sS p:=by simp only[nR,z]
     rw[yZ c,A]at b;refine af<|cX (sS p=0) (el [(1,.pi s.enc),(5,I k),(20,sP s.bH),(21,I s.bH.length),(22,I k),(48,fX f.parts),(49,I f.parts.length),(50,I j)]) [] [] ?_ ?_
     ·refine bc [.cells p.enc,.aI] rfl ⟨⟨zz,by simp [z]⟩,rfl,⟨rfl,rfl,rfl,zq⟩,trivial⟩<|ae (aq (t:=8) rfl) ?_;have m:=Nq p (n.parts p (ap z));generalize sS p=e at b m;refine bc [.ret (I e)] rfl ⟨m,trivial⟩<|aC rfl<|ag rfl (λh4=>?_) (λh4=>?_)
      ·have h4:e≠0:=by simpa using h4
       rw[if_neg h4]at b;rw[b]at a;refine aC rfl ?_;exact ab (res (d a h4) rfl rfl rfl)
      ·have h4:e=0:=by simpa using h4
       exact af ⟨(),h4,eL⟩
     ·intro _ o;rw[if_pos o]at b;refine dS rfl ⟨zz,trivial⟩ ?_;exact⟨j+1,⟨zz,b⟩,zz,eL⟩
    ·simp only[nL]at c;refine ay ⟨(),?_,eL⟩;rw[a,b,show f.parts.length-j=0 from zz];rfl
   ·intro _ o;rw[if_pos o]at hi;refine dS rfl ⟨zz,trivial⟩ ?_;exact⟨k+1,⟨zz,hi⟩,zz,eL⟩
  ·simp only[nL]at he;refine ay ⟨(),?_,ao trivial⟩;rw[hi,show s.bH.length-k=0 from zz];rfl
 ·intro _ o;refine aC rfl ?_;exact ab (res (p:=0) (q:=0) (r:=0) zx rfl rfl rfl)
abbrev Bh (l:List (Int×Int)):AV:=.sl 2 (l.map λr=>[I r.1,I r.2])
theorem Ia (ps:List Part)(p:Part):bl (ps++[p])=if p.roomy=true then bl ps++[(p.lo,p.hi)]else bl ps:=by grind [bl]
theorem vu (ps:List Part):(bl ps).length<=ps.length:=by unfold bl;rw[an];exact List.length_filter_le _ _
theorem CA {s:Shelf}{n:Int}(h:gj s n=0):(eD s).2.2=0/\BD s/\0<=n/\n.toNat<s.bH.length/\s.bH.length<=4/\ ∃f,s.bH[n.toNat]? =some f/\A9 f/\partsOf s n=f.parts:=by
 unfold gj at h;split at h
 ·rename_i c;have V:=xx.1 c;split at h
  ·cases h
  ·rename_i d;simp only[ah,List.any_cons,List.any_nil,Bool.or_false,Bool.or_eq_true,decide_eq_true_eq,not_or]at d;have a:n.toNat<s.bH.length:=zz
   obtain⟨f,b⟩:=aL a;exact⟨c,V,zz,a,V.f4,f,b,(V.bH f (ap b)).2,by simp only[partsOf,b]⟩
 ·grind
theorem Dk {α:Type}{l m:List α}(h:l.length=m.length)(k:Nat)(hk:l.length<=k)(hi: ∀i,i<k->l[i]? =m[i]?):l=m:=by
 apply List.ext_getElem?;intro i;by_cases a:i<k
 ·grind
 ·grind
theorem DB (l m:List Wd):Ev ad 11 [strs l,strs m] (B (l==m)):=by
 refine ak S11.ok<|cH 0 rfl λd=>?_;have hl:(l.map λs=>[bg s]).length=l.length:=an _;have hm:(m.map λs=>[bg s]).length=m.length:=an _;refine aC rfl<|aa (aa ?_);refine cC rfl<|ag rfl (λhc=>?_) (λhc=>?_)
 ·have hc:l.length≠m.length:=zx
  refine aC rfl<|ab (aB ?_);show B _=B _;have:l≠m:=λe=>hc (by rw[e]);simp [this]
 have hc:l.length=m.length:=zx
 refine af<|aa (aa ?_);refine cC rfl<|bE (l=m) (el []) [] [] ?_ ?_
 ·refine dE (λk:Nat=>k<=l.length/\ ∀i,i<k->l[i]? =m[i]?) (λk=>el [(0,strs l),(1,strs m),(5,I k)]) (λk=>l.length-k) 0 ⟨zz,λi hi=>zz⟩
   eL ?_
  rintro k ⟨hk,hi⟩;refine aa (aa ?_);refine cC rfl<|ag rfl (λhe=>?_) (λhe=>?_)
  ·simp only[nL]at he;obtain⟨x,hx⟩:=aL he;obtain⟨y,hy⟩:=aL (l:=m) (k:=k) zz;refine af<|cX (x=y) (el [(0,strs l),(1,strs m),(5,I k)]) [] [] ?_ ?_
   ·refine aa<|rE [] [.cells [bg x],.cells [bg y]] rfl ⟨⟨zz,by simp [hx]⟩,⟨zz,by simp [hy]⟩,trivial⟩<|ag rfl (λa=>?_) (λa=>?_)
    ·have a:x≠y:=by intro e;subst e;simp at a
     refine aC rfl<|ab (aB ?_);show B _=B _;have:l≠m:=by intro e;rw[e,hy]at hx;exact a (ds hx).symm
     simp [this]
    ·have a:x=y:=by simpa using a
     exact af ⟨(),a,eL⟩
   intro _ b;refine dS rfl ⟨zz,trivial⟩ ?_;refine⟨k+1,⟨zz,?_⟩,zz,eL⟩;intro i h;by_cases c:i<k
   ·exact hi i c
   ·have:i=k:=zz
    subst this;rw[hx,hy,b]
  ·simp only[nL]at he;exact ay ⟨(),Dk hc k zz hi,ao trivial⟩
 intro _ b;refine aC rfl<|ab (aB ?_);show B _=B _;simp [b]
theorem Oy (l m:List (List Wd)):Ev ad 28 [qD l,qD m] (B (l==m)):=by
 refine ak S28.ok<|cH 0 rfl λd=>?_;have hl:(l.map λs=>[strs s]).length=l.length:=an _;have hm:(m.map λs=>[strs s]).length=m.length:=an _;refine aC rfl<|aa (aa ?_);refine cC rfl<|ag rfl (λhc=>?_) (λhc=>?_)
 ·have hc:l.length≠m.length:=zx
  refine aC rfl<|ab (aB ?_);show B _=B _;have:l≠m:=λe=>hc (by rw[e]);simp [this]
 have hc:l.length=m.length:=zx
 refine af<|aa (aa ?_);refine cC rfl<|bE (l=m) (el []) [] [] ?_ ?_
 ·refine dE (λk:Nat=>k<=l.length/\ ∀i,i<k->l[i]? =m[i]?) (λk=>el [(0,qD l),(1,qD m),(5,I k)]) (λk=>l.length-k) 0 ⟨zz,λi hi=>zz⟩
   eL ?_
  rintro k ⟨hk,hi⟩;refine aa (aa ?_);refine cC rfl<|ag rfl (λhe=>?_) (λhe=>?_)
  ·simp only[nL]at he;obtain⟨x,hx⟩:=aL he;obtain⟨y,hy⟩:=aL (l:=m) (k:=k) zz;refine af<|cX (x=y) (el [(0,qD l),(1,qD m),(5,I k)]) [] [] ?_ ?_
   ·refine aa<|rE [] [.cells [strs x],.cells [strs y],.ret (B (x==y))] rfl ⟨⟨zz,by simp [hx]⟩,⟨zz,by simp [hy]⟩,DB x y,trivial⟩<|ag rfl (λa=>?_) (λa=>?_)
    ·have a:x≠y:=by intro e;subst e;simp at a
     refine aC rfl<|ab (aB ?_);show B _=B _;have:l≠m:=by intro e;rw[e,hy]at hx;exact a (ds hx).symm
     simp [this]
    ·have a:x=y:=by simpa using a
     exact af ⟨(),a,eL⟩
   intro _ b;refine dS rfl ⟨zz,trivial⟩ ?_;refine⟨k+1,⟨zz,?_⟩,zz,eL⟩;intro i h;by_cases c:i<k
   ·exact hi i c
   ·have:i=k:=zz
    subst this;rw[hx,hy,b]
  ·simp only[nL]at he;exact ay ⟨(),Dk hc k zz hi,ao trivial⟩
 intro _ b;refine aC rfl<|ab (aB ?_);show B _=B _;simp [b]
theorem sC: ∀(ps:List Part) (ms:List Nat),ms.length=(bl ps).length->eW ps ms=si ps (ms.map qM)
 |[],ms,h=>by simp [eW,si]
 |p::ps,ms,h=>by
  rw[sf]at h
  simp only[eW,si]
  by_cases a:p.roomy=true
  ·rw[if_pos a]at h
   rw[if_pos a,if_pos a]
   cases ms with
   |nil=>simp at h
   |cons m ms=>
    simp only[c8,Nat.add_right_cancel_iff]at h
    rw[bx,b6,ej,bx,b6,sC ps ms h]
  ·rw[if_neg a]at h
   rw[if_neg a,if_neg a,sC ps ms h]
theorem sI {f:Form}(d:A9 f){ms:List Nat}(h:ms∈jc (bl f.parts)):ms.length=(bl f.parts).length/\(∀m∈ms,m<=3)/\(eW f.parts ms).length<=15:=by
 have hl:=Hj h;have a:=Bv d.parts;have c:=(GP (λr b=>(a r b).1)).1 h;have e: ∀m∈ms,m<=3:=by intro m hm;obtain⟨i,hi⟩:=List.mem_iff_getElem?.1 hm;have g:=(a7.1 hi).1;obtain⟨r,b⟩:=aL (l:=bl f.parts) (k:=i) zz;have h4:=Mq c b hi;have n:=a r (ap b);omega
 refine⟨hl,e,?_⟩;rw[sC f.parts ms hl];have:=xZ f.parts (ms.map qM) (λp j=>(d.parts p j).w3) ?_
 ·have:=d.p5;omega
 ·intro x hx;obtain⟨m,hm,rfl⟩:=List.mem_map.1 hx;simp only[qM,b0];exact e m hm
theorem iZ (a b:List UInt8):(⟨a.toArray⟩:ByteArray)++⟨b.toArray⟩=⟨(a++b).toArray⟩:=by apply eP;simp [et]
theorem abB (a b:List UInt8):AV.v (.string ((⟨a.toArray⟩:ByteArray)++⟨b.toArray⟩))=bg (a++b):=congrArg (λs=>AV.v (.string s)) (iZ a b)
theorem ta (a:List UInt8):(⟨a.toArray⟩:ByteArray).size=a.length:=by show a.toArray.size=_;simp
theorem od (b:Nat)(c0:AV)(o:Option (Nat×Nat))(l s:List UInt8)(h:c0= .v (.pointer none)\/c0= .po b 0)(a:uL o l)(hs:s≠[])(hl:l.length+s.length<=1000000000):
  il ad 46 [.po b 0,bg s] (vK b c0 o l) (λ_ Ho=> ∃k,uL k (l++s)/\Ho=vK b (.po b 0) k (l++s)):=by
 refine bq S46.ok<|aC rfl ?_
 have p:(cr s.toArray).size=s.length:=rfl
 cases o with
 |none=>
  simp only[uL]at a
  subst a
  refine aa (av ?_)
  refine kL 1 rfl rfl<|ai (bU (Hin:=[(b,.cells 131 [c0,.nil])]) (H0:=[]) (vN b c0 .nil h) rfl rfl (aK _) rfl ?_)
  rintro res f rfl
  refine eZ rfl<|aa (av ?_)
  refine lz [.at 0] 6 rfl rfl ⟨rfl,trivial⟩<|aG (bB.ln (t:=12) 5 1 rfl)<|ai (aF.kQ (es:=[]) (s:=⟨s.toArray⟩) rfl rfl zx zx ?_)
  refine aT.share (t:=14) (es:=s.map λc=>[U c.toNat]) rfl (λe=>absurd (by simpa using e) hs) (λg cap=>?_)
  refine aG (cd (ec _ _ _))<|kL 2 rfl rfl<|ai (aZ (i:=0) rfl rfl rfl rfl rfl rfl zx ?_)
  refine eZ rfl<|aC rfl<|ab ⟨.inr rfl,_,.bZ [I s.length,.v .nilIface],vK b (.po b 0) (some (g,cap)) ([]++s),rfl,.many zq ⟨.tmp rfl rfl,.tmp rfl rfl,trivial⟩,⟨some (g,cap),hs,rfl⟩,?_⟩
  have e:s.length=(s.map λc=>[U c.toNat]).length:=(an _).symm
  simp only[vK,List.nil_append]
  rw[e]
  exact be _
 |some m=>
  obtain⟨g,cap⟩:=m
  simp only[uL]at a
  refine aa (av ?_)
  refine kL 1 rfl rfl<|ai (bU (Hin:=[(b,.cells 131 [c0,.so g l.length cap])]) (H0:=[(g,.arr 5 1 cap (l.map λc=>[U c.toNat]))]) (vN b c0 _ h) rfl rfl (aK _) rfl ?_)
  rintro res f rfl
  refine eZ rfl<|aa (av ?_)
  refine lz [.at 0] 6 rfl rfl ⟨rfl,trivial⟩<|aG (bB.jT (i:=1) (t:=12) (es:=l.map λc=>[U c.toNat]) (by simp;rfl) rfl) ?_
  have n:(l.map λc=>[U c.toNat]).length=l.length:=an _
  refine ai (aF.kQ (es:=l.map λc=>[U c.toNat]) (s:=⟨s.toArray⟩) rfl rfl zx zx ?_)
  refine aT.share (t:=14) (es:=(l++s).map λc=>[U c.toNat]) (by rw[az];rfl) (λe=>by simp at e;exact absurd e.1 a) (λj d=>?_)
  refine aG (cd (ec _ _ _))<|kL 2 rfl rfl<|ai (aZ (i:=0) rfl rfl rfl rfl rfl rfl zx ?_)
  refine eZ rfl<|aC rfl<|ab ⟨.inr rfl,_,.bZ [I s.length,.v .nilIface],vK b (.po b 0) (some (j,d)) (l++s),rfl,.many zq ⟨.tmp rfl rfl,.tmp rfl rfl,trivial⟩,⟨some (j,d),by simp [uL,a],rfl⟩,?_⟩
  have e:(l++s).length=((l++s).map λc=>[U c.toNat]).length:=(an _).symm
  simp only[vK]
  rw[e]
  exact be _
theorem Xf:ad.underlying 196=some (.pointer 5):=zw
theorem aar:ad.cellsOf 5=1:=zw
theorem IE (b:Nat)(c0:AV)(o:Option (Nat×Nat))(l:List UInt8)(a:uL o l)(hl:l.length<=1000000000):
  il ad 47 [.po b 0] (vK b c0 o l) (λr Ho=>r=bg l/\Ho=[]):=by
 refine bq S47.ok<|aC rfl ?_
 have h:(cr l.toArray).size=l.length:=rfl
 cases o with
 |none=>
  simp only[uL]at a
  subst a
  refine aa (xh [] [.at 0,.op (.v (.pointer none)),.at 0] rfl ⟨rfl,λ_ _ _=>aF.X6 rfl ⟨rfl,rfl,rfl⟩,rfl,trivial⟩ ?_)
  refine ai (aF.aao rfl rfl ?_)
  refine eZ rfl<|ab ⟨.inr rfl,_,_,[],rfl,.one (.tmp rfl rfl),⟨rfl,rfl⟩,de _⟩
 |some j=>
  obtain⟨g,cap⟩:=j
  simp only[uL]at a
  have f:(l.map λc=>[U c.toNat]).length=l.length:=an _
  refine aJ.YS 1 rfl λd=>?_
  have e:cap≠0:=by
   rw[f]at d
   have:=List.length_pos_iff.2 a
   omega
  refine aa (xh [] [.at 0,.op (.po g 0),.at 0] rfl ⟨rfl,λ_ _ _=>aF.YP rfl e ⟨rfl,rfl,rfl⟩,rfl,trivial⟩ ?_)
  refine ai (aF.ZB (i:=1) (E:=5) (s:=⟨l.toArray⟩) rfl rfl rfl Xf aar ?_ ?_ ?_)
  ·grind
  ·rw[h];omega
  refine eZ rfl<|ab ⟨.inr rfl,_,_,[],rfl,.one (.tmp rfl rfl),⟨rfl,rfl⟩,de _⟩
abbrev nS (l:List (Int×Int)):List (List AV):=l.map λr=>[I r.1,I r.2]
abbrev gW (f:Form):AV:=.pi [bg f.name,fX f.parts,Bh (bl f.parts)]
theorem xF {α:Type}{l:List α}{k:Nat}{x:α}(h:l[k]? =some x):l.take (k+1)=l.take k++[x]:=by rw[List.take_add_one,h];rfl
abbrev PV (l:List (Int×Int)):Option (Option Addr×Nat)->List (Nat×AV)
 |none=>[]
 |some (a,cap)=>[(28,.jr 96 2 (nS l) a cap)]
abbrev Ix (f:Form)(l:List (Int×Int)):Option (Option Addr×Nat)->List AV
 |none=>[bg f.name,fX f.parts,.nil]
 |some (a,cap)=>[bg f.name,fX f.parts,.v (.slice a l.length cap)]
theorem Tm (f:Form)(E:f.parts.length<=5):Ev ad 336 [.agg f.enc] (gW f):=by
 have r:(f.parts.map Part.enc).length=f.parts.length:=an _;refine ak agK.ok<|bc [.bW] rfl ⟨⟨rfl,rfl⟩,trivial⟩<|aa (av ?_);refine lz [.aI] 3 rfl rfl ⟨⟨rfl,rfl⟩,trivial⟩<|aT.fY (t:=8) rfl (λb=>?_);refine eZ rfl<|ae (aj (cx (j:=0) [bg f.name,fX f.parts,.nil] rfl ⟨aU _,aU _,(λS v h=>by simp only[aR]at h ⊢;exact h),trivial⟩) (ao (l:=[(1,.pi f.enc),(3,.po b 0)]) ⟨rfl,rfl,trivial⟩))<|aa (aa ?_);refine cC rfl<|aJ.gK (Y:=Option (Option Addr×Nat)) (λy=>y=none->bl f.parts=[]) (λy=>el ((3,.po b 0)::PV (bl f.parts) y)) (λy=>[(b,.cells 390 (Ix f (bl f.parts) y))]) (λ_=>[]) ?_ ?_
 ·refine br (X:=Nat×Option (Option Addr×Nat)) (λx=>x.1<=f.parts.length/\(x.2=none->bl (f.parts.take x.1)=[])) (λx=>el ((3,.po b 0)::(10,fX f.parts)::(11,I f.parts.length)::(12,I x.1)::PV (bl (f.parts.take x.1)) x.2))
   (λx=>[(b,.cells 390 (Ix f (bl (f.parts.take x.1)) x.2))]) (λ_=>[]) (λx=>f.parts.length-x.1) (0,none) ⟨zj,λ_=>rfl⟩ (ao ⟨rfl,rfl,by show I _=I _;rw[r],rfl,trivial⟩) ?_
  rintro⟨k,y⟩ ⟨hk,hy⟩;simp only at hk hy ⊢;have D:(bl (f.parts.take k)).length<=5:=Nat.le_trans (OQ _) (by simp;omega);have a:(nS (bl (f.parts.take k))).length=(bl (f.parts.take k)).length:=an _;refine aC rfl<|aa (ag rfl (λhc=>?_) (λhc=>?_))
  ·simp only[nL]at hc;obtain⟨p,w⟩:=aL hc;have u:f.parts.take (k+1)=f.parts.take k++[p]:=xF w;have d:=Ia (f.parts.take k) p;rw[<-u]at d;refine af<|aJ.qq (Y:=Option (Option Addr×Nat)) (λy=>y=none->bl (f.parts.take (k+1))=[]) (λy=>el ((3,.po b 0)::(10,fX f.parts)::(11,I f.parts.length)::(12,I k)::PV (bl (f.parts.take (k+1))) y))
    (λy=>[(b,.cells 390 (Ix f (bl (f.parts.take (k+1))) y))]) (λ_=>[]) ?_ ?_
   ·refine bc [.cells p.enc,.aI] rfl ⟨⟨zz,by simp [w]⟩,rfl,⟨rfl,rfl,rfl,zq⟩,trivial⟩<|ae (aq (t:=5) rfl)<|aC rfl<|ag rfl (λn=>?_) (λn=>?_)
    ·have s:p.roomy=true:=by simp at n;simp [Part.roomy,n]
     rw[if_pos s]at d;cases y with
     |none=>have hy:=hy rfl;rw[hy]at d ⊢;refine xh [] [.at 0,.bW] rfl ⟨rfl,rfl,⟨by show 1*16<=_;decide,by show 1<=_;decide⟩,trivial⟩<|aT.share (t:=28) rfl (λe=>by cases e) (λg cap=>?_);refine ai (aZ (i:=1) rfl rfl rfl rfl rfl rfl (by show 3<=3;decide) ?_);refine aG (bB.soV (i:=0) (t:=28) rfl rfl rfl)<|aG (cx (j:=0) (Ix f [(p.lo,p.hi)] (some (some ⟨g,0,none⟩,cap))) rfl ⟨aU _,aU _,(λS v h=>by simp only[aR]at h ⊢;exact h),trivial⟩)<|bh ⟨some (some ⟨g,0,none⟩,cap),(λe=>by cases e),?_⟩;rw[d];exact eL
     |some z=>obtain⟨A,cap⟩:=z;refine xh [] [.at 0,.bW,.own 28] rfl ⟨rfl,rfl,⟨⟨rfl,rfl,by rw[a]⟩,by rw[a];show ((bl (f.parts.take k)).length+1)*16<=_;omega,by rw[a];show (bl (f.parts.take k)).length+1<=_;omega⟩,trivial⟩ ?_;have C:nS (bl (f.parts.take k)++[(p.lo,p.hi)])=nS (bl (f.parts.take k))++[[I p.lo,I p.hi]]:=az;refine aT.share (t:=28) (es:=nS (bl (f.parts.take k)++[(p.lo,p.hi)])) (by rw[C];rfl) (λe=>by simp [nS]at e) (λg cap=>?_);refine ai (aZ (i:=1) rfl rfl rfl rfl rfl rfl (by show 3<=3;decide) ?_);refine aG (bB.soV (i:=0) (t:=28) rfl rfl rfl) ?_;have m:(nS (bl (f.parts.take k)++[(p.lo,p.hi)])).length=(bl (f.parts.take k)++[(p.lo,p.hi)]).length:=an _;refine aG (cx (j:=0) (Ix f (bl (f.parts.take k)++[(p.lo,p.hi)]) (some (some ⟨g,0,none⟩,cap))) rfl ⟨aU _,aU _,(λS v h=>by simp only[aR]at h ⊢;rw[<-m];exact h),trivial⟩)<|bh ⟨some (some ⟨g,0,none⟩,cap),(λe=>by cases e),?_⟩;rw[d];exact eL
    ·have s:p.roomy=false:=by simp at n;simp [Part.roomy,n]
     rw[if_neg (by simp [s])]at d;rw[d];refine af ⟨y,hy,?_⟩;cases y with
     |none=>exact eL
     |some z=>exact eL
   ·intro y hy;cases y with
    |none=>refine dS rfl ⟨zz,trivial⟩ ?_;exact⟨(k+1,none),⟨zz,hy⟩,by simp only;omega,eL⟩
    |some z=>refine dS rfl ⟨zz,trivial⟩ ?_;exact⟨(k+1,some z),⟨zz,hy⟩,by simp only;omega,eL⟩
  ·simp only[nL]at hc;rw[List.take_of_length_le zz]at hy ⊢;cases y with
   |none=>exact ay ⟨none,hy,eL⟩
   |some z=>exact ay ⟨some z,hy,eL⟩
 ·intro y hy;have a:(nS (bl f.parts)).length=(bl f.parts).length:=an _;have fin: ∀(c:AV) (rest:List (Nat×AV)),ez c (Bh (bl f.parts))->aJ ad none 33 (.seq (.ops [⟨some 32,none,.rF (tm 3)⟩,⟨some 2,none,.rF (tm 32)⟩]) .ret) (pD ad [.tmp 2] (gW f)) (el ((3,.po b 0)::rest)) [(b,.cells 390 [bg f.name,fX f.parts,c])] []:=by intro c rest hc;refine ae (cx (j:=0) [bg f.name,fX f.parts,Bh (bl f.parts)] rfl ⟨aU _,aU _,hc,trivial⟩)<|ae (bB.iA (i:=0) 3 rfl rfl)<|aC rfl<|ab (aB ?_);rfl
  cases y with
  |none=>exact fin .nil [] (by rw[hy rfl];exact gN 2)
  |some z=>
   obtain⟨A,cap⟩:=z;refine aJ.PF 28 rfl (λo q B=>?_) (λg q=>?_)
   ·have o:bl f.parts=[]:=by simpa [nS]using o
    subst q B;refine gm [(3,.po b 0)]<|fin (.v (.slice none (bl f.parts).length 0)) [] ?_;rw[o];intro S v h;rw[aR]at h;show aR S (.sl 2 []) v;rw[aR];exact .inl ⟨⟨none,h⟩,rfl⟩
   ·subst q;refine ae (cx (j:=1) [bg f.name,fX f.parts,.so g (nS (bl f.parts)).length cap] rfl ⟨aU _,aU _,(λS v h=>(a.symm▸h:v=Value.slice (some ⟨g,0,none⟩) (nS (bl f.parts)).length cap)),trivial⟩)<|ae (bB.mF (i:=0) (j:=0) [bg f.name,fX f.parts,Bh (bl f.parts)] rfl rfl ⟨.inl rfl,.inl rfl,.inr ⟨rfl,rfl⟩,trivial⟩)<|gm [(3,.po b 0)] ?_;exact fin _ [] (aU _)
def rP (s:Shelf)(n:Int):Form:=match s.bH[n.toNat]? with|some f=>f|none=>⟨[],[]⟩
def kn (s:Shelf)(n:Int):AV:=if gj s n=0 then gW (rP s n)else .v (.pointer none)
theorem Oh (s:Shelf)(t:s.wf)(n:Int):Ev ad 289 [.agg s.enc,I n] (.bZ [kn s n,I (gj s n)]):=by
 have j:(s.bH.map Form.enc).length=s.bH.length:=an _;have c:=Du s t;refine ak adM.ok ?_;by_cases e:(eD s).2.2=0
 ·have V:=xx.1 e;have p:=V.f4;rw[e]at c;refine bc [.bW] rfl ⟨⟨rfl,rfl⟩,trivial⟩<|aa (aa ?_);refine iO [.ret (.bZ [I (eD s).1,I (eD s).2.1,I 0])] rfl ⟨c,trivial⟩<|aa<|cC rfl<|aD rfl rfl<|aa (aa ?_);have d:=Fz 0 ((s.bH.length:Int)-1) [n];by_cases g:ah 0 ((s.bH.length:Int)-1) [n]=true
  ·have a:gj s n=4:=by unfold gj;rw[if_pos e,if_pos g]
   have i:kn s n= .v (.pointer none):=by unfold kn;rw[if_neg (by rw[a];decide)]
   rw[g]at d;rw[a,i];refine iO [.bW,.wC [I 0,I ((s.bH.length:Int)-1),ints [n]] (B true)] rfl ⟨⟨zz,zz⟩,rfl,⟨d,fL (by rw[<-j];rfl)⟩,trivial⟩<|ax rfl rfl<|aC rfl<|ab (dm ?_ ?_)
   ·rfl
   ·rfl
  ·have g:ah 0 ((s.bH.length:Int)-1) [n]=false:=by simpa using g
   have a:gj s n=0:=by unfold gj;rw[if_pos e,if_neg (by simp [g])]
   have i:kn s n=gW (rP s n):=by unfold kn;rw[if_pos a]
   obtain⟨_,_,o,u,w,f,l,r,q⟩:=CA a;have k:rP s n=f:=by unfold rP;rw[l]
   rw[g]at d;rw[a,i,k];refine iO [.bW,.wC [I 0,I ((s.bH.length:Int)-1),ints [n]] (B false)] rfl ⟨⟨zz,zz⟩,rfl,⟨d,fL (by rw[<-j];rfl)⟩,trivial⟩<|aD rfl rfl<|bc [.cells f.enc,.ret (gW f)] rfl ⟨⟨o,by simp [l]⟩,Tm f r.p5,trivial⟩<|ab (dm ?_ ?_)
   ·rfl
   ·rfl
 ·have a:gj s n=(eD s).2.2:=by unfold gj;rw[if_neg e]
  have i:kn s n= .v (.pointer none):=by unfold kn;rw[if_neg (by rw[a];exact e)]
  rw[a,i];generalize (eD s).2.2=m at e c;refine bc [.bW] rfl ⟨⟨rfl,rfl⟩,trivial⟩<|aa (aa ?_);refine iO [.ret (.bZ [I (eD s).1,I (eD s).2.1,I m])] rfl ⟨c,trivial⟩<|aa<|cC rfl<|ag (b:=true) (by show B _=B _;simp [e]) (λ_=>?_) (λh=>by cases h);refine aC rfl<|ab (dm ?_ ?_)
  ·rfl
  ·rfl
abbrev dx (ms:List Int):List AV:=ms.map λn=>I n
def fJ (c:List Nat):List Int:=(c.map λ(n:Nat)=>(n:Int))++b4 (5-c.length) 0
abbrev uT (c:List Nat):AV:=.agg (dx (fJ c))
theorem N8 (f:Form):Ev ad 337 [gW f] (.fn (.func 366) [] [.pi [gW f]]):=by refine ak agD.ok<|bc [.bW] rfl ⟨⟨rfl,rfl⟩,trivial⟩<|aC rfl<|ab (aB ?_);rfl
def XX (f:Form)(y:AV)(bm b5:Nat):AV:=.fn (.func 367) [] [.pi [gW f],.pi [y],.po bm 0,.po b5 0]
def pv (f:Form)(y:AV)(bm b5:Nat):Nat×cP:=(b5,.cells 172 [XX f y bm b5])
def TG (bm:Nat)(ms:List Int):Nat×cP:=(bm,.cells 385 (dx ms))
structure OY (L k:Nat)(pre:List Nat)(ms:List Int):Prop where
 len:ms.length=5
 pre:ms.take k=pre.map λ(n:Nat)=>(n:Int)
 zero:ms.drop L=b4 (5-L) 0
theorem KD (ms:List Int)(k:Nat)(n:Int)(h:k<ms.length):bK (dx ms) (0+(k:Int).toNat*1) [I n]=dx (ms.set k n):=by unfold bK dx;rw[cA,Nat.zero_add,ew,List.map_set,List.set_eq_take_append_cons_drop,if_pos (by simpa using h)];simp
theorem HJ {α:Type}{l:List α}(h:l.length=5): ∃a b c d e,l=[a,b,c,d,e]:=by
 match l,h with
 |[a,b,c,d,e],_=>grind
section
variable (T:List (List Nat)->Heap) (all:List (List Nat)) (y:Fn) (f:Form) (bm b5:Nat)
theorem Q9 (Z:(bl f.parts).length<=5)(U: ∀r∈bl f.parts,0<=r.1/\r.1<=r.2/\1<=r.2/\r.2<=3)(hy: ∀a c rest,a++c::rest=all->Pn ad y [] [uT c] (T a) (λr Ho=>r=B true/\Ho=T (a++[c]))):
  ∀(rs:List (Int×Int)) (k:Nat) (pre:List Nat) (ms:List Int) (a rest:List (List Nat)),(bl f.parts).drop k=rs->k<=(bl f.parts).length->pre.length=k->OY (bl f.parts).length k pre ms->a++((jc rs).map (pre++ ·)++rest)=all->
   il ad 367 [I k,.pi [gW f],.pi [.fn y [] []],.po bm 0,.po b5 0] (pv f (.fn y [] []) bm b5::TG bm ms::T a)
    (λr Ho=>r=B true/\ ∃H,OY (bl f.parts).length k pre H/\Ho=pv f (.fn y [] []) bm b5::TG bm H::T (a++(jc rs).map (pre++ ·))):=by
 generalize hR:bl f.parts=R at Z U
 have g:gW f= .pi [bg f.name,fX f.parts,Bh R]:=by rw[<-hR]
 have D:(R.map λr=>[I r.1,I r.2]).length=R.length:=an _
 intro rs
 induction rs with
 |nil=>
  intro k pre ms a rest hd hk J hm d
  have s:k=R.length:=by
   have:=congrArg List.length hd
   simp at this;omega
  have F:ms=fJ pre:=by
   have u:=hm.pre
   have W:=hm.zero
   rw[s]at u
   have:=b3 R.length ms
   rw[u,W]at this
   rw[<-this]
   unfold fJ
   rw[J,s]
  obtain⟨a0,a1,w,A,C,rfl⟩:=HJ hm.len
  refine bq acT.ok<|aC rfl<|aa (aa ?_)
  rw[g]
  refine cC rfl<|ag (b:=true) (by show B _=B _;rw[D,s];simp) (λ_=>?_) (λh=>by cases h)
  refine aa (av ?_)
  refine lz [.at 1] 2 rfl rfl ⟨rfl,trivial⟩<|aG (cd (b1 (l₁:=[pv f (.fn y [] []) bm b5,TG bm [a0,a1,w,A,C]]) (l₂:=T a)))<|ai (bP (Hin:=T a) (H0:=[pv f (.fn y [] []) bm b5,TG bm [a0,a1,w,A,C]]) rfl (hy a pre rest (by simpa [jc]using d)) rfl rfl (fL (by show [AV.agg (dx [a0,a1,w,A,C])]=[uT pre];rw[F])) rfl ?_)
  rintro res v ⟨rfl,rfl⟩
  refine aG (cd (b1 (l₁:=T (a++[pre])) (l₂:=[pv f (.fn y [] []) bm b5,TG bm [a0,a1,w,A,C]])))<|eZ rfl<|ab ⟨.inr rfl,_,_,_,rfl,.one (.tmp rfl rfl),⟨rfl,[a0,a1,w,A,C],hm,?_⟩,be _⟩
  simp [jc]
 |cons r rs ih=>
  intro k pre ms a rest hd hk J hm d
  have o:R[k]? =some r:=by
   have:=congrArg (λl=>l[0]?) hd
   simpa using this
  have N:R.drop (k+1)=rs:=by
   have:=drop_cons o
   rw[hd]at this
   exact(eS this).2.symm
  have s:k<R.length:=(a7.1 o).1
  obtain⟨r0,r1,r2,r3⟩:=U r (ap o)
  refine bq acT.ok<|aC rfl<|aa (aa ?_)
  rw[g]
  refine cC rfl<|ag (b:=false) (by show B _=B _;rw[D];congr 2;simp;omega) (λh=>by cases h) (λ_=>af ?_)
  refine aa (aa ?_)
  refine iO [.cells [I r.1,I r.2]] rfl ⟨⟨zz,by simp [o]⟩,trivial⟩ ?_
  rw[<-g]
  generalize hq:(r.2+1-r.1).toNat=q
  have S:upto r.1 r.2=(a6 q).map λj=>r.1.toNat+j:=by unfold upto;rw[hq]
  let G:Nat->List (List Nat):=λj=>((a6 j).map λj=>r.1.toNat+j).flatMap λn=>(jc rs).map ((pre++[n])++ ·)
  have hG:(jc (r::rs)).map (pre++ ·)=G q:=by
   show ((upto r.1 r.2).flatMap λn=>(jc rs).map (n:: ·)).map (pre++ ·)=_
   rw[S,List.map_flatMap]
   show _=((a6 q).map λj=>r.1.toNat+j).flatMap λn=>(jc rs).map ((pre++[n])++ ·)
   congr 1
   funext n
   rw[List.map_map]
   congr 1
   funext l
   simp
  have M: ∀j,G (j+1)=G j++(jc rs).map ((pre++[r.1.toNat+j])++ ·):=by
   intro j
   show ((a6 (j+1)).map λj=>r.1.toNat+j).flatMap _=_
   rw[List.range_succ,az,b9]
   simp [G]
  let K:Nat->List (List Nat):=λj=>(((a6 q).drop (j+1)).map λj=>r.1.toNat+j).flatMap (λn=>(jc rs).map ((pre++[n])++ ·))++rest
  have L: ∀j,j<q->G j++((jc rs).map ((pre++[r.1.toNat+j])++ ·)++K j)=G q++rest:=by
   intro j O
   have e:a6 q=a6 j++j::(a6 q).drop (j+1):=by
    have u:=(b3 j (a6 q)).symm
    rw[drop_cons (x:=j) (by simp [O])]at u
    rw[List.take_range,dn zz]at u
    exact u
   have:G q=G j++((jc rs).map ((pre++[r.1.toNat+j])++ ·)++(((a6 q).drop (j+1)).map λj=>r.1.toNat+j).flatMap (λn=>(jc rs).map ((pre++[n])++ ·))):=by
    show ((a6 q).map λj=>r.1.toNat+j).flatMap _=_
    conv=>lhs;rw[e]
    rw[az,b9,ej,List.flatMap_cons]
   rw[this]
   simp [K]
  rw[hG]at d ⊢
  have a5:=hm
  refine aJ.gK (Y:=List Int) (λm=>OY R.length k pre m) (λ_=>el []) (λm=>pv f (.fn y [] []) bm b5::TG bm m::T (a++G q)) (λ_=>[]) ?_ ?_
  ·refine br (X:=Nat×List Int) (λz=>z.1<=q/\OY R.length k pre z.2) (λz=>el [(0,I k),(1,.pi [gW f]),(2,.pi [.fn y [] []]),(3,.po bm 0),(4,.po b5 0),(7,I (r.1+z.1))])
    (λz=>pv f (.fn y [] []) bm b5::TG bm z.2::T (a++G z.1)) (λ_=>[]) (λz=>q-z.1) (0,ms) ⟨zj,hm⟩
    (aj (ar (by simp [G])) (ao ⟨rfl,rfl,rfl,rfl,rfl,by show I _=I _;simp,trivial⟩)) ?_
   rintro⟨j,m⟩ ⟨O,hm⟩
   simp only at O hm ⊢
   have E:=hm.len
   refine aa (aa ?_)
   rw[g]
   refine iO [.cells [I r.1,I r.2]] rfl ⟨⟨zz,by simp [o]⟩,trivial⟩ ?_
   rw[<-g]
   refine ag rfl (λhc=>?_) (λhc=>?_)
   ·simp only[decide_eq_true_eq]at hc
    have p:j<q:=zz
    refine af (aa (au ?_))
    refine aa (av ?_)
    refine OF 3 rfl rfl ⟨⟨zz,zz⟩,trivial⟩<|ai (aZ (i:=1) rfl rfl rfl rfl rfl rfl (by simp [E];omega) ?_)
    refine aG (ar (H':=pv f (.fn y [] []) bm b5::TG bm (m.set k (r.1+j))::T (a++G j)) (by
     have:=KD m k (r.1+j) zz
     show _::(bm,cP.cells 385 (bK (dx m) (0+(k:Int).toNat*1) [I (r.1+j)]))::_=_
     rw[this];rfl))<|eZ rfl<|aa (av ?_)
    refine lz [.at 0] 3 rfl rfl ⟨rfl,zz,trivial⟩ ?_
    have P:OY R.length (k+1) (pre++[r.1.toNat+j]) (m.set k (r.1+j)):=by
     refine⟨by rw[List.length_set,E],?_,?_⟩
     ·rw[xF (x:=r.1+j) (by simp [List.getElem?_set];omega),List.take_set_of_le zz,hm.pre,az]
      simp;omega
     ·rw[List.drop_set_of_lt zz,hm.zero]
    refine ai (bP (Hin:=pv f (.fn y [] []) bm b5::TG bm (m.set k (r.1+j))::T (a++G j)) (H0:=[]) rfl (ih (k+1) (pre++[r.1.toNat+j]) _ (a++G j) (K j) N zz (by simp [J]) P (by rw[<-d,<-L j p];simp)) rfl rfl (aK _) zj ?_)
    rintro res v ⟨rfl,V,t,rfl⟩
    refine eZ rfl<|aD rfl rfl ?_
    have Q:OY R.length k pre V:=by
     refine⟨t.len,?_,t.zero⟩
     have:=congrArg (List.take k) t.pre
     rw[List.take_take,dn zz]at this
     rw[this,az,List.take_left' (by simp [J])]
    refine dS rfl ⟨zz,trivial⟩ ?_
    refine⟨(j+1,V),⟨p,Q⟩,by simp only;omega,aj (ar ?_) (ao ⟨rfl,rfl,rfl,rfl,rfl,?_,trivial⟩)⟩
    ·rw[M];simp
    ·refine congrArg (λz:Int=>I z) ?_
     simp only[Int.natCast_add,Int.natCast_one]
     omega
   ·simp only[decide_eq_false_iff_not]at hc
    have p:j=q:=zz
    subst p
    exact ay ⟨m,hm,ao trivial⟩
  ·intro m hm
   refine aC rfl<|ab ⟨.inr rfl,_,_,_,rfl,.one (.tmp rfl rfl),⟨rfl,m,hm,rfl⟩,be _⟩
theorem Ju (d:(bl f.parts).length<=5)(h: ∀r∈bl f.parts,0<=r.1/\r.1<=r.2/\1<=r.2/\r.2<=3)(a:all=jc (bl f.parts))(hy: ∀b c rest,b++c::rest=all->Pn ad y [] [uT c] (T b) (λr Ho=>r=B true/\Ho=T (b++[c]))):
  il ad 366 [.fn y [] [],.pi [gW f]] (T []) (λ_ Ho=>Ho=T all):=by
 refine bq aef.ok<|bc [.bW] rfl ⟨⟨rfl,rfl⟩,trivial⟩<|aa (av (ai (aF.alloc rfl (λbm=>?_))))
 refine eZ rfl<|aa (av (ai (aF.alloc rfl (λb5=>?_))))
 refine eZ rfl<|aa (av ?_)
 refine kL 1 rfl rfl<|ai (aZ (i:=0) rfl rfl rfl rfl rfl rfl zq ?_)
 refine eZ rfl<|av<|lz [.at 0] 1 rfl rfl ⟨rfl,trivial⟩<|ai (bP (Hin:=pv f (.fn y [] []) bm b5::TG bm [0,0,0,0,0]::T []) (H0:=[]) rfl (Q9 T all y f bm b5 d h hy (bl f.parts) 0 [] [0,0,0,0,0] [] [] rfl zz rfl ⟨rfl,rfl,?_⟩ (by rw[a];simp)) rfl rfl (aK _) (by simp only[bt];rfl) ?_)
 ·generalize (bl f.parts).length=L at d
  match L,d with
  |0,_=>rfl
  |1,_=>rfl
  |2,_=>rfl
  |3,_=>rfl
  |4,_=>rfl
  |5,_=>rfl
 rintro res g ⟨rfl,m,hm,rfl⟩
 refine eZ rfl ?_
 refine⟨.inl rfl,_,.bZ [],_,rfl,.many zq trivial,rfl,?_⟩
 simp only[bt]
 have e:[]++(jc (bl f.parts)).map ([]++ ·)=all:=by rw[a];simp
 rw[e]
 exact ey (bk _ _) (bk _ _)
end
theorem Gu {c:List Nat}{q m:Nat}(h:c[q]? =some m):(dx (fJ c)).drop q=I m::(dx (fJ c)).drop (q+1):=by refine drop_cons ?_;unfold dx fJ;rw[cD,List.getElem?_append_left zx,cD,h];rfl
theorem yV (ms:List Int):(dx ms).all AV.dW=true:=by unfold dx;rw[List.all_map,List.all_eq_true];intro n _;rfl
theorem Kl (m:Nat):(b4 m ([Value.string ⟨#[]⟩].map AV.v))=(qM m).map λs=>[bg s]:=by rw[qM,List.map_replicate];rfl
theorem RY (f:Form)(c:List Nat)(A:c.length=(bl f.parts).length)(C:c.length<=5)(u:(eW f.parts c).length<=1000):Ev ad 339 [gW f,uT c] (strs (eW f.parts c)):=by
 have o:(f.parts.map Part.enc).length=f.parts.length:=an _;refine ak adF.ok<|bc [.bW] rfl ⟨⟨rfl,by show (dx (fJ c)).all AV.dW=true;exact yV _⟩,trivial⟩<|gm [(0,gW f),(3,.pi (dx (fJ c))),(4,.nil)]<|aC rfl<|aa (aa ?_);refine cC rfl<|cH 12 rfl λz=>bE True (el [(4,.aI 9 1 ((eW f.parts c).map λs=>[bg s]))]) [] [] ?_ ?_
 ·refine br (λx:Nat×Nat×List Wd=>x.1<=f.parts.length/\x.2.1+(bl (f.parts.drop x.1)).length=c.length/\eW f.parts c=x.2.2++eW (f.parts.drop x.1) (c.drop x.2.1)) (λx=>el [(3,.pi (dx (fJ c))),(4,.aI 9 1 (x.2.2.map λs=>[bg s])),(5,I x.2.1),(12,fX f.parts),(13,I f.parts.length),(14,I x.1)]) (λ_=>[]) (λ_=>[]) (λx=>f.parts.length-x.1) (0,0,[]) ⟨zz,by simp [A],rfl⟩
   (aj (bB.ln (t:=4) 9 1 rfl) (ao ⟨rfl,rfl,rfl,rfl,by show I _=I _;rw[o],rfl,trivial⟩)) ?_
  rintro⟨k,q,acc⟩ ⟨hk,h,hi⟩;simp only at hk h hi;have y:acc.length<=1000:=zx
  have a:(acc.map λs=>[bg s]).length=acc.length:=an _;refine gm [(3,.pi (dx (fJ c))),(4,.aI 9 1 (acc.map λs=>[bg s])),(5,I q),(12,fX f.parts),(13,I f.parts.length),(14,I k)]<|aC rfl<|aa (ag rfl (λhe=>?_) (λhe=>?_))
  ·simp only[nL]at he;obtain⟨p,hx⟩:=aL he;rw[drop_cons hx,sf]at h;rw[drop_cons hx,eW]at hi;refine af<|aJ.qq (λx:Nat×List Wd=>x.1+(bl (f.parts.drop (k+1))).length=c.length/\eW f.parts c=x.2++eW (f.parts.drop (k+1)) (c.drop x.1)) (λx=>el [(3,.pi (dx (fJ c))),(4,.aI 9 1 (x.2.map λs=>[bg s])),(5,I x.1),(12,fX f.parts),(13,I f.parts.length),(14,I k)]) (λ_=>[]) (λ_=>[]) ?_ ?_
   ·refine bc [.cells p.enc,.aI] rfl ⟨⟨zz,by simp [hx]⟩,rfl,⟨rfl,rfl,rfl,zq⟩,trivial⟩<|ae (aq (t:=7) rfl) ?_;have b:(p.words.map λs=>[bg s]).length=p.words.length:=an _;refine aa (aa ?_);refine cC rfl<|ag rfl (λd=>?_) (λd=>af ?_)
    ·have g:p.words≠[]:=by intro e;simp [e]at d
     have d: ¬p.roomy=true:=by simp [Part.roomy,g]
     rw[if_neg d]at h hi;have r:acc.length+p.words.length<=1000:=by rw[hi,a8,a8]at u;omega
     refine FD rfl ⟨⟨by rw[a,b];omega,by rw[a,b];omega⟩,trivial⟩ ?_;exact ay ⟨(q,acc++p.words),⟨h,by rw[hi,cB]⟩,ao ⟨rfl,by show AV.aI _ _ _=_;rw[az],rfl,rfl,rfl,rfl,trivial⟩⟩
    ·have g:p.words=[]:=by simpa using d
     have d:p.roomy=true:=by simp [Part.roomy,g]
     rw[if_pos d]at h hi;simp only[c8]at h;obtain⟨m,hg⟩:=aL (l:=c) (k:=q) zz;rw[drop_cons hg,bx,b6]at hi;have j:(qM m).length=m:=b0;have r:acc.length+m<=1000:=by rw[hi,a8,a8,j]at u;omega
     refine aa (av ?_);refine OF 3 rfl rfl ⟨⟨zz,zz⟩,trivial⟩<|aG (ao (l:=[(3,.pi (dx (fJ c))),(26,.aI 9 1 (acc.map λs=>[bg s])),(28,.pi (I m::(dx (fJ c)).drop (q+1))),(5,I q),(12,fX f.parts),(13,I f.parts.length),(14,I k)]) ⟨rfl,rfl,by
      show AV.pi ((dx (fJ c)).drop ((q:Int).toNat*1))=_
      rw[cA,ew,Gu hg],rfl,rfl,rfl,rfl,trivial⟩)<|kL 1 rfl rfl<|ai (aF.mn m rfl rfl rfl (by rw[a];omega) (by rw[a];omega) rfl ?_);refine eZ rfl<|dS rfl ⟨zz,trivial⟩ ?_;refine⟨(q+1,acc++qM m),⟨by simp only;omega,by rw[hi,cB]⟩,ao ⟨rfl,?_,rfl,rfl,rfl,rfl,trivial⟩⟩;show AV.aI _ _ _=_;rw[az,<-Kl]
   rintro⟨B,i⟩ ⟨v,w⟩;refine dS rfl ⟨zz,trivial⟩ ?_;exact⟨(k+1,B,i),⟨by simp only;omega,v,w⟩,by simp only;omega,eL⟩
  ·simp only[nL]at he;refine ay ⟨(),trivial,ao ⟨?_,trivial⟩⟩;have n:f.parts.drop k=[]:=List.drop_eq_nil_of_le zz;rw[hi,n,eW,bt];rfl
 intro _ _;refine aC rfl<|ae (bB.ga (t:=4) rfl)<|ab (aB ?_);rfl
end Go.Px
