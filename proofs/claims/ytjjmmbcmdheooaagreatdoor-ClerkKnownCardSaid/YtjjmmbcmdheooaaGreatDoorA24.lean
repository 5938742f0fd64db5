/- Part 24 of the proof of a statement of this seat (a logic of pure contracts; the functions; their contracts). No conditions. -/
import Derived.Test.YtjjmmbcmdheooaaGreatDoorA23
open And renaming intro->cc
open Array.mk renaming injEq->eT
open Bool renaming or_eq_true->bI,eq_iff_iff->de
open Classical renaming not_not->b4
open Decidable renaming byContradiction->ek
open Go.Lit renaming int->et
open Go.Program renaming keyLits->ds
open Go.Proofs.Tryz renaming prog->ad,underlying153->cA,underlying68->c8
open Go.Value renaming formed->eu,cells->ey
open Go.Value.agg renaming injEq->eS
open Go.Value.bool renaming injEq->eP
open Go.Value.int renaming injEq->ea
open Int renaming toNat_natCast->an,eq_ofNat_of_zero_le->a6,natCast_inj->dk
open List renaming nil_sublist->ap,length_cons->a8,append_nil->be,length_map->bi,length_nil->bk,range->bm,append_assoc->bs,getElem?_map->bt,map_append->b0,mem_singleton->b1,getElem?_eq_some_iff->b3,sublist_cons_self->b6,range_succ->b8,perm_append_comm->b9,count_le_length->cb,length_append->cr,any_eq_false->cB,length_range->cD,nil_append->dl,Sublist->er
open List.Perm renaming refl->ec,swap->ej
open List.Sublist renaming refl->az,append->eM
open List.cons renaming injEq->b7
open Nat renaming le_refl->a7,pow_le_pow_right->bx,pow_lt_pow_right->bA,le_trans->cR,or_lt_two_pow->c7,two_pow_pos->dn,zero_le->ew
open Prod.mk renaming injEq->en
namespace Go.Px
open Go.Proofs Go.MapKept
theorem Su {l:List Int}{below:Int}(h:(mL l below).2=0)(d:below<=60): ∃s:Nat,(mL l below).1=(s:Nat)/\s<2^60:=by
 unfold mL at h ⊢;by_cases a:ah 0 (below-1) l=true
 ·grind
 rw[if_neg a]at h ⊢;by_cases b:(bm l.length).all (λi=>i==0||decide (l.getD (i-1) 0<l.getD i 0))=false
 ·grind
 rw[if_neg b];refine⟨_,rfl,?_⟩
 have:=Hn (l:=l) (m:=60) (λn c=>by
  rw[Bool.not_eq_true]at a
  unfold ah at a
  rw[cB]at a
  have:=a n c
  simp only[bI,decide_eq_true_eq,not_or]at this
  omega) l.length
 unfold rm at this;rwa [List.take_length]at this
theorem SE {c:lH}(o:c.wf)(p:Int)(words:List Int):Ev ad 230 [.agg c.enc,I p,ints words] (.bZ [ints (oQ c p words).1,I (oQ c p words).2]):=by
 have v:=o.pn;have n:((c.pe.map λs=>[bg s]).length:Int)=c.pe.length:=zj
 have u:=yq o [(p,c.pe.length)] zj zx
 have a:oQ c p words=if fV c [(p,c.pe.length)]≠0 then([],fV c [(p,c.pe.length)])
  else if (mL words c.wo).2≠0 then([],(mL words c.wo).2)
  else(cM (oY c p.toNat (mL words c.wo).1.toNat:Nat) c.co.length,0):=rfl
 refine ak afD.ok<|bc [.bW] rfl ⟨⟨rfl,rfl⟩,trivial⟩<|aa (av ?_);refine lz [.bW] 6 rfl rfl ⟨rfl,trivial⟩<|ai (bU (Hin:=[]) (H0:=[]) u rfl rfl (fL (by rw[<-n];rfl)) rfl ?_);rintro r Ho w;rcases w with⟨f,rfl⟩|⟨f,rfl⟩
 case inr=>
  rw[if_pos f]at a;refine aG (du (H':=[]) (ap _))<|eZ rfl<|aa (aa ?_);refine cC rfl<|ax rfl zx<|aC rfl<|ae (bB.jD (t:=6) 1 rfl)<|ab (dm ?_ ?_)
  ·rw[a];rfl
  ·rw[a];rfl
 rw[if_neg (by rw[f];decide)]at a;obtain⟨ok,i⟩:=xL o f;have e:=pq (i (p,(c.pe.length:Int)) zj);simp only at e;obtain⟨pn,rfl⟩:=a6 e.1;have x:=ok.wo;have b:=UQ words c.wo zz;have d:=λh=>Su (l:=words) (below:=c.wo) h zz;generalize (mL words c.wo).1=q at b a d;generalize (mL words c.wo).2=b2 at b a d;refine aG (du (H':=[]) (ap _))<|eZ rfl<|aa (aa ?_);refine cC rfl<|aD rfl rfl<|bc [.ret (.bZ [I q,I b2])] rfl ⟨b,trivial⟩<|aa (aa ?_);refine cC rfl ?_;by_cases g:b2=0
 case neg=>
  rw[if_pos g]at a;refine ax rfl zx<|aC rfl<|ae (bB.jD (t:=6) 1 rfl)<|ab (dm ?_ ?_)
  ·rw[a];rfl
  ·rw[a];rfl
 rw[if_neg (by simp [g])]at a;obtain⟨s,rfl,hs⟩:=d g;rw[an,an]at a;have j:=HF ok pn s zz hs;have k:=Az c pn s c.co.length;have m:=dN (Gf (oY c pn s) c.co.length k (by have:=ok.c6;omega));refine aD rfl (by rw[g];rfl)<|bc [.ret (I (oY c pn s:Nat)),.ret (ints (cM (oY c pn s:Nat) c.co.length))] rfl ⟨j,m,trivial⟩<|ab (dm ?_ ?_)
 ·rw[a];rfl
 ·rw[a];rfl
def pW (c:lH)(n:Nat):List nU×List Int:=(bm n).foldl oR (c.co,[])
theorem Bn (c:lH)(n:Nat):pW c (n+1)=oR (pW c n) n:=by unfold pW;rw[b8,List.foldl_append];rfl
theorem DC (c:lH): ∀n:Nat,(pW c n).2.length<=n/\(pW c n).1.length<=c.co.length
 |0=>⟨a7 _,a7 _⟩
 |n+1=>by
  have a:=DC c n
  rw[Bn]
  unfold oR
  split
  ·rename_i y r e
   rw[e,a8]at a
   split
   ·exact⟨by simp only;omega,by simp only;omega⟩
   ·exact⟨by simp only[cr,a8,bk];omega,by rw[e,a8];omega⟩
  ·exact⟨by simp only[cr,a8,bk];omega,zj⟩
theorem Rq {c:lH}(o:c.wf):Ev ad 251 [.agg c.enc] (.bZ [ints (rq c).1,I (rq c).2]):=by
 have g:((c.co.map nU.enc).length:Int)=c.co.length:=zj
 have q:=yq o [] zj zj;have d:rq c=if fV c []≠0 then([],fV c [])else((pW c c.la.toNat).2,0):=rfl
 refine ak afn.ok<|bc [.bW] rfl ⟨⟨rfl,rfl⟩,trivial⟩<|aa (aa (av ?_));refine kL 1 rfl rfl<|ai (bU (Hin:=[]) (H0:=[]) q rfl rfl (.cons (.jD (.refl _))) rfl ?_);rintro r Ho v;rcases v with⟨n,rfl⟩|⟨n,rfl⟩
 case inr=>
  rw[if_pos n]at d;refine aG (du (H':=[]) (ap _))<|eZ rfl<|aa<|cC rfl<|ax rfl zx<|aC rfl<|ae (bB.jD (t:=2) 1 rfl)<|ab (dm ?_ ?_)
  ·rw[d];rfl
  ·rw[d];rfl
 rw[if_neg (by rw[n];decide)]at d;obtain⟨ok,-⟩:=xL o n;have c6:=ok.c6;obtain⟨l0,w⟩:=ok.la;obtain⟨la,m⟩:=a6 l0;rw[m,an]at d;refine aG (du (H':=[]) (ap _))<|eZ rfl<|aa<|cC rfl<|aD rfl rfl<|aa (av ?_);refine kL 3 rfl rfl<|ai (aF.gR c.co.length rfl rfl g g zz zz rfl (λb=>?_));refine eZ rfl<|aa (av ?_);refine kL 3 rfl rfl<|ai (aF.WL (i:=0) (ys:=c.co.map nU.enc) rfl rfl rfl zj ?_);refine eZ rfl<|ae (aj (ar (H':=[(b,.arr 68 4 c.co.length (c.co.map nU.enc))]) zj) (ao (l:=[(1,.pi c.enc),(2,.nil),(4,.so b c.co.length c.co.length)]) ⟨rfl,rfl,by show AV.so _ _ _=_;simp,trivial⟩))<|ae (bB.tF (t:=4) (i:=0) (es:=c.co.map nU.enc) (b:=b) (cap:=c.co.length) (kk:=4) (T:=68) (by show AV.so _ _ _=_;simp) rfl)<|ae (aj (ar (H':=[]) rfl) (ao (l:=[(1,.pi c.enc),(2,.nil),(4,ky c.co)]) ⟨rfl,rfl,rfl,trivial⟩))<|aa (aa ?_);refine cC rfl<|bE True (el [(2,.aI 3 1 ((pW c la).2.map λx=>[I x]))]) [] [] ?_ ?_
 ·refine dE (λk:Nat=>k<=la) (λk=>el [(2,.aI 3 1 ((pW c k).2.map λx=>[I x])),(4,ky (pW c k).1),(23,I la),(24,I k)]) (λk=>la-k) 0 zz
   (aj (bB.ln (t:=2) 3 1 rfl) (ao ⟨rfl,rfl,by show I _=I _;rw[m],rfl,trivial⟩)) ?_
  intro k hk;refine aC rfl<|aa (ag rfl (λhc=>?_) (λhc=>?_))
  ·simp only[nL]at hc;have f:=Bn c k;obtain⟨j,h⟩:=DC c k;refine af<|cX True (el [(2,.aI 3 1 ((pW c (k+1)).2.map λx=>[I x])),(4,ky (pW c (k+1)).1),(23,I la),(24,I k)]) [] [] ?_ ?_
   ·generalize pW c k=st at f h j;generalize pW c (k+1)=z at f;subst f;obtain⟨left,out⟩:=st;simp only at h j;have u:((left.map nU.enc).length:Int)=left.length:=zj
    let bb:Bool:=match left with|[]=>false|y::_=>y.nu==(k:Int)+1
    refine aC rfl<|dZ (bb=false) (el [(2,.aI 3 1 (out.map λx=>[I x])),(4,ky left),(5,I k),(23,I la),(24,I k)]) [] [] ?_ ?_
    ·refine dZ True (el [(2,.aI 3 1 (out.map λx=>[I x])),(4,ky left),(5,I k),(23,I la),(24,I k),(38,B bb)]) [] [] ?_ ?_
     ·cases left with
      |nil=>refine js [(30,false)] [] rfl (by(and_intros);(all_goals first|exact zk _|((rfl)))) ?_;exact⟨(),trivial,eL⟩
      |cons y r=>
       have p:decide ((((y::r).map nU.enc).length:Int)>0)=true:=zj
       refine js [(30,true)] [.cells y.enc] rfl (by(and_intros);(all_goals first|exact zk _|((first|exact p|rfl|(simp;done)|(simp;omega))))) ?_;exact⟨(),trivial,eL⟩
     intro _ _;cases a:bb with
     |false=>exact aD rfl rfl ⟨(),rfl,eL⟩
     |true=>
      cases left with
      |nil=>exact absurd (show false=true from a) zq
      |cons y r=>
       have a:(y.nu==(k:Int)+1)=true:=a;rw[beq_iff_eq]at a;refine ax rfl rfl<|FD rfl (by(and_intros);(all_goals first|exact zk _|((first|(simp;done)|(simp;omega)))))<|ay ⟨(),trivial,ao ⟨?_,?_,rfl,rfl,trivial⟩⟩
       ·show AV.aI 3 1 _=AV.aI 3 1 _;unfold oR;simp only;rw[if_pos a]
       ·show AV.sl 4 _=AV.sl 4 _;unfold oR;simp only;rw[if_pos a];rfl
    ·intro _ a
     have s:oR (left,out) k=(left,out++[(k:Int)+1]):=by
      unfold oR;cases left with
      |nil=>rfl
      |cons y r=>have a:(y.nu==(k:Int)+1)=false:=a;rw[beq_eq_false_iff_ne]at a;simp only;rw[if_neg a]
     rw[s];refine iO [.bW] rfl ⟨⟨zz,zz⟩,rfl,⟨by simp only[bi,chunk,a8,bk];omega,by simp only[bi,chunk,a8,bk];omega⟩,trivial⟩ ?_;refine⟨(),trivial,ao ⟨?_,rfl,rfl,rfl,trivial⟩⟩;show AV.aI 3 1 _=AV.aI 3 1 _;rw[b0];rfl
   ·intro _ _;refine dS rfl ⟨zz,trivial⟩ ?_;exact⟨k+1,hc,zz,eL⟩
  ·simp only[nL]at hc;have e:k=la:=zz
   subst e;exact ay ⟨(),trivial,eL⟩
 ·intro _ _;refine aC rfl<|ae (bB.ga (t:=2) rfl)<|ab (dm ?_ ?_)
  ·rw[d];rfl
  ·rw[d];rfl
def fp (n left i set:Nat):List Nat:=se n (n-i) i left set
theorem Ks (n i set:Nat):fp n 0 i set=[set]:=by unfold fp;cases n-i<;>rfl
theorem IF {n left i set:Nat}(h:i+(left+1)<=n):fp n (left+1) i set=fp n left (i+1) (set ||| 2^i)++fp n (left+1) (i+1) set:=by unfold fp;rw[show n-i=(n-(i+1))+1 from zz,se,if_pos h]
theorem KQ {n left i set:Nat}(h: ¬i+(left+1)<=n):fp n (left+1) i set=[]:=by
 unfold fp;cases n-i with
 |zero=>rfl
 |succ d=>rw[se,if_neg h]
theorem Aw {n:Nat}: ∀(d i left set:Nat),set<2^n-> ∀s∈se n d i left set,s<2^n
 |0,i,0,set,h,s,hs=>by
  rw[se]at hs
  simp only[b1]at hs;subst hs;exact h
 |d+1,i,0,set,h,s,hs=>by
  rw[se]at hs
  simp only[b1]at hs;subst hs;exact h
 |0,i,left+1,set,h,s,hs=>by
  rw[se]at hs;cases hs
 |d+1,i,left+1,set,h,s,hs=>by
  rw[se]at hs
  split at hs
  ·rcases List.mem_append.1 hs with hs|hs
   ·exact Aw d (i+1) left _ (c7 h (bA zz zz)) s hs
   ·exact Aw d (i+1) (left+1) set h s hs
  ·cases hs
abbrev EW (n:Nat):List Int:=(bm n).map λ(i:Nat)=>(i:Int)
theorem Uz {n i:Nat}(h:i<n):(EW n)[i]? =some (i:Int):=by unfold EW;rw[bt,List.getElem?_range h];rfl
theorem Lv (n:Nat):(((EW n).map λx=>[I x]).length:Int)=n:=zj
section
variable (l bn n:Nat)
def Xi:AV:=.fn (.func 370) [] [.pi [Yv l],.pi [ints (EW n)],.po bn 0]
abbrev V7:Nat×cP:=(bn,.cells 482 [Xi l bn n])
end
def XO (l:Nat){X:Type}(f:X->Nat->J×X)(W:J->X->Heap)(x0:X)(L:List Nat):Prop:=
 ∀(a:List Nat) (s:Nat) (b:List Nat),L=a++s::b->(aQ f a x0).1= .go->zX ad l [I (s:Nat)] (W .go (aQ f a x0).2)
  (λres Ho=>res=B (f (aQ f a x0).2 s).1.on/\Ho=W (f (aQ f a x0).2 s).1 (f (aQ f a x0).2 s).2)
section
variable (l bn:Nat) {n:Nat} (h5:n<=5) {X:Type} (f:X->Nat->J×X) (W:J->X->Heap) (x0:X)
abbrev cnE (l bn n a left set:Nat)(rest:List (Nat×AV):=[]):List (Nat×AV):=(1,I left)::(2,I set)::(3,.pi [Yv l])::(4,.pi [ints (EW n)])::(5,.po bn 0)::rest
include h5
theorem Ng {L:List Nat}(hy:XO l f W x0 L): ∀(left i set:Nat) (a p:List Nat),set<2^n->i<=n->left<=n->L=a++fp n left i set++p->(aQ f a x0).1= .go->
  il ad 370 [I i,I left,I set,.pi [Yv l],.pi [ints (EW n)],.po bn 0] (V7 l bn n::W .go (aQ f a x0).2)
   (λr Ho=>r=B (aQ f (a++fp n left i set) x0).1.on/\Ho=V7 l bn n::W (aQ f (a++fp n left i set) x0).1 (aQ f (a++fp n left i set) x0).2):=by
 have F:(2:Nat)^n<=32:=bx zz h5
 have h:=Lv n
 intro left
 induction left with
 |zero=>
  intro i set a p hs hi _ u g
  rw[Ks]at u ⊢
  have A:=hy a set p (by rw[u];simp) g
  have df:aQ f (a++[set]) x0=f (aQ f a x0).2 set:=by rw[sG g];exact A3
  rw[df]
  refine bq agw.ok<|aC rfl<|aa (aa ?_)
  refine cC rfl<|ax rfl rfl<|aa (av ?_)
  refine kL 2 rfl rfl<|aG (cd (b9 (l₁:=[_])))<|ai (bP (Hin:=W .go (aQ f a x0).2) (H0:=[V7 l bn n]) rfl (show Pn ad (.yield l) [] _ _ _ from⟨rfl,A⟩) rfl rfl (aK _) rfl ?_)
  rintro J D ⟨rfl,rfl⟩
  refine aG (cd b9)<|eZ rfl ?_
  exact ab ⟨.inr rfl,_,_,_,rfl,.one (.tmp rfl rfl),⟨rfl,rfl⟩,az _⟩
 |succ left H=>
  intro i set a p hs hi G u g
  refine bq agw.ok<|aC rfl<|aa (aa ?_)
  refine cC rfl<|aD rfl zx<|aa (aa ?_)
  refine cC rfl<|aJ.gK (Y:=Unit) (λ_=>(aQ f (a++fp n (left+1) i set) x0).1= .go) (λ_=>el []) (λ_=>V7 l bn n::W .go (aQ f (a++fp n (left+1) i set) x0).2) (λ_=>[]) ?_ ?_
  ·refine br (X:=Nat×List Nat) (λy=>i<=y.1/\y.1<=n/\y.2++fp n (left+1) y.1 set=fp n (left+1) i set/\(aQ f (a++y.2) x0).1= .go) (λy=>el (cnE l bn n i (left+1) set [(10,I y.1)])) (λy=>V7 l bn n::W .go (aQ f (a++y.2) x0).2) (λ_=>[]) (λy=>n-y.1) (i,[]) ⟨a7 _,hi,rfl,by rw[be];exact g⟩
    (aj (ar (by simp only;rw[be])) eL) ?_
   rintro⟨k,done⟩ ⟨w,x,hd,hg⟩
   simp only at w x hd hg ⊢
   refine aa (aa ?_)
   refine dS rfl (by(and_intros);(all_goals first|exact zk _|((rw[h];omega))))<|ag rfl (λhc=>?_) (λhc=>?_)
   ·simp only[decide_eq_true_eq]at hc
    rw[h]at hc
    have hk:k+(left+1)<=n:=zz
    rw[IF hk]at hd
    have z:(2:Nat)^k<2^n:=bA zz zz
    have o:(1:Int)*2^((k:Nat):Int).toNat=((2^k:Nat):Int):=zj
    have s:(0:Int)<=1*2^((k:Nat):Int).toNat:=by rw[o];exact Int.natCast_nonneg _
    have t:(1:Int)*2^((k:Nat):Int).toNat<9223372036854775808:=by rw[o];omega
    have b:=H (k+1) (set ||| 2^k) (a++done) (fp n (left+1) (k+1) set++p) (c7 hs z) zz zz (by rw[u,<-hd];simp only[bs]) hg
    have E:((((set:Nat):Int).toNat ||| ((1:Int)*2^((k:Nat):Int).toNat).toNat:Nat):Int)=((set ||| 2^k:Nat):Int):=by rw[o,an,an]
    rw[<-E,show ((k+1:Nat):Int)=(k:Int)+1 from zz,show (left:Int)=((left+1:Nat):Int)-1 from zz]at b
    have d:(aQ f (a++done++fp n left (k+1) (set ||| 2^k)) x0).1≠.go->aQ f (a++fp n (left+1) i set) x0=aQ f (a++done++fp n left (k+1) (set ||| 2^k)) x0:=by
     intro m
     rw[<-hd,show a++(done++(fp n left (k+1) (set ||| 2^k)++fp n (left+1) (k+1) set))=(a++done++fp n left (k+1) (set ||| 2^k))++fp n (left+1) (k+1) set by simp only[bs],nN m]
    have q:(done++fp n left (k+1) (set ||| 2^k))++fp n (left+1) (k+1) set=fp n (left+1) i set:=by rw[bs];exact hd
    have hA:a++done++fp n left (k+1) (set ||| 2^k)=a++(done++fp n left (k+1) (set ||| 2^k)):=bs _ _ _
    rw[hA]at b d
    generalize done++fp n left (k+1) (set ||| 2^k)=c at b d q
    refine af (aa (au ?_))
    refine aa<|xh [] [.at 0,.cells [I k]] rfl (by(and_intros);(all_goals first|exact zk _|((first|exact s|exact t|(rw[an,bt,Uz zz];rfl)|(rw[h];omega)))))<|ai (bP (Hin:=V7 l bn n::W .go (aQ f (a++done) x0).2) (H0:=[]) rfl (show il ad 370 _ _ _ from b) rfl rfl (aK _) zj ?_)
    rintro res C ⟨rfl,rfl⟩
    refine eZ rfl ?_
    cases v:(aQ f (a++c) x0).1.on with
    |false=>
     have m:(aQ f (a++c) x0).1≠.go:=λe=>by rw[e]at v;cases v
     refine ax rfl rfl<|ae (ar (be _))<|aC rfl ?_
     rw[d m]
     refine ab ⟨.inr rfl,_,_,_,rfl,.one (.tmp ?_ rfl),⟨rfl,rfl⟩,az _⟩
     show B false=B _
     rw[v]
    |true=>
     have j:=NQ.1 v
     refine aD rfl rfl<|dS rfl (by(and_intros);(all_goals first|exact zk _|((omega)))) ?_
     exact⟨(k+1,c),⟨by simp only;omega,by simp only;omega,q,j⟩,by simp only;omega,aj (ar (by simp only;rw[j,be])) eL⟩
   ·simp only[decide_eq_false_iff_not]at hc
    rw[h]at hc
    rw[KQ zz,be]at hd
    subst hd
    exact ay ⟨(),hg,ao trivial⟩
  ·intro _ hg
   refine aC rfl ?_
   exact ab ⟨.inr rfl,_,_,_,rfl,.one (.tmp rfl rfl),⟨by rw[hg];rfl,by rw[hg]⟩,az _⟩
end
def BE (n:Nat):List Nat:=(bm (n+1)).flatMap λmany=>fp n many 0 0
theorem TK {n s:Nat}(h:s∈BE n):s<2^n:=by obtain⟨k,_,hk⟩:=List.mem_flatMap.1 h;exact Aw _ _ _ _ (dn n) s hk
theorem SJ (n:Nat):Ev ad 344 [ints (EW n)] (.fn (.func 369) [] [.pi [ints (EW n)]]):=by refine ak adp.ok<|bc [.bW] rfl ⟨⟨rfl,rfl⟩,trivial⟩<|aC rfl<|ab (aB ?_);rfl
theorem NW {l n:Nat}(s:n<=5){X:Type}(f:X->Nat->J×X)(W:J->X->Heap)(a:X)(hy:XO l f W a (BE n)):
  il ad 369 [Yv l,.pi [ints (EW n)]] (W .go a) (λ_ Ho=>Ho=W (aQ f (BE n) a).1 (aQ f (BE n) a).2):=by
 have o:=Lv n
 refine bq ag6.ok<|bc [.bW] rfl ⟨⟨rfl,rfl⟩,trivial⟩<|bc [.aI] rfl ⟨rfl,trivial⟩<|bM (t:=3) rfl λbn=>lV [.gI 0] rfl ⟨⟨rfl,rfl,rfl,rfl,a7 1⟩,trivial⟩<|ae (aj (ar (H':=V7 l bn n::W .go a) rfl) (ao (l:=[(1,.pi [ints (EW n)]),(3,.po bn 0)]) ⟨rfl,rfl,trivial⟩))<|aa<|dS rfl zx<|au ?_
 let ch:Nat->List Nat:=λmany=>fp n many 0 0
 let b:Nat->List Nat:=λk=>(bm k).flatMap ch
 refine br (X:=Nat) (λk=>k<=n+1/\(aQ f (b k) a).1= .go) (λk=>el [(1,.pi [ints (EW n)]),(3,.po bn 0),(8,I (n+1)),(9,I k)]) (λk=>V7 l bn n::W .go (aQ f (b k) a).2) (λ_=>[]) (λk=>n+1-k) 0 ⟨ew _,rfl⟩
  (ao ⟨rfl,rfl,by show I _=I _;rw[o],rfl,trivial⟩) ?_
 rintro k ⟨hk,hg⟩
 refine aC rfl<|aa (ag rfl (λhc=>?_) (λhc=>?_))
 ·simp only[decide_eq_true_eq]at hc
  have i:k<n+1:=zz
  have d:b (k+1)=b k++fp n k 0 0:=me ch k
  obtain⟨r,q⟩:=kC ch (k:=k+1) (n:=n+1) i
  have c:=Ng l bn s f W a hy k 0 0 (b k) r (dn n) (ew _) zz (by rw[<-d];exact q) hg
  rw[<-d]at c
  refine af (aa (au ?_))
  refine aC rfl<|aa (av ?_)
  refine lz [.at 0] 2 rfl rfl ⟨rfl,trivial⟩<|ai (bP (Hin:=V7 l bn n::W .go (aQ f (b k) a).2) (H0:=[]) rfl (show il ad 370 _ _ _ from c) rfl rfl (aK _) zj ?_)
  rintro res p ⟨rfl,rfl⟩
  refine eZ rfl ?_
  cases j:(aQ f (b (k+1)) a).1.on with
  |false=>
   have m:(aQ f (b (k+1)) a).1≠.go:=λe=>by rw[e]at j;cases j
   have h:aQ f (BE n) a=aQ f (b (k+1)) a:=by
    show aQ f ((bm (n+1)).flatMap ch) a=_
    rw[q,nN m]
   refine ax rfl rfl<|ab ⟨.inr rfl,_,.bZ [],_,rfl,.many zq trivial,rfl,?_⟩
   rw[h,be]
   exact b6 _ _
  |true=>
   have g:=NQ.1 j
   refine aD rfl rfl<|dS rfl ⟨zz,trivial⟩ ?_
   exact⟨k+1,⟨i,g⟩,zz,aj (ar (by rw[g,be])) eL⟩
 ·simp only[decide_eq_false_iff_not]at hc
  have e:k=n+1:=zz
  subst e
  refine ay ?_
  refine⟨.inl rfl,_,.bZ [],_,rfl,.many zq trivial,rfl,?_⟩
  show er (W (aQ f (b (n+1)) a).1 (aQ f (b (n+1)) a).2) _
  rw[hg]
  exact b6 _ _
def uQ (n:Nat)(so:Nat->Bool)(x:List Int×Bool)(s:Nat):J×(List Int×Bool):=if so s=true then(.ret,(cM (s:Nat) n,true))else(.go,x)
theorem CT (n:Nat)(so:Nat->Bool): ∀L:List Nat,aQ (uQ n so) L ([],false)=match L.find? so with|some s=>(.ret,(cM (s:Nat) n,true))|none=>(.go,([],false))
 |[]=>rfl
 |s::L=>by
  cases h:so s with
  |true=>simp only[aQ,uQ,h,List.find?_cons_of_pos];rfl
  |false=>
   rw[List.find?_cons_of_neg (by simp [h]),<-CT n so L]
   simp only[aQ,uQ,h,Bool.false_eq_true,if_false]
abbrev fH (a b5:Nat)(x:List Int×Bool):Heap:=[(a,.cells 87 [ints x.1]),(b5,.cells 4 [B x.2])]
theorem Nh {n:Nat}(u:n<=5)(so:Nat->Bool)(g:Nat)(a:List AV)(F:a.all (λp=> !p.bC)=true)(h: ∀s,s<2^n->Ev ad g (I (s:Nat)::a) (B (so s))):
  Ev ad 302 [ints (EW n),.agg [.fn (.func g) [] a]] (.bZ (match (BE n).find? so with|some s=>[ints (cM (s:Nat) n),B true]|none=>[ints [],B false])):=by
 have z:(2:Nat)^n<=32:=bx zz u
 refine ak adV.ok<|bc [.bW,.aI,.aI] rfl ⟨⟨rfl,rfl⟩,rfl,rfl,trivial⟩<|bM (t:=4) rfl λc=>bM (t:=5) rfl λb5=>aa (aa ?_)
 refine iO [.ret (.fn (.func 369) [] [.pi [ints (EW n)]])] rfl ⟨SJ n,trivial⟩<|au<|ae (aj (ar (H':=(b5,.cells 4 [B false])::(c,.cells 87 [.v (.slice none 0 0)])::[]) rfl) (cd (H':=[(c,.cells 87 [.v (.slice none 0 0)]),(b5,.cells 4 [B false])]) (ej _ _ _)))<|ae (bB.nv (j:=0) (p:=.v (.slice none 0 0)) [] [] (ints []) rfl (λS v h=>by simp only[aR]at h ⊢;exact .inl ⟨⟨_,h⟩,rfl⟩))<|ae (ar (H':=fH c b5 ([],false)) rfl)<|aJ.CD (X:=List Int×Bool) (HS:=fH c b5) (H0:=[]) ([],false) (λj y=>(j,y)=aQ (uQ n so) (BE n) ([],false))
  (λy args=> ∃s,s<2^n/\args=[I (s:Nat)])
  (λy args j w=> ∀s:Nat,args=[I (s:Nat)]->(j,w)=uQ n so y s)
  (el [(3,.pi [.fn (.func g) [] a]),(4,.po c 0),(5,.po b5 0)]) rfl zj (qP ⟨rfl,rfl,rfl,trivial⟩ rfl) zq ?_ ?_ ?_
 ·rintro l ⟨li,fo⟩ args ⟨s,hs,rfl⟩
  refine⟨rfl,?_⟩
  have m:=h s hs
  refine cC rfl ?_
  refine⟨rfl,?_⟩
  refine gm [(3,.pi [.fn (.func g) [] a]),(4,.po c 0),(5,.po b5 0),(6,I (s:Nat))]<|au<|aa<|iO [.ret (B (so s))] rfl ⟨m,trivial⟩ ?_
  cases e:so s with
  |false=>
   refine aD rfl rfl ⟨.go,(li,fo),rfl,λH d=>?_,az _⟩
   simp only[b7,AV.v.injEq,ea,true_and,and_true,dk]at d
   subst d
   unfold uQ;rw[e];rfl
  |true=>
   refine ax rfl rfl<|aa (av ?_)
   have k:=dN (Gf s n hs zz)
   refine lz [.ret (ints (cM (s:Nat) n))] 2 rfl rfl ⟨k,trivial⟩<|ai (aZ (i:=0) rfl rfl rfl rfl rfl rfl (by show 1<=1;decide) ?_)
   refine ai (aZ (i:=1) rfl rfl rfl rfl rfl rfl (by show 1<=1;decide) ?_)
   refine bh (ab ⟨.ret,(cM (s:Nat) n,true),rfl,λH d=>?_,az _⟩)
   simp only[b7,AV.v.injEq,ea,true_and,and_true,dk]at d
   subst d
   unfold uQ;rw[e];rfl
 ·intro l lo A
  have D:XO l (uQ n so) (λj y=>(l,lo j)::fH c b5 y) ([],false) (BE n):=by
   intro x s J C G
   refine zX.perm (A (aQ (uQ n so) x ([],false)).2 _ ⟨s,TK (by rw[C];simp),rfl⟩) (ec _) ?_
   rintro r Ho ⟨j,w,E,rfl,rfl⟩
   have q:=E s rfl
   refine⟨_,ec _,by rw[<-q],by rw[<-q]⟩
  refine(NW u (uQ n so) _ ([],false) D).mono ?_
  rintro r Ho rfl
  exact⟨_,_,rfl,rfl⟩
 ·rintro j y o b
  rw[CT]at b
  cases f:(BE n).find? so with
  |some s=>
   rw[f]at b
   simp only[en]at b
   obtain⟨rfl,rfl⟩:=b
   exact⟨.inr rfl,_,⟨0,rfl,rfl⟩,.many zq (show fN (ja ad _ _) [.cell 4 87,.cell 5 4] [ints (cM (s:Nat) n),B true]from
    ⟨.dw (n:=none) (i:=0) (cs:=[ints (cM (s:Nat) n)]) rfl rfl zw rfl,.dw (n:=none) (i:=1) (cs:=[B true]) rfl rfl zw rfl,trivial⟩)⟩
  |none=>
   rw[f]at b
   simp only[en]at b
   obtain⟨rfl,rfl⟩:=b
   show aJ _ _ _ _ _ _ _ _
   refine ae (ar (H':=[(o,.iV),(c,.cells 87 [ints []]),(b5,.cells 4 [B false])]) zj)<|lV [.gI 1,.gI 2] rfl ⟨⟨rfl,rfl,rfl,rfl,a7 1⟩,⟨rfl,rfl,rfl,rfl,a7 1⟩,trivial⟩<|ae (aj (ar (H':=[(o,.iV),(c,.cells 87 [.nil]),(b5,.cells 4 [B false])]) rfl) (bB.nv (j:=1) (p:=.nil) [] [] (ints []) rfl (gN 1)))<|ae (ar (H':=[(o,.iV),(c,.cells 87 [ints []]),(b5,.cells 4 [B false])]) rfl) ?_
   exact ab ⟨.inr rfl,_,⟨0,rfl,rfl⟩,.many zq (show fN (ja ad _ _) [.cell 4 87,.cell 5 4] [ints [],B false]from
    ⟨.dw (n:=none) (i:=0) (cs:=[ints []]) rfl rfl zw rfl,.dw (n:=none) (i:=1) (cs:=[B false]) rfl rfl zw rfl,trivial⟩)⟩
theorem U0 (n:Nat)(a:n<=60):Ev ad 303 [I n] (.aI 3 1 ((EW n).map λx=>[I x])):=by
 refine ak afZ.ok<|aC rfl<|aa (aa ?_);refine cC rfl<|bE True (el [(2,.aI 3 1 ((EW n).map λx=>[I x]))]) [] [] ?_ ?_
 ·refine dE (λk:Nat=>k<=n) (λk=>el [(2,.aI 3 1 ((EW k).map λx=>[I x])),(4,I n),(5,I k)]) (λk=>n-k) 0 zz
   (aj (bB.ln (t:=2) 3 1 rfl) eL) ?_
  intro k hk;refine aC rfl<|aa (ag rfl (λhc=>?_) (λhc=>?_))
  ·simp only[nL]at hc;refine af (aa (au ?_));refine aC rfl<|iO [.bW] rfl ⟨rfl,⟨by simp only[bi,cD,chunk,a8,bk];omega,by simp only[bi,cD,chunk,a8,bk];omega⟩,trivial⟩<|dS rfl ⟨zz,trivial⟩ ?_;refine⟨k+1,hc,zz,ao ⟨?_,rfl,rfl,trivial⟩⟩;show AV.aI 3 1 _=AV.aI 3 1 _;unfold EW;rw[b8,b0,b0];rfl
  ·simp only[nL]at hc;have:k=n:=zz
   subst this;exact ay ⟨(),trivial,eL⟩
 ·intro _ _;refine aC rfl ?_;exact ab (fh (.inr rfl) (.aI rfl rfl))
abbrev YB (a b c d:Int):Value:=.agg #[.int .i64 a,.int .i64 b,.int .i64 c,.int .i64 d]
theorem Sa {a b c d:Int}(g:(et .i64 a).wf=true)(h:(et .i64 b).wf=true)(i:(et .i64 c).wf=true)(h4:(et .i64 d).wf=true):bJ ad 5 68 (YB a b c d):=by
 have e:ad.cellsOf 68=4:=zw
 have f:ad.cellsOf 3=1:=zw
 refine⟨?_,[.int .i64 a,.int .i64 b,.int .i64 c,.int .i64 d],?_⟩
 ·simp [eu,c8,e]
 ·simp [ey,ds,c8,Tryz.underlying3,e,f,g,h,i,h4]
theorem UT {c:lH}(ok:c.OK){x:nU}(hx:x∈c.co)(nu:Int)(f: -9223372036854775808<=nu)(g:nu<=9223372036854775807):Ev ad 301 [.agg x.enc,.pi [I nu]] (B (x.nu==nu)):=by
 obtain⟨⟨n0,n1⟩,⟨w0,w1⟩,⟨f0,f1⟩,l,o⟩:=ok.co x hx;have i:=ok.la;have p:=(kR (n:=c.wo.toNat) (m:=5) (by have:=ok.wo;omega)).2.2;have q:=(kR (n:=c.fa.toNat) (m:=6) (by have:=ok.fa;omega)).2.2;have s:=(kR ok.p3).2.2;have j:=qN (n:=x.nu) zz zz;have b:=qN (n:=x.wo) zz zz;have d:=qN (n:=x.fa) zz zz;have e:=qN (n:=x.ma) zz zz;have k:=qN f g
 have a: ∀{env:Env} {H:Heap},bu env (tm 4)= .agg x.enc->bu env (tm 12)= .agg [I nu,I x.wo,I x.fa,I x.ma]-> ∀(r:Option Nat) (N:Nat) (D:List Nat),Q1 ad r N (.nI false 68 (tm 4) (tm 12)) (some 13) env H D [(13,B (x.nu==nu))]:=by
  intro env H ha h r N D
  exact aF.nI (m:=5) (DD:=5) zq zw zw zw zw (u:=YB x.nu x.wo x.fa x.ma) (v:=YB nu x.wo x.fa x.ma) (by rw[ha];rfl) (by rw[h];rfl) (Sa j b d e) (Sa k b d e) (x.nu==nu) zx ⟨rfl,rfl,rfl⟩
 refine ak ad5.ok<|bc [.bW] rfl ⟨⟨rfl,rfl⟩,trivial⟩<|bc [.op (B (x.nu==nu))] rfl ⟨a rfl rfl,trivial⟩<|ab (aB ?_);rfl
theorem Pd {c:lH}(ok:c.OK)(nu:Int)(a: -9223372036854775808<=nu)(b:nu<=9223372036854775807):Ev ad 233 [ky c.co,.fn (.func 301) [] [.pi [I nu]]] (I (bD (λx=>x.nu==nu) c.co 0)):=by refine tU adI.ok nU.enc 4 c.co _ _ rfl (λk x hx C Q K=>?_);refine bc [.cells x.enc,.ret (B (x.nu==nu))] rfl ⟨⟨zz,by simp [hx]⟩,UT ok (List.mem_of_getElem? hx) nu a b,trivial⟩<|ae ?_ K;exact eL
theorem UZ {c:lH}(ok:c.OK)(p at_ s:Nat)(g:p<c.pe.length)(d:at_<6)(hs:s<2^60):Ev ad 304 [I s,.pi [LU c],.pi [I p],.pi [I at_]] (B (oY c p s==2^at_)):=by
 have e:=HF ok p s g hs;have h:(2:Nat)^at_<2^6:=bA zz d;have a:(1:Int)*2^((at_:Nat):Int).toNat=((2^at_:Nat):Int):=zj
 have f:(0:Int)<=1*2^((at_:Nat):Int).toNat:=zx
 have b:(1:Int)*2^((at_:Nat):Int).toNat<9223372036854775808:=by rw[a];omega
 refine ak acn.ok<|aC rfl<|vj [] [.ret (I (oY c p s:Nat))] rfl (by(repeat' (with_reducible apply cc));(all_goals first|exact zk _|((first|exact e|exact b))))<|ab (aB ?_);show B _=B _;refine congrArg B ?_;rw[a,de,beq_iff_eq,beq_iff_eq];omega
theorem V1 {c:lH}(z:c.wf)(p nu:Int)(C: -9223372036854775808<=nu)(D:nu<=9223372036854775807):Ev ad 236 [.agg c.enc,I p,I nu] (.bZ [ints (vk c p nu).1,I (vk c p nu).2]):=by
 have G:=z.pn;have w:((c.pe.map λs=>[bg s]).length:Int)=c.pe.length:=zj
 have F:=yq z [(p,c.pe.length)] zj (by intro x hx;simp only[b1]at hx;subst hx;simp only;omega)
 have a:vk c p nu=if fV c [(p,c.pe.length)]≠0 then([],fV c [(p,c.pe.length)])
  else if bD (λx=>x.nu==nu) c.co 0<0 then([],7)
  else if (jl c p.toNat).testBit (bD (λx=>x.nu==nu) c.co 0).toNat=false then([],2)
  else match (BE c.wo.toNat).find? (λs=>oY c p.toNat s==2^(bD (λx=>x.nu==nu) c.co 0).toNat)with
   |some s=>(cM (s:Nat) c.wo.toNat,0)
   |none=>([],9):=by
  unfold vk
  split
  ·rfl
  split
  ·rfl
  split
  ·rfl
  ·rfl
 refine ak agQ.ok<|bc [.bW,.bW,.bW] rfl ⟨⟨rfl,rfl⟩,⟨rfl,rfl⟩,⟨rfl,rfl⟩,trivial⟩<|aa (av ?_);refine lz [.bW] 6 rfl rfl ⟨rfl,trivial⟩<|ai (bU (Hin:=[]) (H0:=[]) F rfl rfl (fL (by rw[<-w];rfl)) rfl ?_);rintro r Ho K;rcases K with⟨i,rfl⟩|⟨i,rfl⟩
 case inr=>
  rw[if_pos i]at a;refine aG (du (H':=[]) (ap _))<|Sc [.aI] rfl ⟨rfl,⟨rfl,rfl,rfl,a7 1⟩,trivial⟩<|aa (aa ?_);refine cC rfl<|ax rfl (by rw[bne_iff_ne];exact i)<|aC rfl<|ae (bB.jD (t:=6) 1 rfl)<|ab (dm ?_ ?_)
  ·rw[a];rfl
  ·rw[a];rfl
 rw[if_neg (by rw[i];decide)]at a;obtain⟨ok,v⟩:=xL z i;have o:=pq (v (p,(c.pe.length:Int)) zj);simp only at o;obtain⟨pn,rfl⟩:=a6 o.1;rw[an]at a;have N:=ok.wo;have c6:=ok.c6;have p3:=ok.p3;have m:=Pd ok nu C D;have d:0<=bD (λx=>x.nu==nu) c.co 0->(bD (λx=>x.nu==nu) c.co 0).toNat<6:=by intro h;obtain⟨-,x,hx,-⟩:=qt (λx:nU=>x.nu==nu) c.co 0 zz h;have:=(b3.1 hx).1;omega
 have hid:=vw (λx:nU=>x.nu==nu) c.co 0 zz;generalize bD (λx=>x.nu==nu) c.co 0=at_ at a m d hid;refine aG (du (H':=[]) (ap _))<|Sc [.aI] rfl ⟨rfl,⟨rfl,rfl,rfl,a7 1⟩,trivial⟩<|ae (aq (t:=8) rfl)<|gm [(3,.pi c.enc),(4,.pi [I pn]),(5,.pi [I nu]),(8,.pi [LU c]),(9,I 0)]<|aa (aa ?_);refine cC rfl<|aD rfl rfl<|bc [.ret (I at_),.aI] rfl ⟨m,rfl,⟨rfl,rfl,rfl,a7 1⟩,trivial⟩<|ae (aq (t:=10) rfl)<|cX (0<=at_/\(jl c pn).testBit at_.toNat=true) (el [(3,.pi c.enc),(4,.pi [I pn]),(8,.pi [LU c]),(10,.pi [I at_])]) [] [] ?_ ?_
 ·refine aC rfl ?_;by_cases ha:at_<0
  ·rw[if_pos ha]at a;refine ax rfl (by rw[decide_eq_true_iff];exact ha)<|aC rfl<|ae (bB.jD (t:=6) 1 rfl)<|ab (dm ?_ ?_)
   ·rw[a];rfl
   ·rw[a];rfl
  rw[if_neg ha]at a;have L:jA c c.co.length pn=jl c pn:=by unfold jA;rw[if_pos zz];rfl
  have M:jl c pn<2^6:=wi c pn c.co.length c6;have f:=Gw c (.mi []) (jA c c.co.length) (k:=pn) zz;rw[L]at f;have b:=ZP (s:=((jl c pn:Nat):Int)) zz at_.toNat;rw[an at_.toNat,an (jl c pn)]at b;have H:(0:Int)<=(jl c pn:Nat)/2^at_.toNat:=Int.ediv_nonneg zz (Int.le_of_lt (Int.pow_pos zz));have J:((jl c pn:Nat):Int)/2^at_.toNat<=(jl c pn:Nat):=Int.ediv_le_self _ zz;have A:=d zz;generalize (jl c pn).testBit at_.toNat=O at b a;refine cJ rfl (by rw[decide_eq_false_iff_not];exact ha)<|vj [] [.pre [I (jl c pn:Nat)]] rfl (by(and_intros);(all_goals first|exact zk _|((exact f)))) ?_;cases O with
  |false=>
   rw[if_pos rfl]at a;refine ax rfl b<|aC rfl<|ae (bB.jD (t:=6) 1 rfl)<|ab (dm ?_ ?_)
   ·rw[a];rfl
   ·rw[a];rfl
  |true=>exact aD rfl b ⟨(),⟨zz,rfl⟩,eL⟩
 rintro _ ⟨ha,y⟩;rw[if_neg zz,y,if_neg zq]at a;obtain⟨u,rfl⟩:=a6 ha;have j:=d ha;rw[an]at j a;obtain⟨wn,q⟩:=a6 (show 0<=c.wo from zz);rw[q,an]at a;have E:(2:Nat)^wn<=32:=bx zz (show wn<=5 from zz);have e:=Nh (n:=wn) zz (λs=>oY c pn s==2^u) 304 [.pi [LU c],.pi [I pn],.pi [I u]] rfl (λs hs=>UZ ok pn u s zz j zz);have g:=dN (U0 wn zz);rw[<-q]at g;cases l:(BE wn).find? (λs=>oY c pn s==2^u)with
 |some s=>
  rw[l]at e a;refine bc [.ret (ints (EW wn)),.ret (.bZ [ints (cM (s:Nat) wn),B true])] rfl ⟨g,e,trivial⟩<|aa (aa ?_);refine cC rfl<|aD rfl rfl<|aC rfl<|ab (dm ?_ ?_)
  ·rw[a];rfl
  ·rw[a];rfl
 |none=>
  rw[l]at e a;refine bc [.ret (ints (EW wn)),.ret (.bZ [ints [],B false])] rfl ⟨g,e,trivial⟩<|aa (aa ?_);refine cC rfl<|ax rfl rfl<|aC rfl<|ae (bB.jD (t:=6) 1 rfl)<|ab (dm ?_ ?_)
  ·rw[a];rfl
  ·rw[a];rfl
abbrev gr (l:List (List Nat)):List (List AV):=l.map λt=>iz (aM t)
def yO (l:List (List Nat))(m:Nat×Nat):Option (Nat×Nat):=match l with|[]=>none|_::_=>some m
theorem Vv {l:List (List Nat)}{m:Nat×Nat}(h:yO l m=none):l=[]:=by cases l with|nil=>rfl|cons _ _=>cases h
theorem Ed {l:List (List Nat)}(m:Nat×Nat)(h:l≠[]):yO l m=some m:=by cases l with|nil=>exact absurd rfl h|cons _ _=>rfl
abbrev fU (b2 a:Nat)(x:List (List Nat)×Nat)(m:Nat×Nat):Heap:=[(b2,.cells 412 [yt (yO x.1 m) x.1.length]),(a,.cells 3 [I x.2])]++xg (yO x.1 m) 415 4 (gr x.1)
section
variable {d:kK} (ok:d.OK) {os:List (List AV)} {es:List (Value×AV)} (K:qC d es)
include ok K
theorem P4:Ev ad 309 [Cf d os es] (.bZ [.sl 4 (gr (ll d).1),I (ll d).2]):=by
 have P:((d.hs.map qh.enc).length:Int)=d.hs.length:=zj
 have h4:=ok.h4;have c4:=ok.c4;have Q:=wQ ok;refine ak acF.ok<|bc [.aI,.aI] rfl ⟨rfl,rfl,trivial⟩<|bM (t:=2) rfl λb2=>bM (t:=3) rfl λb=>lV [.gI 0] rfl ⟨⟨zz,zz⟩,⟨rfl,rfl,rfl,rfl,a7 1⟩,trivial⟩<|ae (aj (ar (H':=[(b,.cells 3 [I (d.hs.length+1:Nat)]),(b2,.cells 412 [yt none 0])]) ?_) (cd (H':=fU b2 b ([],d.hs.length+1) (0,0)) (ej _ _ _))) ?_
 ·show [(b,cP.cells 3 [I (((d.hs.map qh.enc).length:Int)+1)]),_]=_;rw[P];rfl
 refine aa (aa ?_);refine iO [.ret (.fn (.func 372) [] [.pi [Cf d os es]])] rfl ⟨KU d os es,trivial⟩<|au<|aJ.Ud ok K zb (fU b2 b) ([],d.hs.length+1) (0,0) (H0:=[]) (el [(2,.po b2 0),(3,.po b 0)]) rfl zj (qP ⟨rfl,rfl,trivial⟩ rfl) zq rfl ?_ ?_
 ·intro l C p L2 m V a4;have W:p∈dp d:=by rw[V];simp
  have D:=gh W;have E:=qG W;rw[show (aQ zb C ([],d.hs.length+1)).2=C.foldl oU ([],d.hs.length+1)from by rw[wJ]];have u:=oC d.hs.length C [] ([],d.hs.length+1) (oD _) (λt L=>gh zx);rw[dl]at u;have a0:C.length<=625:=zx
  have f: ∀t∈(C.foldl oU ([],d.hs.length+1)).1,t∈dp d:=λt L=>by rw[V];exact List.mem_append_left _ (u.mem t L)
  generalize C.foldl oU ([],d.hs.length+1)=x at u f;obtain⟨q,a⟩:=x;have X:=u.nil;have i2:=u.le;have i4:=u.len;simp only at X i2 i4 f;clear u;have a3:dc p<=d.hs.length:=by rw[<-D];exact cb
  refine bc [.aI] rfl ⟨rfl,⟨rfl,rfl,rfl,a7 4⟩,trivial⟩<|ae (aq (t:=4) rfl)<|cC rfl ?_;refine⟨rfl,?_⟩;refine gm [(2,.po b2 0),(3,.po b 0),(4,.pi (iz (aM p))),(5,I (dc p:Nat))]<|au (au ?_);have g:oU (q,a) p=if dc p<a then([p],dc p)else if dc p=a/\q.getLast? ≠some p then(q++[p],a)else(q,a):=rfl
  refine bc [.at 1] rfl ⟨rfl,trivial⟩ ?_;by_cases T:dc p<a
  ·rw[if_pos T]at g;refine ax rfl (by rw[decide_eq_true_iff];omega)<|av<|lz [.aI] 2 rfl rfl ⟨rfl,trivial⟩<|aT.Qw (t:=22) (es:=gr [p]) rfl (λG y=>?_);have A: ∃c,G=some c:=by cases G with|none=>cases y rfl|some c=>exact⟨c,rfl⟩
   obtain⟨c,rfl⟩:=A;refine kL 1 rfl rfl<|ai (aZ (i:=0) rfl rfl rfl rfl rfl rfl (by show 1<=1;decide) ?_);refine ai (aZ (i:=1) rfl rfl rfl rfl rfl rfl (by show 1<=1;decide) ?_);refine bh ⟨rfl,c,?_⟩;rw[show (zb (q,a) p).2=([p],dc p)from g];exact eM (l₁:=[_,_]) (az _) (List.sublist_append_right _ _)
  ·rw[if_neg T]at g;refine cJ rfl (by rw[decide_eq_false_iff_not];omega) ?_;by_cases U:dc p=a
   case neg=>
    rw[if_neg (λe=>U e.1)]at g;refine aa ?_;have w:(((dc p:Nat):Int)==(a:Nat))=false:=by rw[beq_eq_false_iff_ne];omega
    refine rE [(28,false)] [.at 1] rfl (by(and_intros);(all_goals first|exact zk _|((exact w))))<|aD rfl rfl ⟨rfl,m,?_⟩;rw[show (zb (q,a) p).2=(q,a)from g];exact az _
   have J:q≠[]:=λe=>by have:=X e;omega
   have w:(((dc p:Nat):Int)==(a:Nat))=true:=by rw[beq_iff_eq];omega
   obtain⟨z,M⟩: ∃z,q.getLast? =some z:=by
    cases hh:q.getLast? with
    |none=>exact absurd (List.getLast?_eq_none_iff.1 hh) J
    |some z=>exact⟨z,rfl⟩
   have R:q[q.length-1]? =some z:=by rw[<-List.getLast?_eq_getElem?];exact M
   have F:=f z (List.mem_of_getLast? M);have a5:0<q.length:=List.length_pos_iff.2 J;have hU:fU b2 b (q,a) m=[(b2,.cells 412 ([]++yt (some m) q.length::[])),(b,.cells 3 [I a]),(m.1,.arr 415 4 m.2 (gr q))]:=by unfold fU;rw[Ed m J];rfl
   rw[hU];obtain⟨r,s⟩:=m;refine ae (bB.nv (j:=0) (p:=yt (some (r,s)) q.length) [] [] (.so r q.length s) rfl (λS v h=>by simpa only[aR,Ww,FT]using h))<|aa<|rE [(28,true)] [.at 1,.at 0,.at 0,.elt 2 (q.length-1) 0 (iz (aM z)),.op (B (!decide (z=p)))] rfl (by(and_intros);(all_goals first|exact zk _|((first|exact w|exact UW rfl rfl (λk hk=>cR (qG F k hk) c4) (λk hk=>cR (E k hk) c4) h4 (gh F) D|(rw[bt,R];rfl)))))<|ae (aj (bB.nv (j:=0) (p:=.so r q.length s) [] [] (yt (some (r,s)) q.length) rfl (λS v h=>by simpa only[aR,Ww,FT]using h)) (aj (ar (H':=[(b2,.cells 412 [yt (some (r,s)) q.length]),(b,.cells 3 [I a])]++xg (some (r,s)) 415 4 (gr q)) rfl) (ao (l:=[(2,.po b2 0),(4,.pi (iz (aM p))),(24,B (!decide (z=p)))]) ⟨rfl,rfl,rfl,trivial⟩))) ?_;by_cases o:z=p
   ·rw[if_neg (λe=>e.2 (by rw[M,o]))]at g;refine aD rfl (by rw[o];simp) ⟨rfl,(r,s),?_⟩;rw[show (zb (q,a) p).2=(q,a)from g];show (fU b2 b (q,a) (r,s)).Sublist _;unfold fU;rw[Ed _ J];exact az _
   ·rw[if_pos ⟨U,by rw[M];intro e;exact o (by simpa using e)⟩]at g;refine ax rfl (by simp [o])<|av<|lz [.at 0] 1 rfl rfl ⟨rfl,trivial⟩<|aG (bB.Mx (t:=38) (H:=[(b2,.cells 412 [yt (some (r,s)) q.length]),(b,.cells 3 [I a])]) rfl zj (λe=>by cases e)) ?_;have a1:(gr q).length=q.length:=bi _;refine lz [.bW] 3 rfl rfl ⟨rfl,⟨by show ((gr q).length+1)*32<=_;omega,by show (gr q).length+1<=_;omega⟩,trivial⟩ ?_;have N:gr (q++[p])=gr q++[iz (aM p)]:=b0;refine aT.Qw (t:=41) (es:=gr (q++[p])) (by rw[N];rfl) (λG y=>?_);have A: ∃c,G=some c:=by cases G with|none=>exact absurd (y rfl) zj|some c=>exact⟨c,rfl⟩
    obtain⟨c,rfl⟩:=A;refine ai (aZ (i:=0) rfl rfl rfl rfl rfl rfl (by show 1<=1;decide) ?_);refine bh ⟨rfl,c,?_⟩;rw[show (zb (q,a) p).2=(q++[p],a)from g];show (fU b2 b (q++[p],a) c).Sublist _;unfold fU;rw[Ed _ zj];show er _ ([(b2,cP.cells _ [yt (some c) (gr (q++[p])).length]),(b,cP.cells 3 [I a])]++xg (some c) 415 4 (gr (q++[p])));rw[bi];exact az _
 ·intro Y Z;have O:(aQ zb (dp d) ([],d.hs.length+1)).2=ll d:=by rw[wJ];rfl
  rw[O,show (aQ zb (dp d) ([],d.hs.length+1)).1= .go from by rw[wJ]];show aJ _ _ _ _ _ _ _ _;have hI:=oC d.hs.length (dp d) [] ([],d.hs.length+1) (oD _) (λt L=>gh L);generalize a2:ll d=x;obtain⟨q,a⟩:=x;refine ae (aj (ar (H':=[(Z,.iV),(b2,.cells 412 [yt (yO q Y) q.length]),(b,.cells 3 [I a])]++xg (yO q Y) 415 4 (gr q)) zj) (bB.Ma (j:=1) (bo:=b2) [] [] rfl rfl zj (λe=>by rw[Vv e];rfl)))<|ae (ar (H':=[(Z,.iV),(b2,.cells 412 [.sl 4 (gr q)]),(b,.cells 3 [I a])]) rfl)<|aa (aJ.SV (gs:=[]) (hs:=[.at 1,.at 2]) [2,42] 1 xr rfl zw ⟨rfl,rfl,trivial⟩ rfl rfl rfl rfl rfl rfl (a7 1) rfl ?_);refine aT.hd (gs:=[]) (hs:=[.gI 2]) rfl ⟨⟨rfl,rfl,rfl,rfl,a7 1⟩,trivial⟩ ?_
  exact ab ⟨.inr rfl,_,⟨0,rfl,rfl⟩,.many zq (show fN (ja ad _ _) [.cell 2 412,.cell 3 3] [.sl 4 (gr q),I a]from
   ⟨.dw (n:=none) (i:=0) (cs:=[.sl 4 (gr q)]) rfl rfl zw rfl,.dw (n:=none) (i:=1) (cs:=[I a]) rfl rfl zw rfl,trivial⟩)⟩
end
theorem IK {d:kK}(r:d.wf)(h:(dH d).2.2=0):d.OK:=by
 unfold dH at h;by_cases o:(ah 1 6 [d.st]||ah 1 d.st [d.le]||ah 0 9 [d.we])=true
 ·grind
 rw[if_neg o]at h;by_cases p:4<d.cs.length
 ·grind
 rw[if_neg p]at h;by_cases g:(aA (eR (pP d) 0 d.cs) d.cs.length 0).2≠0
 ·grind
 rw[if_neg g]at h;by_cases h4:4<d.hs.length
 ·grind
 rw[if_neg h4]at h;by_cases m:(aA (eR (pY d) (-1) d.hs) d.hs.length 0).2≠0
 ·grind
 have g:=eQ.1 (b4.1 g);have m:=eQ.1 (b4.1 m);rw[bI,bI,cF,cF,cF]at o
 have f: ∀(e:Nat->Bool) (c:Int) (l:List qh),(∀j,j<l.length->eR e c l j=0)-> ∀x∈l,e x.ed.length=false/\ah c 9 x.ed=false:=by
  intro e c l hl x hx;obtain⟨i,hi⟩:=List.mem_iff_getElem?.1 hx;have:=hl i (b3.1 hi).1;unfold eR at this;rw[hi]at this;simp only at this;split at this
  ·cases this
  split at this
  ·cases this
  split at this
  ·cases this
  split at this
  ·cases this
  rename_i a b;exact⟨by simpa using a,by simpa using b⟩
 have k: ∀{lo hi:Int} {l:List Int},ah lo hi l=false-> ∀v∈l,lo<=v/\v<=hi:=by intro lo hi l n v q;unfold ah at n;rw[cB]at n;have:=n v q;simp only[bI,decide_eq_true_eq,not_or]at this;omega
 have f1:=f _ _ _ g;have f2:=f _ _ _ m;refine⟨r,zz,zz,zz,zz,zz,zz,?_,?_,?_,?_⟩
 ·intro x hx;have:=(f1 x hx).1;unfold pP at this;rw[bne_eq_false_iff_eq]at this;exact this
 ·intro x hx;have:=(f2 x hx).1;unfold pY at this;have:=k this (x.ed.length:Int) zj;omega
 ·grind
 ·grind
def Cs (d:kK)(many:Int)(l:List Int):Int:=if (dH d).2.2≠0 then(dH d).2.2 else if ah 0 (many-1) l=true then 4 else 0
theorem Nv (d:kK)(e:d.wf)(many:Int)(g:0<=many)(h:many<=9223372036854775807)(l:List Int):il ad 308 [.agg d.enc,I many,ints l] [] (λr _=>(Cs d many l=0/\ ∃os es,r= .bZ [Cf d os es,I 0]/\qC d es)\/(Cs d many l≠0/\r= .bZ [.v (.pointer none),I (Cs d many l)])):=by
 have hc:=DF d e;have c:=jY 0 (many-1) l;have a:Cs d many l=if (dH d).2.2≠0 then(dH d).2.2 else if ah 0 (many-1) l=true then 4 else 0:=rfl
 refine bq afs.ok<|bc [.bW] rfl ⟨⟨rfl,rfl⟩,trivial⟩<|bc [.ret (.bZ [I (dH d).1,I (dH d).2.1,I (dH d).2.2])] rfl ⟨hc,trivial⟩ ?_;generalize ah 0 (many-1) l=bb at c a;refine cX ((dH d).2.2=0/\Cs d many l=0) (el [(3,.pi d.enc)]) [] [] ?_ ?_
 ·refine aC rfl ?_;by_cases b:(dH d).2.2=0
  case neg=>rw[if_pos b]at a;refine ax rfl zx<|aC rfl<|ab ⟨.inr rfl,_,.bZ [.v (.pointer none),I (dH d).2.2],[],rfl,.many zq ⟨.tmp rfl rfl,.tmp rfl rfl,trivial⟩,.inr ⟨zx,by rw[a]⟩,ap _⟩
  rw[if_neg (by simp [b])]at a;refine cJ rfl (by rw[b];rfl)<|bc [.ret (B bb)] rfl ⟨⟨zz,zz⟩,c,trivial⟩ ?_;cases bb with
  |true=>rw[if_pos rfl]at a;refine ax rfl rfl<|aC rfl<|ab ⟨.inr rfl,_,.bZ [.v (.pointer none),I 4],[],rfl,.many zq ⟨.tmp rfl rfl,.tmp rfl rfl,trivial⟩,.inr ⟨by rw[a];decide,by rw[a]⟩,ap _⟩
  |false=>rw[if_neg zq]at a;exact aD rfl rfl ⟨(),⟨b,a⟩,eL⟩
 ·rintro _ ⟨b,f⟩;refine aa (av ?_);refine kL 1 rfl rfl<|ai (bU (Hin:=[]) (H0:=[]) (Pp (IK e b)) rfl rfl (aK _) rfl ?_);rintro r Ho ⟨os,es,rfl,hK⟩;refine eZ rfl<|ab ⟨.inr rfl,_,.bZ [Cf d os es,I 0],[],rfl,.many zq ⟨.tmp rfl rfl,.tmp rfl rfl,trivial⟩,.inl ⟨f,os,es,rfl,hK⟩,ap _⟩
theorem Mt (n:Nat): ∀(L a:List (List Nat)) (x:List (List Nat)×Nat),Di n a x->(∀t∈L,t.length=n)->(x.1≠[]\/L≠[])->(L.foldl oU x).1≠[]
 |[],a,x,_,_,h=>h.elim id (λh=>absurd rfl h)
 |t::L,a,x,h,hl,_=>by
  have c:dc t<=n:=by rw[<-hl t zj];exact cb
  refine Mt n L (a++[t]) (oU x t) (AS h t c) (λs hs=>hl s (by simp [hs])) (.inl ?_)
  unfold oU
  by_cases b:dc t<x.2
  ·rw[if_pos b];simp
  ·rw[if_neg b]
   have:x.1≠[]:=λe=>by have:=h.nil e;omega
   split
   ·simp
   ·exact this
theorem GI {ext:List Nat->List Nat}(h: ∀p,ext p≠[]): ∀(m:Nat) (p:List Nat),cK ext m p≠[]
 |0,p=>by simp [cK]
 |m+1,p=>by
  intro e
  simp only[cK,List.flatMap_eq_nil_iff]at e
  obtain⟨k,hk⟩:=List.exists_mem_of_ne_nil _ (h p)
  exact GI h m _ (e k hk)
theorem Gl (d:kK):(ll d).1≠[]:=
 Mt d.hs.length (dp d) [] _ (oD _) (λt a=>gh a) (.inr (GI (λp=>by unfold jC;simp) _ _))
theorem Dn {d:kK}{t:List Nat}(h:t∈(ll d).1):t∈dp d:=by have:=oC d.hs.length (dp d) [] _ (oD _) (λt a=>gh a);exact(this.mem t h)
theorem Iq (t:List Nat)(i:Nat):t.getD i 0=aM t i:=by rw[List.getD_eq_getElem?_getD];rfl
theorem Gp (d:kK)(A:d.wf)(hh:d.hs.length<=1000000)(a:Int):Ev ad 240 [.agg d.enc,I a] (.bZ [I (iH d a).1,I (iH d a).2]):=by
 have q:((d.hs.map qh.enc).length:Int)=d.hs.length:=zj
 have e:iH d a=if Cs d d.hs.length [a]≠0 then(0,Cs d d.hs.length [a])
   else if (ll d).1.any (λt=>t.getD a.toNat 0!=((ll d).1.headD []).getD a.toNat 0||((ll d).1.headD []).getD a.toNat 0==0)=true then(0,9)
   else(((((ll d).1.headD []).getD a.toNat 0:Nat):Int)-1,0):=by
  unfold iH Cs
  by_cases j:(dH d).2.2≠0
  ·grind
  ·grind
 refine ak aeH.ok<|bc [.bW] rfl ⟨⟨rfl,rfl⟩,trivial⟩<|aa (av ?_);refine lz [.bW] 6 rfl rfl ⟨rfl,trivial⟩ ?_;have x:=Nv d A d.hs.length zz zz [a];rw[<-q]at x;refine ai (bU (Hin:=[]) (H0:=[]) x rfl rfl (aK _) rfl ?_);rw[q];rintro r Ho D;rcases D with⟨g,os,es,rfl,K⟩|⟨g,rfl⟩
 case inr=>
  rw[if_pos g]at e;refine aG (aj (du (H':=[]) (ap _)) (bB.refl _ _ _))<|eZ rfl<|aa (aa ?_);refine cC rfl<|ax rfl zx<|aC rfl<|ab (dm ?_ ?_)
  ·rw[e];rfl
  ·rw[e];rfl
 rw[if_neg (by rw[g];decide)]at e;refine aG (aj (du (H':=[]) (ap _)) (bB.refl _ _ _))<|eZ rfl ?_
 have ok:d.OK:=IK A (by
  unfold Cs at g
  by_cases j:(dH d).2.2=0
  ·exact j
  ·rw[if_pos j]at g;exact g)
 have n:0<=a/\a<d.hs.length:=by
  unfold Cs at g;by_cases j:(dH d).2.2≠0
  ·grind
  ·rw[if_neg j]at g;by_cases w:ah 0 ((d.hs.length:Int)-1) [a]=true
   ·rw[if_pos w]at g;cases g
   ·rw[cF,b4]at w;omega
 have h4:=ok.h4;have c4:=ok.c4;have s:=Gl d;have l:=λt (h:t∈(ll d).1)=>Dn h;have c:=P4 ok (os:=os) K;have f:=(oC d.hs.length (dp d) [] _ (oD _) (λt u=>gh u)).len;rw[dl,show ((dp d).foldl oU ([],d.hs.length+1))=ll d from rfl]at f;generalize (ll d).1=L at e s l c f;generalize (ll d).2=p at c;obtain⟨t0,b,rfl⟩: ∃t0 b,L=t0::b:=by cases L with|nil=>exact absurd rfl s|cons t0 b=>exact⟨t0,b,rfl⟩
 have v:((gr (t0::b)).length:Int)=(t0::b).length:=zj
 have C:(t0::b).length<=625:=cR f (wQ ok);refine aa (aa ?_);refine cC rfl<|aD rfl rfl<|bc [.ret (.bZ [.sl 4 (gr (t0::b)),I p])] rfl ⟨c,trivial⟩ ?_;obtain⟨i,hi⟩:=a6 n.1;subst hi;have o:i<4:=zz
 simp only[List.headD_cons,an,Iq]at e;refine bc [.cells (iz (aM t0)),.pre [I (aM t0 i:Nat)]] rfl (by(and_intros);(all_goals first|exact zk _|((first|exact xP _ o|rfl))))<|aa (aa ?_);refine cC rfl<|bE ((t0::b).any (λt=>aM t i !=aM t0 i||aM t0 i==0)=false) (el [(10,I (aM t0 i:Nat))]) [] [] ?_ ?_
 ·refine dE (λk:Nat=>k<=(t0::b).length/\(t0::b).any (λt=>aM t i !=aM t0 i||aM t0 i==0)=((t0::b).drop k).any (λt=>aM t i !=aM t0 i||aM t0 i==0)) (λk=>el [(1,I i),(10,I (aM t0 i:Nat)),(36,.sl 4 (gr (t0::b))),(37,I (t0::b).length),(38,I k)]) (λk=>(t0::b).length-k) 0 ⟨zz,rfl⟩
   (ao ⟨rfl,rfl,rfl,by show I _=I _;rw[v],rfl,trivial⟩) ?_
  rintro k ⟨hk,hi⟩;generalize y:(t0::b).any (λt=>aM t i !=aM t0 i||aM t0 i==0)=X at hi e;refine aC rfl<|aa (ag rfl (λhc=>?_) (λhc=>?_))
  ·simp only[nL]at hc;obtain⟨t,u⟩:=aL hc;rw[drop_cons u,List.any_cons]at hi;refine af (aa (au ?_));refine bc [.cells (iz (aM t)),.aI] rfl ⟨⟨zz,by rw[bt,an,u];rfl⟩,rfl,⟨rfl,rfl,rfl,zq⟩,trivial⟩<|ae (aq (t:=12) rfl)<|dZ True (el [(1,I i),(10,I (aM t0 i:Nat)),(36,.sl 4 (gr (t0::b))),(37,I (t0::b).length),(38,I k),(50,B (aM t i !=aM t0 i||aM t0 i==0))]) [] [] ?_ ?_
   ·by_cases j:aM t i=aM t0 i
    ·have m:(((aM t i:Nat):Int)!=(aM t0 i:Nat))=false:=by rw[bne_eq_false_iff_eq];omega
     refine js [(47,false)] [.pre [I (aM t i:Nat)]] rfl (by(and_intros);(all_goals first|exact zk _|((first|exact m|exact xP _ o)))) ?_;refine⟨(),trivial,ao ⟨rfl,rfl,rfl,rfl,rfl,?_,trivial⟩⟩;show B _=B _;refine congrArg B ?_;rw[de];simp [j]
    ·have m:(((aM t i:Nat):Int)!=(aM t0 i:Nat))=true:=by rw[bne_iff_ne];omega
     refine js [(47,true)] [.pre [I (aM t i:Nat)]] rfl (by(and_intros);(all_goals first|exact zk _|((first|exact m|exact xP _ o)))) ?_;refine⟨(),trivial,ao ⟨rfl,rfl,rfl,rfl,rfl,?_,trivial⟩⟩;show B _=B _;refine congrArg B ?_;symm;simp [j]
   intro _ _;cases z:(aM t i !=aM t0 i||aM t0 i==0)with
   |true=>
    rw[z,Bool.true_or]at hi;rw[hi,if_pos rfl]at e;refine ax rfl rfl<|aC rfl<|ab (dm ?_ ?_)
    ·rw[e];rfl
    ·rw[e];rfl
   |false=>rw[z,Bool.false_or]at hi;refine aD rfl rfl<|dS rfl ⟨zz,trivial⟩ ?_;exact⟨k+1,⟨hc,hi⟩,zz,eL⟩
  ·simp only[nL]at hc;refine ay ⟨(),?_,eL⟩;rw[hi,drop_nil hc];rfl
 ·intro _ y;rw[y,if_neg zq]at e;have E:=ET (qG (l t0 zj)) i;refine FD rfl ⟨zz,trivial⟩<|ab (dm ?_ ?_)
  ·rw[e];rfl
  ·rw[e];rfl
section
theorem ED {f:Nat->Int}{m k:Nat}(hk:k<m)(h:aA f m 0=aA f (m-k) k)(a:f k≠0):aA f m 0=((k:Int),f k):=by rw[h,show m-k=(m-(k+1))+1 from zz,aA,if_neg a]
theorem Ru {f:Nat->Int}{m k:Nat}(hk:k<m)(h:aA f m 0=aA f (m-k) k)(a:f k=0):aA f m 0=aA f (m-(k+1)) (k+1):=by rw[h,show m-k=(m-(k+1))+1 from zz,aA,if_pos a]
theorem JR {f:Nat->Int}{m k:Nat}(hk: ¬k<m)(a:k<=m)(h:aA f m 0=aA f (m-k) k):aA f m 0=(0,0):=by
 have:k=m:=zz
 subst this;rw[h,Nat.sub_self,aA]
structure cE.wf (a:cE):Prop where
 sh:a.sh.wf
 tw:a.tw.wf
 dr:a.dr.wf
 li:a.li.wf
 ch:a.ch.wf
 ix:a.ix.length<=9223372036854775807
 le:a.le.length<=9223372036854775807
 Xa: -9223372036854775808<=a.ca
 Wz:a.ca<=9223372036854775807
 wo0: -9223372036854775808<=a.ch.wo
 wo1:a.ch.wo<=9223372036854775807
variable {a:cE} (w:a.wf)
include w
theorem VE:Ev ad 52 [.pi a.enc] (I (iL a 0)):=by exact Ev.go S52.ok [(8,[.ev (Du a.sh w.sh)])] []
theorem VT:Ev ad 54 [.pi a.enc] (I (iL a 1)):=by exact Ev.go S54.ok [(8,[.ev (CP a.tw w.tw)])] []
theorem Uk:Ev ad 56 [.pi a.enc] (I (iL a 2)):=by exact Ev.go S56.ok [(8,[.ev (DF a.dr w.dr)])] []
theorem VP:Ev ad 58 [.pi a.enc] (I (iL a 3)):=by exact Ev.go S58.ok [(8,[.ev (CW a.li w.li)])] []
theorem VR:Ev ad 60 [.pi a.enc] (I (iL a 4)):=by exact Ev.go S60.ok [(8,[.ev (Dz a.ch w.ch)])] []
theorem V4:Ev ad 69 [.pi a.enc] (I (iL a 8)):=by exact Ev.go S69.ok [(8,[.ev (Cy a.tw w.tw)])] []
theorem SR:Ev ad 71 [.pi a.enc] (I (iL a 9)):=by exact Ev.go S71.ok [(8,[.ev (Nu w.li)])] []
theorem VG:Ev ad 68 [.pi a.enc] (I (iL a 7)):=by
 have:=w
 refine Ev.vc S68.ok (kh []) (lh []) ?_;repeat' first|apply VW.st|apply VO.st|apply VD.st|apply VS.step|apply cc|(intro b;(try simp only[nL]at b);(try contradiction))
 all_goals try exact fi _
 all_goals exact⟨rfl,by simp only[iL];split<;>omega⟩
omit w in
theorem Ba (h: ¬(a.ix.length:Int)=a.ch.wo):iL a 5=3:=if_pos h
omit w in
theorem Mb {k:Nat}{e:Int}(c:(a.ix.length:Int)=a.ch.wo)(hk:k<a.ix.length)(h:aA (OR a) a.ix.length 0=aA (OR a) (a.ix.length-k) k)(he:OR a k=e)(b:e≠0):iL a 5=e:=by show (if (a.ix.length:Int)≠a.ch.wo then(3:Int)else _)=e;rw[if_neg zx,ED hk h (he▸b),he]
omit w in
theorem R9 {k:Nat}(c:(a.ix.length:Int)=a.ch.wo)(hk: ¬k<a.ix.length)(b:k<=a.ix.length)(h:aA (OR a) a.ix.length 0=aA (OR a) (a.ix.length-k) k):iL a 5=0:=by show (if (a.ix.length:Int)≠a.ch.wo then(3:Int)else _)=0;rw[if_neg zx,JR hk b h]
omit w in
theorem KO {k:Nat}(h:k<a.ix.length):OR a k=if cG [nx a.ix k]≠0 then 6 else if (a.ix.take k).contains (nx a.ix k)=true then 5 else 0:=by unfold OR;rw[mX h]
theorem TW:Ev ad 62 [.pi a.enc] (I (iL a 5)):=by
 have g:=w.ix;refine Ev.vc S62.ok (kh []) (lh [(0,{n:=a.ix.length,E:=λk=>[(0,.pi a.enc),(12,strs a.ix),(13,I a.ix.length),(14,I k)],I:=λk=>aA (OR a) a.ix.length 0=aA (OR a) (a.ix.length-k) k,K:=λk=>[(17,[.i (.cells [bg (nx a.ix k)])]),(22,[.ev (HE [nx a.ix k])]),(30,[.ev (show Ev ad 64 [.sl 1 ((a.ix.map λs=>[bg s]).take k),bg (nx a.ix k)] (B ((a.ix.take k).contains (nx a.ix k)))from by rw[<-List.map_take];exact mq _ _)])]})]) ?_;repeat' first|apply VW.st|apply VO.st|apply VD.st|apply VS.step|apply cc|(intro e;(try simp only[nL]at e);(try contradiction))
 all_goals try exact fi _
 ·exact⟨rfl,(Ba e).symm⟩
 ·rename_i d k _ c b;exact⟨rfl,(Mb d b c (by rw[KO b,if_pos e]) zq).symm⟩
 ·rename_i d k _ c b h4;exact⟨rfl,(Mb d b c (by rw[KO b,if_neg (λh=>h h4),if_pos e]) zq).symm⟩
 ·rename_i d k _ c b h4;exact⟨Ru b c (by rw[KO b,if_neg (λh=>h h4),if_neg (by rw[e];decide)])⟩
 ·rename_i d k f c;exact⟨rfl,(R9 d e f c).symm⟩
omit w in
theorem IS {k:Nat}(h:k<a.le.length)(b:k<a.ch.co.length):Ot a k=if cG (nx a.le k)≠0 then cG (nx a.le k)else if Ii a.ix (nx a.le k)≠PS (nx a.ch.co k).wo then 2 else 0:=by unfold Ot;rw[mX h,mX b]
end
section
abbrev WV (f:Nat->Bool):Value:=.agg #[.bool (f 0),.bool (f 1),.bool (f 2),.bool (f 3),.bool (f 4)]
theorem Qn (f:Nat->Bool):bJ ad 5 153 (WV f):=by
 have a:ad.cellsOf 153=5:=zw
 have b:ad.cellsOf 4=1:=zw
 refine⟨?_,[.bool (f 0),.bool (f 1),.bool (f 2),.bool (f 3),.bool (f 4)],?_⟩
 ·simp [eu,cA,a]
 ·simp [ey,ds,cA,Tryz.underlying4,a,b,b8]
theorem Xy (f g:Nat->Bool){x y:Operand}{env:Env}{H:Heap}{t:Nat}(hx:bu env x= .agg (b5 f))(hy:bu env y= .agg (b5 g)){c:Bool}(hc:c=true↔WV f=WV g):
  ∀(r:Option Nat) (N:Nat) (D:List Nat),Q1 ad r N (.nI true 153 x y) (some t) env H D [(t,B (!c))]:=λr N D=>Q1.of λK k=>
 aF.nI (neg:=true) (m:=3) (DD:=5) zq zw zw zw zw (u:=WV f) (v:=WV g) (by rw[hx];rfl) (by rw[hy];rfl) (Qn f) (Qn g) c hc k
theorem U2 (ix l:List Wd)(n:Int):decide (Ii ix l=PS n)=true↔WV (sK ix l)=WV λi=>n.toNat.testBit i:=by rw[decide_eq_true_iff,show Ii ix l=[sK ix l 0,sK ix l 1,sK ix l 2,sK ix l 3,sK ix l 4]from rfl,show PS n=[n.toNat.testBit 0,n.toNat.testBit 1,n.toNat.testBit 2,n.toNat.testBit 3,n.toNat.testBit 4]from rfl];simp only[b7,WV,eS,eT,eP,and_true]
variable {a:cE} (w:a.wf)
theorem GG (h: ¬(a.le.length:Int)=a.ch.co.length):iL a 6=3:=if_pos zz
theorem LZ {k:Nat}{e:Int}(c:(a.le.length:Int)=a.ch.co.length)(hk:k<a.le.length)(h:aA (Ot a) a.le.length 0=aA (Ot a) (a.le.length-k) k)(he:Ot a k=e)(b:e≠0):iL a 6=e:=by show (if a.le.length≠a.ch.co.length then(3:Int)else _)=e;rw[if_neg zz,ED hk h (he▸b),he]
theorem Rm {k:Nat}(c:(a.le.length:Int)=a.ch.co.length)(hk: ¬k<a.le.length)(b:k<=a.le.length)(h:aA (Ot a) a.le.length 0=aA (Ot a) (a.le.length-k) k):iL a 6=0:=by show (if a.le.length≠a.ch.co.length then(3:Int)else _)=0;rw[if_neg zz,JR hk b h]
set_option maxRecDepth 10000 in
theorem VU (hl:a.le.length<=9223372036854775807)(g:a.ix.length<=5)(j: ∀x∈a.ch.co,0<=x.wo/\x.wo<9223372036854775808):Ev ad 65 [.pi a.enc] (I (iL a 6)):=by
 refine dV S65.ok (kh []) (lh [(0,{n:=a.le.length,E:=λk=>[(0,.pi a.enc),(14,Bo a.le),(15,I a.le.length),(16,I k)],I:=λk=>aA (Ot a) a.le.length 0=aA (Ot a) (a.le.length-k) k,K:=λk=>[(19,[.i (.cells [strs (nx a.le k)])]),(22,[.ev (HE (nx a.le k))]),(29,[.ev (DH a.ix (nx a.le k) g)]),(34,[.i (.cells (nx a.ch.co k).enc)]),(37,[.i (.ret (.agg (b5 λi=>(nx a.ch.co k).wo.toNat.testBit i)))]),(38,[.i (.op (B (!decide (Ii a.ix (nx a.le k)=PS (nx a.ch.co k).wo))))])]})]) ?_;repeat' first|apply aP|apply aO|apply aN|apply aw|apply cc|(intro e;(try simp only[nL]at e);(try contradiction))
 all_goals try exact fi _
 ·exact⟨rfl,(GG e).symm⟩
 ·rename_i d k _ c b;exact⟨rfl,(LZ d b c (by rw[IS b zz,if_pos e]) e).symm⟩
 ·rename_i d k _ c b h4;exact⟨zz,wu (f:=nU.enc) (show k<a.ch.co.length from zz)⟩
 ·rename_i d k _ c b h4;have hx:=j _ (fE (show k<a.ch.co.length from zz));exact⟨Sr _ hx.1 hx.2⟩
 ·exact⟨Xy _ _ rfl rfl (U2 _ _ _)⟩
 ·rename_i d k _ c b h4 g;exact⟨rfl,(LZ d b c (by rw[IS b zz,if_neg (λh=>h h4),if_pos (by simpa using e)]) zq).symm⟩
 ·rename_i d k _ c b h4 g;exact⟨Ru b c (by rw[IS b zz,if_neg (λh=>h h4),if_neg (by simpa using e)])⟩
 ·rename_i d k l c;exact⟨rfl,(Rm d e l c).symm⟩
end
def cf (j:Nat):Nat:=[52,54,56,58,60,62,65,68,69,71].getD j 0
abbrev cfV (a:cE)(j:Nat):AV:=.fn (.func (cf j)) [] [.pi a.enc]
abbrev abJ (a:cE):AV:=.sl 1 ((bm 10).map λj=>[cfV a j])
theorem Yg {a:cE}(w:a.wf): ∀j,j<10->(∀i,i<j->iL a i=0)->Ev ad (cf j) [.pi a.enc] (I (iL a j))
 |0,_,_=>VE w
 |1,_,_=>VT w
 |2,_,_=>Uk w
 |3,_,_=>VP w
 |4,_,_=>VR w
 |5,_,_=>TW w
 |6,_,h=>by
  have ok:=FB w.ch (h 4 zz)
  have b:=h 5 zz
  have he:(a.ix.length:Int)=a.ch.wo:=ek λe=>by rw[Ba e]at b;cases b
  have c:=(kR (n:=a.ch.wo.toNat) (m:=5) (by have:=ok.wo;omega)).2.2
  exact VU w.le (by have:=ok.wo;omega) (λx hx=>by obtain⟨_,⟨w0,w1⟩,_⟩:=ok.co x hx;omega)
 |7,_,_=>VG w
 |8,_,_=>V4 w
 |9,_,_=>SR w
 |n+10,h,_=>zz
theorem Yp {a:cE}{k:Nat}(h:k<10):0<=(k:Int)/\((bm 10).map λj=>[cfV a j])[(k:Int).toNat]? =some [cfV a k]:=⟨zz,by simp [h]⟩
structure BJ (a:cE)(k:Nat):Prop where
 f:aA (iL a) 10 0=aA (iL a) (10-k) k
 z: ∀i,i<k->iL a i=0
theorem BJ.on {a:cE}{k:Nat}(h:BJ a k)(hk:k<10)(b:iL a k=0):BJ a (k+1):=
 ⟨Ru hk h.f b,λi hi=>if e:i=k then e▸b else h.z i zz⟩
theorem BJ.here {a:cE}{k:Nat}(h:BJ a k)(hk:k<10)(b:iL a k≠0):cZ a=((k:Int)+1,iL a k):=by unfold cZ;rw[ED hk h.f b,if_neg b]
theorem BJ.fin {a:cE}{k:Nat}(h:BJ a k)(hk: ¬k<10)(b:k<=10):cZ a=(0,0):=by unfold cZ;rw[JR hk b h.f,if_pos rfl]
set_option maxRecDepth 20000 in
theorem tW {a:cE}(w:a.wf):Ev ad 31 [.agg a.enc] (.bZ [I (cZ a).1,I (cZ a).2]):=by
 generalize hc:cZ a=c;obtain⟨p,e⟩:=c;refine dV S31.ok (kh []) (lh [(0,{n:=10,E:=λk=>[(18,abJ a),(19,I 10),(20,I k)],I:=λk=>BJ a k,K:=λk=>[(23,[.i (.cells [cfV a k])]),(26,[.i (.ret (I (iL a k)))])]})]) ?_;repeat' first|apply aP|apply aO|apply aN|apply aw|apply cc|(intro d;(try simp only[nL]at d);(try contradiction))
 all_goals try first|exact fo _|exact⟨Yp zz⟩|exact⟨Yg w _ zz (BJ.z zy)⟩|exact⟨BJ.on zy zz zy⟩|exact⟨(⟨rfl,λi hi=>zz⟩:BJ a 0)⟩|exact fi _
 ·rename_i k _ h f;cases hc.symm.trans (h.here zz d);exact⟨rfl,rfl⟩
 ·rename_i k _ h f;cases hc.symm.trans (h.here zz d);exact⟨rfl,rfl⟩
 ·rename_i k b h;cases hc.symm.trans (h.fin zz b);exact⟨rfl,rfl⟩
 ·rename_i k b h;cases hc.symm.trans (h.fin zz b);exact⟨rfl,rfl⟩
end Go.Px
