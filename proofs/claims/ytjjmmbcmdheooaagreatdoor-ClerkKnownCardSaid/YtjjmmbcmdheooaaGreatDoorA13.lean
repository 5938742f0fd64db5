/- Part 13 of the proof of a statement of this seat (a logic of pure contracts; the functions; their contracts). No conditions. -/
import Derived.Test.YtjjmmbcmdheooaaGreatDoorA12
open Bool renaming false_eq_true->bi,eq_iff_iff->de,and_eq_true->ej,or_eq_true->et,true_and->ew
open Classical renaming byContradiction->eu
open Decidable renaming byContradiction->cb
open Go.Proofs.Tryz renaming prog->bI
open Int renaming toNat_natCast->bx,eq_ofNat_of_zero_le->cB,pow_pos->eM
open List renaming getElem?_eq_some_iff->ad,mem_of_getElem?->an,mem_iff_getElem?->ap,mem_singleton->az,mem_cons->a6,mem_append->a7,length_cons->a8,range->bk,exists_mem_of_ne_nil->bm,mem_filter->bn,mem_range->bs,mem_map->bt,getElem?_map->b0,not_mem_nil->b3,foldl_cons->b6,length_map->b7,length_nil->b8,length_append->b9,foldl_append->cc,getElem?_set->cr,getElem?_cons_zero->cD,length_eq_zero_iff->cR,mem_flatMap->c7,filterMap_append->dk,map_cons->dl,countP_append->dn,any_eq_false->ds,all_eq_true->ek,any_eq_true->en,nodup_range->er,map->eT
open List.Nodup renaming length_le_of_subset->b1
open List.cons renaming injEq->eS
open Nat renaming pow_le_pow_right->be,mul_le_mul_right->bA,add_mul->b4,le_refl->cA,pow_succ->ea,le_trans->ey,one_mul->eP
open Option renaming map_eq_some_iff->c8
open Option.some renaming injEq->ec
namespace Go.Px
open Go.Proofs
def ur (set:Int)(u:Nat):Bool:=(((u &&& set.toNat:Nat):Int)==set)
def kZ (set:Int)(p:List Int×Nat)(e:List Int×Nat):List Int×Nat:=
 if ur set e.2=true then(if p.2=0\/cy e.1 p.1=true then e.1 else p.1,p.2+1)else p
def fg (es:Kn)(set:Int):List Int×Nat:=es.foldl (kZ set) ([],0)
theorem Wa {h g:List Int}(hl:h.length=g.length)(i:h.length<=5)(e:pad h=pad g):h=g:=by simp only[pad,eS,and_true]at e;obtain⟨a,b,c,d,f⟩:=e;apply GZ i;simp only[rz,hl,a,b,c,d,f]
theorem iT {h g:List Int}(b:rG h)(a:rG g):cy h g=true↔h.length<g.length\/(h.length=g.length/\dM (pad h) (pad g)=true):=by grind [cy,pad,uW,M5]
theorem zi: ∀{a b c:List Int},a.length=b.length->b.length=c.length->dM a b=true->dM b c=true->dM a c=true
 |[],[],_,_,_,h,_=>by simp [dM]at h
 |x::a,y::b,z::c,f,i,h,g=>by
  simp only[dM]at h g ⊢
  have j:=zi (a:=a) (b:=b) (c:=c) (by simpa using f) (by simpa using i)
  by_cases e:x=y
  ·subst e
   simp only[if_true]at h
   by_cases d:x=z
   ·subst d;simp only[if_true]at g ⊢;exact j h g
   ·simp only[d,if_false]at g ⊢;exact g
  ·simp only[e,if_false,decide_eq_true_eq]at h
   by_cases d:y=z
   ·subst d;simp [e,h]
   ·simp only[d,if_false,decide_eq_true_eq]at g
    have:x≠z:=zz
    simp [this];omega
theorem zl: ∀{a b:List Int},a.length=b.length->a≠b->dM a b=false->dM b a=true
 |[],[],_,h,_=>absurd rfl h
 |x::a,y::b,d,f,h=>by
  simp only[dM]at h ⊢
  by_cases e:x=y
  ·subst e
   simp only[if_true]at h ⊢
   exact zl (by simpa using d) (λe=>f (by rw[e])) h
  ·have c: ¬y=x:=λh=>e h.symm
   simp only[e,c,if_false,decide_eq_false_iff_not,decide_eq_true_eq]at h ⊢
   omega
theorem mw {a b c:List Int}(ha:rG a)(d:rG b)(hc:rG c)(h:cy a b=true)(g:cy b c=true):cy a c=true:=by
 rw[iT ha d]at h;rw[iT d hc]at g;rw[iT ha hc];rcases h with h|⟨f,e⟩<;>rcases g with g|⟨g1,g2⟩
 ·left;omega
 ·left;omega
 ·left;omega
 ·right;exact⟨zz,zi (a:=pad a) (b:=pad b) (c:=pad c) rfl rfl e g2⟩
theorem uJ {a b:List Int}(ha:rG a)(d:rG b)(c:a≠b)(h:cy a b=false):cy b a=true:=by
 have g: ¬cy a b=true:=by simp [h]
 rw[iT ha d]at g;rw[iT d ha];by_cases hl:b.length<a.length
 ·exact .inl hl
 ·right;have e:b.length=a.length:=zz
  refine⟨e,zl (a:=pad a) (b:=pad b) rfl (λf=>c (Wa e.symm ha.1 f)) ?_⟩;cases hx:dM (pad a) (pad b)with
  |false=>rfl
  |true=>grind
theorem Bx {a:List Int}(ha:rG a):cy a a=false:=by grind [cy]
def tJ (set:Int)(l:Kn)(p:List Int×Nat):Prop:=
 p.2=l.countP (λe=>ur set e.2)/\(p.2=0->p.1=[])/\(p.2≠0->(∃u,(p.1,u)∈l/\ur set u=true)/\ ∀e∈l,ur set e.2=true->e.1=p.1\/cy p.1 e.1=true)
theorem qm (set:Int): ∀(l2 l1:Kn) (p:List Int×Nat),vB (l1++l2)->tJ set l1 p->tJ set (l1++l2) (l2.foldl (kZ set) p)
 |[],l1,p,_,h=>by simpa using h
 |e::l2,l1,p,hk,h=>by
  have sV:tJ set (l1++[e]) (kZ set p e):=by
   obtain⟨i,j,f⟩:=h
   have he:=hk e zj
   unfold kZ
   by_cases hs:ur set e.2=true
   ·rw[if_pos hs]
    refine⟨by simp [dn,hs,<-i],λh=>by simp at h,λ_=>?_⟩
    by_cases hb:p.2=0\/cy e.1 p.1=true
    ·rw[if_pos hb]
     refine⟨⟨e.2,zj,hs⟩,?_⟩
     intro g hg a
     rcases a7.1 hg with hg|hg
     ·by_cases c:p.2=0
      ·have:0<l1.countP (λe=>ur set e.2):=List.countP_pos_iff.2 ⟨g,hg,a⟩
       omega
      ·rcases hb with hb|hb
       ·exact absurd hb c
       ·obtain⟨⟨u,d,_⟩,h4⟩:=f c
        rcases h4 g hg a with e1|e1
        ·right;rw[e1];exact hb
        ·right
         exact mw he.1 (hk (p.1,u) (by simp [d])).1 (hk g (by simp [hg])).1 hb e1
     ·simp only[az]at hg;subst hg;exact .inl rfl
    ·rw[if_neg hb]
     have c: ¬p.2=0:=λh=>hb (.inl h)
     obtain⟨⟨u,d,b⟩,h4⟩:=f c
     refine⟨⟨u,by simp [d],b⟩,?_⟩
     intro g hg a
     rcases a7.1 hg with hg|hg
     ·exact h4 g hg a
     ·simp only[az]at hg;subst hg
      by_cases e1:g.1=p.1
      ·exact .inl e1
      ·right
       refine uJ he.1 (hk (p.1,u) (by simp [d])).1 e1 ?_
       cases hx:cy g.1 p.1 with
       |false=>rfl
       |true=>exact absurd (.inr hx) hb
   ·rw[if_neg hs]
    refine⟨by simp [dn,hs,<-i],j,λc=>?_⟩
    obtain⟨⟨u,d,b⟩,h4⟩:=f c
    refine⟨⟨u,by simp [d],b⟩,?_⟩
    intro g hg a
    rcases a7.1 hg with hg|hg
    ·exact h4 g hg a
    ·simp only[az]at hg;subst hg;exact absurd a hs
  have:=qm set l2 (l1++[e]) (kZ set p e) (by simpa using hk) sV
  simpa using this
theorem Al {set:Int}{l j:Kn}(c:l.Perm j)(hk:vB l){p q:List Int×Nat}(h:tJ set l p)(g:tJ set j q):p=q:=by
 obtain⟨r,t,s⟩:=h;obtain⟨g1,g2,m⟩:=g;have k:p.2=q.2:=by rw[r,g1];exact c.countP_eq _
 by_cases o:p.2=0
 ·grind
 ·obtain⟨⟨u,d,e⟩,h4⟩:=s o;obtain⟨⟨v,i,f⟩,n⟩:=m zz;refine Prod.ext ?_ k;rcases h4 _ (c.symm.subset i) f with a|a
  ·exact a.symm
  ·rcases n _ (c.subset d) e with b|b
   ·exact b
   ·have:=mw (hk _ d).1 (hk _ (c.symm.subset i)).1 (hk _ d).1 a b;rw[Bx (hk _ d).1]at this;cases this
theorem FK {l es:Kn}(set:Int)(f:l.Perm es)(hk:vB es):l.foldl (kZ set) ([],0)=fg es set:=by have d:vB l:=λe he=>hk e (f.subset he);have a:tJ set [] ([],0):=⟨rfl,λ_=>rfl,λh=>absurd rfl h⟩;have b:=qm set l [] ([],0) zx a;have c:=qm set es [] ([],0) zx a;exact Al zx zx b c
theorem zD {α:Type}(es:List α):(bk es.length).filterMap (λj=>es[j]?)=es:=by
 have key: ∀n,n<=es.length->(bk n).filterMap (λj=>es[j]?)=es.take n:=by
  intro n;induction n with
  |zero=>intro _;rfl
  |succ n b=>
   intro c;have a:n<es.length:=zz
   rw[List.range_succ,dk,b zz,List.take_succ_eq_append_getElem a];simp [a]
 rw[key _ (cA _),List.take_length]
def Cj (es:Kn)(set:Int)(seen:List Nat):List Int×Nat:=(seen.filterMap λj=>es[j]?).foldl (kZ set) ([],0)
theorem NR {es:Kn}{set:Int}{seen:List Nat}{j:Nat}{e:List Int×Nat}(h:es[j]? =some e):Cj es set (seen++[j])=kZ set (Cj es set seen) e:=by simp [Cj,dk,h,cc]
theorem AW {es:Kn}{set:Int}{seen:List Nat}(hk:vB es)(d:seen.Nodup)(c: ∀j∈seen,j<es.length)(b: ∀j,j<es.length->j∈seen):Cj es set seen=fg es set:=by
 have e:seen.Perm (bk es.length):=(List.perm_ext_iff_of_nodup d er).2 (λj=>zx)
 have a:=e.filterMap (λj=>es[j]?);rw[zD]at a;exact FK set a hk
theorem F1 {es:Kn}{set:Int}(hk:vB es)(seen:List Nat):rG (Cj es set seen).1/\(Cj es set seen).2<=seen.length:=by
 have key: ∀(l:Kn) (p:List Int×Nat),vB l->rG p.1->rG (l.foldl (kZ set) p).1/\(l.foldl (kZ set) p).2<=p.2+l.length:=by
  intro l;induction l with
  |nil=>grind
  |cons e l g=>
   intro p hl f;simp only[b6];have he:=hl e zj;have a:vB l:=λx hx=>hl x (by simp [hx]);have d:kZ set p e=if ur set e.2=true then(if p.2=0\/cy e.1 p.1=true then e.1 else p.1,p.2+1)else p:=rfl
   rw[d];split
   ·obtain⟨b,c⟩:=g (if p.2=0\/cy e.1 p.1=true then e.1 else p.1,p.2+1) a (by simp only;split;exact he.1;exact f);exact⟨b,by simp at c ⊢;omega⟩
   ·obtain⟨b,c⟩:=g p a f;exact⟨b,by simp;omega⟩
 have h:vB (seen.filterMap λj=>es[j]?):=by intro e he;obtain⟨j,_,i⟩:=List.mem_filterMap.1 he;exact hk e (an i)
 obtain⟨b,c⟩:=key _ ([],0) h ⟨zj,zj⟩;refine⟨b,ey c ?_⟩;simp;exact List.length_filterMap_le _ _
theorem Qc (b:dv)(es:Kn)(hk:vB es)(G:es.length<1000000)(set:Int)(H:0<=set)(J:set<9223372036854775808):
  Ev bI 362 [bp b (.mi (jk es)),I set] (.bZ [.agg (eV (fg es set).1),I (fg es set).2]):=by
 refine ak ac8.ok<|bc [.aI] rfl ⟨rfl,trivial⟩<|aa (aa (av ?_))
 refine kL 4 rfl rfl<|ai (aF.xM rfl (λC m=>?_))
 refine eZ rfl<|bE True (el [(4,.dO 474 (eV (fg es set).1)),(5,I (fg es set).2)]) [] [] ?_ ?_
 ·refine br (X:=List Nat) (λseen=>seen.Nodup/\(∀j∈seen,j<es.length)) (λseen=>el [(1,I set),(4,.dO 474 (eV (Cj es set seen).1)),(5,I (Cj es set seen).2),(12,.po C 0)])
   (λseen=>[(C,.ra m (jk es) seen)]) (λ_=>[]) (λseen=>es.length-seen.length) [] ⟨zj,zj⟩ eL ?_
  rintro seen ⟨E,r⟩
  have K:seen.length<=es.length:=by
   have hs:=b1 (l₂:=bk es.length) E (λj q=>bs.2 (r j q))
   simpa using hs
  obtain⟨l,w⟩:=F1 (set:=set) hk seen
  refine aa (av (ai (aF.Wm (i:=0) rfl rfl (λj kv p q he=>?_) (λv=>?_))))
  ·have y:(es.map λe=>(rz e.1,I e.2))[j]? =some (kv,p):=he
   rw[b0,c8]at y
   obtain⟨⟨h,u⟩,x,z⟩:=y
   simp only[Prod.mk.injEq]at z
   obtain⟨rfl,rfl⟩:=z
   have F:=(ad.1 x).1
   obtain⟨hh,L⟩:=hk _ (an x)
   simp only at hh L
   have f:=NR (set:=set) (seen:=seen) x
   have s:(seen++[j]).Nodup:=by
    rw[List.nodup_append]
    exact⟨E,zj,by intro a ha c hc e;simp only[az]at hc;subst hc e;exact q ha⟩
   have k: ∀i∈seen++[j],i<es.length:=by
    intro i hi
    rcases a7.1 hi with hi|hi
    ·exact r i hi
    ·simp only[az]at hi;subst hi;exact F
   have A:(seen++[j]).length<=es.length:=by
    have hs:=b1 (l₂:=bk es.length) s (λj q=>bs.2 (k j q))
    simpa using hs
   simp only[b9,a8,b8]at A
   generalize Cj es set seen=st at f l w
   obtain⟨g,many⟩:=st
   simp only at l w
   refine eZ rfl<|aa (ag (b:=true) rfl (λ_=>af ?_) (λh=>by cases h))
   refine au (aa (av (ai (aF.entry (i:=0) rfl rfl he ?_))))
   refine Sc [.aI] rfl ⟨rfl,⟨rfl,rfl,rfl,zq⟩,trivial⟩<|aa (aa ?_)
   refine dS rfl ⟨⟨⟨zz,zz⟩,H,J⟩,trivial⟩<|ag rfl (λo=>?_) (λo=>?_)
   ·have d:ur set u=false:=by
     have o:((((u:Int).toNat &&& set.toNat:Nat):Int)!=set)=true:=o
     simp only[nL]at o
     simp only[ur,beq_eq_false_iff_ne,ne_eq]
     exact o
    refine ay ⟨seen++[j],⟨s,k⟩,by simp;omega,aj (ar rfl) (ao ⟨rfl,?_,?_,rfl,trivial⟩)⟩
    ·rw[f];simp only[kZ,d,if_false,bi];rfl
    ·rw[f];simp only[kZ,d,if_false,bi];rfl
   ·have d:ur set u=true:=by
     have o:((((u:Int).toNat &&& set.toNat:Nat):Int)!=set)=false:=o
     simp only[bne_eq_false_iff_eq]at o
     simp only[ur,beq_iff_eq]
     exact o
    refine af<|FD rfl ⟨zz,trivial⟩<|dZ True (el [(1,I set),(4,.dO 474 (eV g)),(5,I ((many:Int)+1)),(6,.dO 474 (eV h)),(12,.po C 0),(31,B (decide (many=0\/cy h g=true)))]) [(C,.ra m (jk es) (seen++[j]))] [] ?_ ?_
    ·by_cases hm:many=0
     ·subst hm
      refine js [(27,true)] [] rfl zj ?_
      exact⟨(),trivial,ao ⟨rfl,rfl,rfl,rfl,rfl,by show B _=B _;simp,trivial⟩⟩
     ·have D:(((many:Int)+1)==1)=false:=by simp;omega
      refine js [(27,false)] [.ret (B (cy h g))] rfl ⟨D,D,⟨D,NC h g hh l⟩,D,trivial⟩ ?_
      exact⟨(),trivial,ao ⟨rfl,rfl,rfl,rfl,rfl,by show B _=B _;simp [hm],trivial⟩⟩
    intro _ _
    refine ag rfl (λhd=>?_) (λhd=>?_)
    ·simp only[decide_eq_true_eq]at hd
     refine dS rfl ⟨⟨rfl,rfl,rfl,cA 6⟩,trivial⟩ ?_
     refine⟨seen++[j],⟨s,k⟩,by simp;omega,aj (ar rfl) (ao ⟨rfl,?_,?_,rfl,trivial⟩)⟩
     ·rw[f];simp only[kZ,d,if_true,hd];rfl
     ·rw[f];simp only[kZ,d,if_true];rfl
    ·simp only[decide_eq_false_iff_not]at hd
     refine af ⟨seen++[j],⟨s,k⟩,by simp;omega,aj (ar rfl) (ao ⟨rfl,?_,?_,rfl,trivial⟩)⟩
     ·rw[f];simp only[kZ,d,if_true,hd,if_false];rfl
     ·rw[f];simp only[kZ,d,if_true];rfl
  ·refine eZ rfl<|aa (ag (b:=false) rfl (λh=>by cases h) (λ_=>ay ⟨(),trivial,aj (bB.Hv 0) (ao ⟨?_,?_,trivial⟩)⟩))
   ·rw[<-AW (set:=set) hk E r (λj q=>v j (by simpa [jk]using q))];rfl
   ·rw[<-AW (set:=set) hk E r (λj q=>v j (by simpa [jk]using q))];rfl
 ·intro _ _
  refine FD rfl ⟨⟨rfl,rfl,rfl,cA 6⟩,trivial⟩<|ae (aq (t:=4) rfl) (ab ⟨.inr rfl,[],rfl,.many zq ⟨.mz (n:=some 6) (cs:=eV (fg es set).1) (bw _ _ _) zw rfl,.tmp rfl rfl,trivial⟩⟩)
theorem Th {b:dv}(d:b.wf){many:Int}(a:0<=many)(c:many<=9223372036854775807){l:List Int}(h:gv b many l=0):Ev bI 361 [.agg b.enc,I many,ints l] (.bZ [C1 b,I 0]):=by have:=FO b d many a c l;rw[h,if_pos rfl]at this;exact this
theorem Nx {b:dv}(d:b.wf){many:Int}(a:0<=many)(c:many<=9223372036854775807){l:List Int}(h: ¬gv b many l=0):Ev bI 361 [.agg b.enc,I many,ints l] (.bZ [.v (.pointer none),I (gv b many l)]):=by have:=FO b d many a c l;rw[if_neg h]at this;exact this
theorem Es {b:dv}{many:Int}{l:List Int}(h:gv b many l=0):(check b).2.2=0/\ah 0 (many-1) l=false:=by grind [gv]
theorem LR {b:dv}(h:(check b).2.2=0):1<=b.n/\b.n<=4/\1<=b.al.length/\b.al.length<=3/\b.ss.length<=5:=by grind [check,only,ah]
theorem pc {α β:Type}{f:α->List β}{c:Nat}: ∀{l:List α},(∀x∈l,(f x).length<=c)->(l.flatMap f).length<=l.length*c
 |[],_=>zj
 |x::l,h=>by
  have a:=h x zj
  have b:=pc (l:=l) (λy hy=>h y (by simp [hy]))
  simp only[List.flatMap_cons,b9,a8,b4]
  omega
theorem qJ {n:Nat}(a:n<=4): ∀(xs:List bz) (h:List Int),(dy n xs h).length<=5^xs.length
 |[],h=>by simp [dy]
 |x::xs,h=>by
  have c:=qJ a xs h
  have d:(((bk n).filter (λ(k:Nat)=>cN x.s k)).flatMap (λ(k:Nat)=>dy n xs (h++[(k:Int)]))).length<=((bk n).filter (λ(k:Nat)=>cN x.s k)).length*5^xs.length:=
   pc (λk _=>qJ a xs _)
  have b:((bk n).filter (λ(k:Nat)=>cN x.s k)).length<=4:=ey (List.length_filter_le _ _) (by simp;omega)
  have h4:=bA (5^xs.length) b
  simp only[dy,b9,a8,ea]
  split
  ·omega
  ·simp only[b8];omega
theorem FZ (es:Kn)(h:List Int)(a:Nat):(nC es h a).length<=es.length+1:=by unfold nC;cases fS es h<;>simp
theorem vU (a:Nat): ∀(l:List (List Int)) (es:Kn),(l.foldl (λes h=>nC es h a) es).length<=es.length+l.length
 |[],es=>zj
 |h::l,es=>by
  simp
  have:=vU a l (nC es h a)
  have:=FZ es h a
  omega
theorem uF {n:Nat}(b:n<=4): ∀(a:List (List bz)) (i:Nat) (es:Kn),(∀xs∈a,xs.length<=5)->(jq n a i es).length<=es.length+a.length*3125
 |[],i,es,_=>by simp [jq]
 |xs::a,i,es,h=>by
  have c:=uF b a (i+1) ((dy n xs []).foldl (λes h=>nC es h (2^i)) es) (λy hy=>h y (by simp [hy]))
  have d:=vU (2^i) (dy n xs []) es
  have e:=qJ b xs []
  have h4:5^xs.length<=5^5:=be zz (h xs zj)
  simp only[jq,a8]
  omega
theorem DO {n:Nat}(c:n<=64): ∀(b:List (List bz)) (i:Nat) (es:Kn),(∀xs∈b,xs.length<=5)->i+b.length<=5->vB es->vB (jq n b i es)
 |[],i,es,_,_,hk=>hk
 |xs::b,i,es,h,hi,hk=>by
  simp only[jq,a8]at hi ⊢
  refine DO c b (i+1) _ (λy hy=>h y (by simp [hy])) zz ?_
  have hx:=h xs zj
  have a: ∀g∈dy n xs [],rG g:=λg hg=>⟨by
   have:=pV n xs [] g hg
   simp at this;omega,tB c xs [] g hg zj⟩
  have d:2^i<32:=by
   have:2^i<=2^4:=be zz zz
   omega
  generalize dy n xs []=l at a
  induction l generalizing es with
  |nil=>exact hk
  |cons g l e=>
   simp
   exact e _ (Mh hk (a g zj) d) (λy hy=>a y (by simp [hy]))
theorem N7 {b:dv}(c:b.wf)(h:(check b).2.2=0): ∀xs∈tk b,xs.length<=5:=by have ok:=Qx b c h;intro xs hx;obtain⟨i,hi⟩:=ap.1 hx;obtain⟨s,a,hs⟩:=ok.sp i xs hi;have:=hs.len;have:=hs.t5;omega
theorem Bw {b:dv}(c:b.wf)(h:(check b).2.2=0):vB (cS b)/\(cS b).length<1000000:=by
 obtain⟨n0,n1,_,_,d⟩:=LR h;have hl:=N7 c h;have a:(tk b).length=b.ss.length:=by simp [tk]
 refine⟨DO zz _ 0 [] hl zz (by intro e he;cases he),?_⟩;have:=uF (n:=b.n.toNat) zz (tk b) 0 [] hl;simp only[b8]at this;unfold cS;omega
theorem KL {es:Kn}(hk:vB es)(set:Int):rG (fg es set).1:=by have h:=(F1 (set:=set) hk (bk es.length)).1;have e:Cj es set (bk es.length)=fg es set:=AW hk (er) zj zj;rw[e]at h;exact h
theorem Kz {b:dv}{l:List Int}(g:b.wf)(he:gv b b.ss.length l=0):(∀i∈l,0<=i/\i<b.ss.length/\(2:Int)^i.toNat<=16/\(0:Int)<2^i.toNat)/\b.ss.length<=5/\vB (cS b)/\(cS b).length<1000000:=by
 obtain⟨hc,d⟩:=Es he;obtain⟨hk,a⟩:=Bw g hc;obtain⟨_,_,_,_,e⟩:=LR hc;refine⟨?_,e,hk,a⟩;intro i hi;simp only[ah,ds,et,decide_eq_true_eq,not_or]at d;have:=d i hi;have c:(0:Int)<2^i.toNat:=eM zz;have h:(2:Nat)^i.toNat<=2^4:=be zz zz;have f:(2:Int)^i.toNat=((2^i.toNat:Nat):Int):=zj
 refine⟨zz,zz,zz,c⟩
def zB:List Int->Int->Bool
 |[],_=>true
 |n::l,last=>decide (last<n)&&zB l n
def ns:List Int->Nat->Nat
 |[],s=>s
 |n::l,s=>ns l (s ||| 2^n.toNat)
theorem one_pow (k:Nat):((1:Int)*2^k).toNat=2^k:=by
 have:(1:Int)*2^k=((2^k:Nat):Int):=zj
 rw[this];rfl
def gd (b:dv)(l:List Int):List Int×Int:=
 if gv b b.ss.length l=0 then
  (if zB l (-1)=true/\ns l 0≠0 then
    (if (fg (cS b) (ns l 0:Int)).2=0 then([],9)else((fg (cS b) (ns l 0:Int)).1,0))
  else([],2))
 else([],gv b b.ss.length l)
theorem J0 (b:dv)(y:b.wf)(hs:b.ss.length<=9223372036854775807)(l:List Int):Ev bI 332 [.agg b.enc,ints l] (.bZ [ints (gd b l).1,I (gd b l).2]):=by
 refine ak aeE.ok<|cH 1 rfl λr=>?_;simp only[b7]at r;refine bc [.bW] rfl ⟨⟨rfl,rfl⟩,trivial⟩ ?_;have m:((b.ss.map cQ.enc).length:Int)=b.ss.length:=zj
 have err: ∀(env:Env) (e:Int),gd b l=([],e)->env 4= .nil->env 5=I e->aJ bI none 53 .ret (λe env H D=>e= .ret/\pD bI [.tmp 4,.tmp 5] (.bZ [ints (gd b l).1,I (gd b l).2]) .ret env H D) env [] []:=by
  intro env e h h4 z;rw[h];refine ae (bB.jD (t:=4) 1 h4)<|ab ⟨rfl,fh (.inr rfl) (.many zq ⟨.tmp ?_ rfl,.tmp ?_ rfl,trivial⟩)⟩
  ·rfl
  ·rw[eB _ _ zq,z]
 by_cases he:gv b b.ss.length l=0
 ·obtain⟨i,z,hk,q⟩:=Kz y he;refine bc [.ret (.bZ [C1 b,I 0])] rfl ⟨by rw[<-m]at he;exact Th y zz zz he,trivial⟩<|aa (aa ?_);refine cC rfl<|aD rfl rfl<|aC rfl<|aa (aa ?_);refine cC rfl<|aJ.gK (λs:Nat=>s<32/\ns l 0=s/\zB l (-1)=true) (λs=>el [(6,C1 b),(8,I s)]) (λ_=>[]) (λ_=>[]) ?_ ?_
  ·refine br (X:=Nat×Nat×Int) (λx=>x.1<=l.length/\x.2.1<32/\ns l 0=ns (l.drop x.1) x.2.1/\zB l (-1)=zB (l.drop x.1) x.2.2) (λx=>el [(6,C1 b),(8,I x.2.1),(9,I x.2.2),(26,ints l),(27,I l.length),(28,I x.1)]) (λ_=>[]) (λ_=>[]) (λx=>l.length-x.1) (0,0,-1) ⟨zj,zj,rfl,rfl⟩
    (ao ⟨rfl,rfl,rfl,rfl,by show I _=I _;simp,rfl,trivial⟩) ?_
   rintro⟨k,s,last⟩ ⟨p,c,d,a⟩;simp only at p c d a ⊢;refine aC rfl<|aa (ag rfl (λhc=>?_) (λhc=>?_))
   ·simp only[nL]at hc;obtain⟨n,u⟩:=aL hc;rw[drop_cons u]at d a;simp only[ns,zB]at d a;obtain⟨n0,n1,C,B⟩:=i n (an u);have A:s ||| 2^n.toNat<2^5:=Nat.or_lt_two_pow zz (Nat.pow_lt_pow_right zz zz)
    refine af (aa (au ?_));refine bc [.cells [I n]] rfl ⟨⟨zz,by simp [u]⟩,trivial⟩<|aa (aa ?_);refine cC rfl<|ag rfl (λf=>?_) (λf=>?_)
    ·simp only[decide_eq_true_eq]at f;refine aC rfl<|mH (err _ 2 ?_ rfl rfl) (by rintro e env H D ⟨rfl,h⟩;exact h)
     ·have:decide (last<n)=false:=by simp;omega
      rw[this,Bool.false_and]at a;simp only[gd,he,a,if_true,if_false,bi,false_and]
    ·simp only[decide_eq_false_iff_not]at f;have o:decide (last<n)=true:=by simp;omega
     rw[o,ew]at a;refine af<|dS rfl ⟨⟨zz,zz,zz,zz⟩,⟨⟨zz,zz⟩,zz,zz⟩,trivial⟩<|dS rfl ⟨zz,trivial⟩ ?_;refine⟨(k+1,s ||| 2^n.toNat,n),⟨hc,by simp only;omega,d,a⟩,by simp only;omega,ao ⟨rfl,?_,rfl,rfl,rfl,rfl,trivial⟩⟩;show I _=I _;rw[one_pow];rfl
   ·simp only[nL]at hc;rw[drop_nil hc]at d a;exact ay ⟨s,⟨c,d,a⟩,eL⟩
  ·rintro s ⟨c,d,a⟩;refine aa (aa ?_);refine cC rfl<|ag rfl (λf=>?_) (λf=>?_)
   ·simp only[beq_iff_eq]at f;refine aC rfl<|mH (err _ 2 ?_ rfl rfl) (by rintro e env H D ⟨rfl,h⟩;exact h)
    ·have:s=0:=zz
     simp only[gd,he,a,d,this,if_true,if_false,ne_eq,not_true_eq_false,and_false]
   ·simp only[nL]at f;have w: ¬s=0:=zz
    have j:gd b l=if (fg (cS b) (s:Int)).2=0 then([],9)else((fg (cS b) (s:Int)).1,0):=by simp only[gd,he,a,d,w,if_true,ne_eq,not_false_eq_true,and_self]
    refine af<|bc [.ret (.bZ [.agg (eV (fg (cS b) (s:Int)).1),I (fg (cS b) (s:Int)).2]),.aI] rfl ⟨Qc b _ hk q s zz zz,rfl,⟨rfl,rfl,rfl,cA 6⟩,trivial⟩<|ae (aq (t:=12) rfl)<|aa (aa ?_);refine cC rfl<|ag rfl (λhd=>?_) (λhd=>?_)
    ·simp only[beq_iff_eq]at hd;have g:(fg (cS b) (s:Int)).2=0:=zz
     refine aC rfl<|mH (err _ 9 (by rw[j,if_pos g]) rfl rfl) (by rintro e env H D ⟨rfl,h⟩;exact h)
    ·simp only[nL]at hd;have g: ¬(fg (cS b) (s:Int)).2=0:=zz
     refine af<|bc [.ret (ints (fg (cS b) (s:Int)).1)] rfl ⟨Vk _ (KL hk _).1,trivial⟩ ?_;rw[j,if_neg g];refine ab (dm ?_ ?_)
     ·rfl
     ·rfl
 ·refine bc [.ret (.bZ [.v (.pointer none),I (gv b b.ss.length l)])] rfl ⟨by rw[<-m]at he ⊢;exact Nx y zz zz he,trivial⟩<|aa (aa ?_);refine cC rfl<|ag rfl (λh=>?_) (λh=>?_)
  ·refine aC rfl<|mH (err _ (gv b b.ss.length l) (by simp only[gd,he,if_false]) rfl rfl) (by rintro e env H D ⟨rfl,h⟩;exact h)
  ·grind
abbrev bytes (l:List UInt8):AV:=.sl 1 (l.map λc=>[U c.toNat])
def ZX (f:UInt8->UInt8->Int):List UInt8->List UInt8->Int
 |[],[]=>0
 |[],_::_=> -1
 |_::_,[]=>1
 |a::x,b::y=>if f a b=0 then ZX f x y else f a b
theorem vw {α:Type}(p:α->Bool): ∀(l:List α) (k:Int),0<=k-> -1<=bD p l k/\bD p l k<k+l.length+1
 |[],k,h=>by simp only[bD,b8];omega
 |x::l,k,h=>by
  have a:=vw p l (k+1) zz
  simp only[bD,a8]
  split<;>omega
def abi (ls:List bz)(a b:UInt8):Int:=cW ls a.toNat-cW ls b.toNat
def wrC (ls:List bz)(s t:Option (List UInt8)):Option (List UInt8):=match t,s with
 |none,s=>s
 |some t,none=>some t
 |some t,some s=>if ZX (abi ls) t s<0 then some t else some s
def wr (ls:List bz)(hd:List Int):Nat->Nat->Option (List UInt8)
 |0,done=>if done=hd.length then some []else none
 |m+1,done=>ls.findSome? λx=>(wrC ls (if x.q=true then wr ls hd m done else none) (if done<hd.length/\cN x.s (hd.getD done 0)=true then wr ls hd m (done+1)else none)).map (x.c.toNat.toUInt8:: ·)
structure Xm (n:Int)(a:jX):Prop where
 name:fl a.name=true
 l1:1<=a.ls.length
 l6:a.ls.length<=6
 aaj: ∀x∈a.ls,97<=x.c/\x.c<=122/\0<=x.s/\x.s<2^n.toNat/\(x.s=0->x.q=true)
 nd:(a.ls.map (·.c)).Nodup
structure SpV (b:dv)(s:cQ):Prop where
 a0:0<=s.a
 ha: ∃a,b.al[s.a.toNat]? =some a/\ ∀c∈s.t,0<=cW a.ls c.toNat
 t1:1<=s.t.length
 t5:s.t.length<=5
structure Valid (b:dv):Prop where
 n1:1<=b.n
 n4:b.n<=4
 al1:1<=b.al.length
 al3:b.al.length<=3
 Vf:b.ss.length<=5
 YE: ∀a∈b.al,Xm b.n a
 names:(b.al.map (·.name)).Nodup
 sp: ∀s∈b.ss,SpV b s
theorem yQ {f:Nat->Int}: ∀{m k:Nat},(∀j,k<=j->j<k+m->f j=0)->(aA f m k).2=0
 |0,k,_=>rfl
 |m+1,k,h=>by
  simp only[aA]
  rw[if_pos (h k zz zz)]
  exact yQ (λj a b=>h j zz zz)
theorem eQ {f:Nat->Int}{m:Nat}:(aA f m 0).2=0↔ ∀j,j<m->f j=0:=
 ⟨λh j a=>oq h j zz zz,λh=>yQ (λj _ a=>h j zz)⟩
theorem cF {lo hi n:Int}:ah lo hi [n]=true↔ ¬(lo<=n/\n<=hi):=by grind [only,ah]
theorem oH {α β:Type}[DecidableEq β](f:α->β)(l:List α):(l.map f).Nodup↔ ∀(i:Nat) (x:α),l[i]? =some x-> ∀y∈l.take i,f y≠f x:=by
 constructor
 ·intro h i x hx y hy e;obtain⟨j,a⟩:=ap.1 hy;rw[List.getElem?_take]at a;split at a
  ·rename_i k;have c:(l.map f)[j]? =some (f x):=by rw[b0,a];simp [e]
   have d:(l.map f)[i]? =some (f x):=by rw[b0,hx];rfl
   obtain⟨a1,b⟩:=ad.1 c;obtain⟨m,b2⟩:=ad.1 d;have:=(List.getElem_inj h).1 (b.trans b2.symm);omega
  ·cases a
 ·intro h;rw[List.Nodup,List.pairwise_iff_getElem];intro i j hi a g e;simp only[b7]at hi a;simp only[List.getElem_map]at e;refine h j l[j] zj l[i] ?_ e;rw[ap];exact⟨i,zx⟩
theorem Cp (l:List bz)(c:Int):0<=cW l c↔ ∃x∈l,x.c=c:=by unfold cW;rw[wB _ _ _ zz,en];simp
theorem pE {n:Int}{ls:List bz}{i:Nat}{x:bz}(hx:ls[i]? =some x):eC n ls i=0↔(97<=x.c/\x.c<=122/\0<=x.s/\x.s<2^n.toNat/\(x.s=0->x.q=true))/\ ∀y∈ls.take i,y.c≠x.c:=by grind [only,eC,ah,cW,cF,Cp]
theorem tl {b:dv}{i:Nat}{a:jX}(ha:b.al[i]? =some a):eH b i=0↔Xm b.n a/\ ∀y∈b.al.take i,y.name≠a.name:=by
 simp only[eH,ha];by_cases e:fl a.name=true
 case neg=>rw[if_neg e];exact⟨λh=>by simp at h,λh=>absurd h.1.name e⟩
 rw[if_pos e];by_cases f:(b.al.take i).any (λx=>x.name==a.name)=true
 ·grind
 rw[if_neg f];simp only[en,beq_iff_eq,not_exists,not_and]at f;by_cases d:ah 1 6 [(a.ls.length:Int)]=true
 ·rw[if_pos d];rw[cF]at d;exact⟨λh=>by simp at h,λh=>absurd ⟨by have:=h.1.l1;omega,by have:=h.1.l6;omega⟩ d⟩
 rw[if_neg d];rw[cF]at d;rw[eQ];constructor
 ·intro h;refine⟨⟨e,zz,zz,?_,?_⟩,f⟩
  ·intro x hx;obtain⟨j,c⟩:=ap.1 hx;exact((pE c).1 (h j (ad.1 c).1)).1
  ·rw[oH];intro j x c;exact((pE c).1 (h j (ad.1 c).1)).2
 ·rintro⟨ok,_⟩ j c;have hx:a.ls[j]? =some a.ls[j]:=zj
  rw[pE hx];exact⟨ok.aaj _ (an hx),(oH _ _).1 ok.nd j _ hx⟩
theorem vX {b:dv}{i:Nat}{s:cQ}(hs:b.ss[i]? =some s):dR b i=0↔SpV b s:=by
 simp only[dR,hs];by_cases d:ah 0 ((b.al.length:Int)-1) [s.a]=true
 ·rw[if_pos d];rw[cF]at d;refine⟨λh=>by simp at h,λh=>absurd ⟨h.a0,?_⟩ d⟩;obtain⟨a,ha,_⟩:=h.ha;have:=(ad.1 ha).1;omega
 rw[if_neg d];rw[cF]at d;by_cases e:ah 1 5 [(s.t.length:Int)]=true
 ·rw[if_pos e];rw[cF]at e;exact⟨λh=>by simp at h,λh=>absurd ⟨by have:=h.t1;omega,by have:=h.t5;omega⟩ e⟩
 rw[if_neg e];rw[cF]at e;have j:s.a.toNat<b.al.length:=zz
 obtain⟨a,ha⟩:=aL j;simp only[ha];by_cases f:s.t.all (λc=>decide (0<=cW a.ls c.toNat))=true
 ·rw[if_pos f];simp only[ek,decide_eq_true_eq]at f;exact⟨λ_=>⟨zz,⟨a,ha,f⟩,zz,zz⟩,λ_=>rfl⟩
 ·rw[if_neg f];refine⟨λh=>by simp at h,λh=>absurd ?_ f⟩;obtain⟨k,g,h4⟩:=h.ha;rw[ha]at g;cases g;simp;exact h4
theorem qe {b:dv}:(check b).2.2=0↔Valid b:=by
 unfold check;by_cases e:ah 1 4 [b.n]=true
 ·rw[if_pos e];rw[cF]at e;exact⟨λh=>by simp at h,λh=>absurd ⟨h.n1,h.n4⟩ e⟩
 rw[if_neg e];rw[cF]at e;by_cases f:ah 1 3 [(b.al.length:Int)]=true
 ·rw[if_pos f];rw[cF]at f;exact⟨λh=>by simp at h,λh=>absurd ⟨by have:=h.al1;omega,by have:=h.al3;omega⟩ f⟩
 rw[if_neg f];rw[cF]at f
 have d:(aA (eH b) b.al.length 0).2=0↔(∀a∈b.al,Xm b.n a)/\(b.al.map (·.name)).Nodup:=by
  rw[eQ,oH];constructor
  ·intro h;constructor
   ·intro a ha;obtain⟨i,hi⟩:=ap.1 ha;exact((tl hi).1 (h i (ad.1 hi).1)).1
   ·intro i a hi;exact((tl hi).1 (h i (ad.1 hi).1)).2
  ·rintro⟨c,h4⟩ i hi;have ha:b.al[i]? =some b.al[i]:=zj
   exact(tl ha).2 ⟨c _ (an ha),h4 i _ ha⟩
 have j:(aA (dR b) b.ss.length 0).2=0↔ ∀s∈b.ss,SpV b s:=by
  rw[eQ];constructor
  ·intro h s hs;obtain⟨i,hi⟩:=ap.1 hs;exact(vX hi).1 (h i (ad.1 hi).1)
  ·intro h i hi;have ha:b.ss[i]? =some b.ss[i]:=zj
   exact(vX ha).2 (h _ (an ha))
 by_cases c:(aA (eH b) b.al.length 0).2=0
 ·rw[if_pos c];by_cases h4:5<b.ss.length
  ·rw[if_pos h4];exact⟨λh=>by simp at h,λh=>absurd h.Vf zz⟩
  rw[if_neg h4];by_cases g:(aA (dR b) b.ss.length 0).2=0
  ·rw[if_pos g];exact⟨λ_=>⟨zz,zz,zz,zz,zz,(d.1 c).1,(d.1 c).2,j.1 g⟩,λ_=>rfl⟩
  ·rw[if_neg g];exact⟨λh=>absurd h g,λh=>absurd (j.2 h.sp) g⟩
 ·rw[if_neg c];exact⟨λh=>absurd h c,λh=>absurd (d.2 ⟨h.YE,h.names⟩) c⟩
abbrev strs (l:List (List UInt8)):AV:=.sl 1 (l.map λs=>[bg s])
def J8:Nat->Nat->List Int
 |0,_=>[]
 |f+1,c=>if c=0 then[]else J8 f (c/5)++[((c%5:Nat):Int)-1]
def Ig (p:Nat->Bool):List Bool:=(bk 3125).map p
theorem Dg (p:Nat->Bool){c:Nat}(h:c<3125):(Ig p)[c]? =some (p c):=by simp [Ig,h]
def Pq (n:Nat)(x:bz)(p:Nat->Bool):Nat->Bool:=λc=>(p c&&x.q)||(decide (0<c)&&decide ((c-1)%5<n)&&cN x.s (((c-1)%5:Nat):Int)&&p ((c-1)/5))
def Km (n:Nat)(xs:List bz):Nat->Bool:=xs.foldl (λp x=>Pq n x p) (λc=>c==0)
theorem NM (n:Nat)(xs:List bz)(x:bz):Km n (xs++[x])=Pq n x (Km n xs):=by simp [Km,cc]
theorem Nl (s:Int)(k:Nat)(h:0<=s):Yw s k=cN s k:=by
 unfold Yw cN;have a:0<=s/2^((k:Nat):Int).toNat:=Int.ediv_nonneg h (Int.le_of_lt (eM zz));generalize s/2^((k:Nat):Int).toNat=q at a;obtain⟨m,rfl⟩:=cB a;have b:((m:Int)).toNat &&& (1:Int).toNat=m%2:=zx
 rw[b,de,decide_eq_true_iff,beq_iff_eq];omega
def XU (b:dv)(j:Int):Nat->Bool:=match b.ss[j.toNat]? with
 |some s=>Km b.n.toNat (je b s)
 |none=>λ_=>false
def shP (b:dv)(l:List Int):Nat->Bool:=λc=> !l.isEmpty&&l.all λj=>XU b j c
def H4 (h:List Int):Prop:= ∀v∈h,0<=v/\v<4
def ee (l:List Int):Nat:=l.foldl (λn v=>n*5+v.toNat+1) 0
theorem ve: ∀(l:List Int) (n:Nat),l.foldl (λn v=>n*5+v.toNat+1) n=n*5^l.length+ee l
 |[],n=>by simp [ee]
 |v::l,n=>by
  unfold ee
  simp only[b6,a8]
  rw[ve l (n*5+v.toNat+1),ve l (0*5+v.toNat+1),ea]
  generalize 5^l.length=q
  generalize ee l=r
  rw[Nat.zero_mul,Nat.zero_add,b4,b4,b4,Nat.mul_assoc,Nat.mul_comm 5 q]
  omega
theorem qn (v:Int)(l:List Int):ee (v::l)=(v.toNat+1)*5^l.length+ee l:=by grind [ee,ve]
theorem vf (l:List Int)(v:Int):ee (l++[v])=ee l*5+v.toNat+1:=by simp [ee,cc]
theorem sM: ∀{l:List Int},H4 l->ee l<5^l.length
 |[],_=>by simp [ee]
 |v::l,h=>by
  have b:=sM (l:=l) (λx hx=>h x (by simp [hx]))
  have a:=h v zj
  rw[qn,a8,ea]
  have:(v.toNat+1)*5^l.length<=4*5^l.length:=bA _ zz
  omega
theorem P6 (v:Int)(l:List Int):5^l.length<=ee (v::l):=by grind [qn]
theorem xa {h g:List Int}(hh:H4 h)(hl:h.length<g.length):ee h<ee g:=by
 cases g with
 |nil=>simp at hl
 |cons v g=>have a:=sM hh;have b:=P6 v g;have c:5^h.length<=5^g.length:=be zz zx;omega
theorem xB: ∀{h g:List Int},H4 h->H4 g->h.length=g.length->(ee h<ee g↔dM h g=true)
 |[],[],_,_,_=>by simp [ee,dM]
 |v::h,u::g,hh,hg,hl=>by
  have a:h.length=g.length:=by simpa using hl
  have d:=xB (h:=h) (g:=g) (λx hx=>hh x (by simp [hx])) (λx hx=>hg x (by simp [hx])) a
  have j:=hh v zj
  have i:=hg u zj
  have b:=sM (l:=h) (λx hx=>hh x (by simp [hx]))
  have b2:=sM (l:=g) (λx hx=>hg x (by simp [hx]))
  rw[qn,qn,dM,a]
  rw[a]at b
  generalize 5^g.length=q at b b2 ⊢
  by_cases e:v=u
  ·rw[if_pos e,<-d,e];omega
  ·rw[if_neg e,decide_eq_true_iff]
   constructor
   ·intro c
    apply cb
    intro f
    have:(u.toNat+1+1)*q<=(v.toNat+1)*q:=bA _ zz
    rw[b4,eP]at this
    omega
   ·intro c
    have:(v.toNat+1+1)*q<=(u.toNat+1)*q:=bA _ zz
    rw[b4,eP]at this
    omega
theorem Rh {h g:List Int}(a:h.length<=5)(hl:h.length=g.length):dM (pad h) (pad g)=dM h g:=by
 match h,g,hl,a with
 |[],[],_,_=>rfl
 |[_],[_],_,_=>simp [pad,dM]
 |[_,_],[_,_],_,_=>simp [pad,dM]
 |[_,_,_],[_,_,_],_,_=>simp [pad,dM]
 |[_,_,_,_],[_,_,_,_],_,_=>simp [pad,dM]
 |[_,_,_,_,_],[_,_,_,_,_],_,_=>rfl
theorem H4.ok {h:List Int}(hh:H4 h)(a:h.length<=5):rG h:=⟨a,λv b=>by have:=hh v b;omega⟩
theorem yX {h g:List Int}(hh:H4 h)(hg:H4 g)(a:h.length<=5)(b:g.length<=5):cy h g=true↔ee h<ee g:=by
 rw[iT (hh.ok a) (hg.ok b)];rcases Nat.lt_trichotomy h.length g.length with hl|hl|hl
 ·have:=xa (g:=g) hh hl;simp [hl,this]
 ·rw[xB hh hg hl,Rh a hl];simp [hl]
 ·have:=xa (g:=h) hg hl;constructor
  ·grind
  ·grind
theorem yT: ∀(f:Nat) (l:List Int),H4 l->l.length<=f->J8 f (ee l)=l:=by
 intro f;induction f with
 |zero=>intro l _ hl;have:l=[]:=cR.1 zz;subst this;rfl
 |succ f c=>
  intro l hh hl;rcases List.eq_nil_or_concat l with rfl|⟨m,v,rfl⟩
  ·rfl
  ·rw[List.concat_eq_append]at*
   have d:=hh v zj;have hm:=c m (λx hx=>hh x (by simp [hx])) (by simp at hl;omega);rw[vf];simp only[J8];rw[if_neg zz];have a:(ee m*5+v.toNat+1)/5=ee m:=zz
   have b:(ee m*5+v.toNat+1)%5=v.toNat+1:=zz
   rw[a,b,hm];congr 2;omega
theorem Ok {h g:List Int}(hh:H4 h)(hg:H4 g)(e:ee h=ee g):h=g:=by have a:=yT (h.length+g.length) h hh zz;have b:=yT (h.length+g.length) g hg zz;exact a.symm.trans zx
theorem qy {n:Nat}: ∀(xs:List bz) (x:bz) (h g:List Int),g∈dy n (xs++[x]) h↔ ∃f∈dy n xs h,(x.q=true/\g=f)\/ ∃k:Nat,k<n/\cN x.s k=true/\g=f++[(k:Int)]
 |[],x,h,g=>by
  simp only[List.nil_append,dy,a7,c7,bn,bs,az,exists_eq_left]
  constructor
  ·rintro (a|⟨k,⟨a,c⟩,b⟩)
   ·split at a
    ·rename_i d;exact .inl ⟨d,by simpa using a⟩
    ·cases a
   ·exact .inr ⟨k,a,c,b⟩
  ·rintro (⟨d,rfl⟩|⟨k,a,c,b⟩)
   ·left;rw[if_pos d];simp
   ·exact .inr ⟨k,⟨a,c⟩,b⟩
 |y::xs,x,h,g=>by
  have i:=λh=>qy (n:=n) xs x h g
  simp only[List.cons_append,dy,a7,c7,bn,bs]
  constructor
  ·rintro (a|⟨k,a,c⟩)
   ·split at a
    ·rename_i d
     obtain⟨f,e,c⟩:=(i h).1 a
     exact⟨f,.inl (by rw[if_pos d];exact e),c⟩
    ·cases a
   ·obtain⟨f,e,b⟩:=(i _).1 c
    exact⟨f,.inr ⟨k,a,e⟩,b⟩
  ·rintro⟨f,a|⟨k,a,e⟩,b⟩
   ·split at a
    ·rename_i d
     left;rw[if_pos d];exact(i h).2 ⟨f,a,b⟩
    ·cases a
   ·exact .inr ⟨k,a,(i _).2 ⟨f,e,b⟩⟩
theorem BK {n:Nat}(a:n<=4): ∀(xs:List bz) (h g:List Int),g∈dy n xs h->H4 h->H4 g
 |[],h,g,hg,hh=>by simp [dy]at hg;subst hg;exact hh
 |x::xs,h,g,hg,hh=>by
  simp only[dy,a7,c7]at hg
  rcases hg with hg|⟨k,hk,hg⟩
  ·split at hg
   ·exact BK a xs h g hg hh
   ·cases hg
  ·refine BK a xs _ g hg ?_
   intro v hv
   rcases a7.1 hv with hv|hv
   ·exact hh v hv
   ·simp only[az]at hv
    have:=bs.1 (bn.1 hk).1
    omega
theorem XI:H4 []:=by intro v a;cases a
theorem Tk {n:Nat}(p:n<=4)(xs:List bz)(c:Nat):Km n xs c=true↔ ∃h∈dy n xs [],ee h=c:=by
 have key: ∀(ys:List bz) (c:Nat),Km n ys.reverse c=true↔ ∃h∈dy n ys.reverse [],ee h=c:=by
  intro ys;induction ys with
  |nil=>intro c;simp only[List.reverse_nil,Km,dy,List.foldl_nil,az,exists_eq_left,beq_iff_eq,ee];exact eq_comm
  |cons y ys o=>
   intro c;rw[List.reverse_cons,NM];simp only[Pq,et,ej,decide_eq_true_eq,o];constructor
   ·rintro (⟨⟨h,hh,hc⟩,b⟩|⟨⟨⟨e,l⟩,m⟩,⟨h,hh,hc⟩⟩)
    ·exact⟨h,(qy _ _ _ _).2 ⟨h,hh,.inl ⟨b,rfl⟩⟩,hc⟩
    ·refine⟨h++[(((c-1)%5:Nat):Int)],(qy _ _ _ _).2 ⟨h,hh,.inr ⟨(c-1)%5,l,m,rfl⟩⟩,?_⟩;rw[vf,hc];simp;omega
   ·rintro⟨g,hg,hc⟩;obtain⟨f,i,e⟩:=(qy _ _ _ _).1 hg;rcases e with⟨b,rfl⟩|⟨k,hk,a,rfl⟩
    ·exact .inl ⟨⟨_,i,hc⟩,b⟩
    ·rw[vf,bx]at hc;have j:(c-1)/5=ee f:=zz
     have d:(c-1)%5=k:=zz
     refine .inr ⟨⟨⟨zz,by rw[d];exact hk⟩,by rw[d];exact a⟩,⟨f,i,j.symm⟩⟩
 have:=key xs.reverse c;rwa [List.reverse_reverse]at this
def Jg (es:Kn):Prop:=(es.map (·.1)).Nodup
theorem BZ {es:Kn}{h:List Int}:fS es h=none↔h ∉ es.map (·.1):=by
 induction es with
 |nil=>simp [fS]
 |cons e es b=>
  obtain⟨g,u⟩:=e;simp only[fS,dl,a6,not_or];by_cases hg:g=h
  ·simp [hg]
  ·rw[if_neg hg];simp only[Option.map_eq_none_iff,b];exact⟨λa=>⟨λe=>hg e.symm,a⟩,λa=>a.2⟩
theorem mG {es:Kn}(a:Jg es){h:List Int}{u:Nat}(hm:(h,u)∈es):jW es h=u:=by
 unfold jW;induction es with
 |nil=>cases hm
 |cons e es b=>
  obtain⟨g,v⟩:=e;simp only[Jg,dl,List.nodup_cons]at a;simp only[fS];by_cases hg:g=h
  ·grind
  ·rw[if_neg hg];rcases a6.1 hm with hm|hm
   ·cases hm;exact absurd rfl hg
   ·have:=b a.2 hm;cases hk:fS es h with
    |none=>rw[hk]at this;exact this
    |some p=>rw[hk]at this;exact this
theorem pO {es:Kn}{h:List Int}(hm:h ∉ es.map (·.1)):jW es h=0:=by unfold jW;rw[BZ.2 hm]
theorem D7 {es:Kn}{h:List Int}{a:Nat}:(nC es h a).map (·.1)=if h∈es.map (·.1)then es.map (·.1)else es.map (·.1)++[h]:=by
 unfold nC;have hs:=iY es h;cases b:fS es h with
 |none=>grind
 |some p=>
  obtain⟨j,u⟩:=p;rw[b]at hs;have hm:h∈es.map (·.1):=bt.2 ⟨_,an hs,rfl⟩;rw[if_pos hm,List.map_set];apply List.ext_getElem?;intro i;rw[cr];by_cases e:j=i
  ·grind
  ·rw[if_neg e]
theorem Ew {es:Kn}(b:Jg es)(h:List Int)(a:Nat):Jg (nC es h a):=by grind [Jg,only,D7]
theorem NZ {es:Kn}(k:Jg es)(h g:List Int)(bit:Nat):jW (nC es h bit) g=if g=h then jW es h ||| bit else jW es g:=by
 have hs:=iY es h;have f:=Ew k h bit;have a:nC es h bit=match fS es h with|none=>es++[(h,bit)]|some (j,u)=>es.set j (h,u ||| bit):=rfl
 cases l:fS es h with
 |none=>
  have hm:=BZ.1 l;rw[l]at a;simp only at a;by_cases hg:g=h
  ·subst hg;rw[if_pos rfl,pO hm,Nat.zero_or];exact mG f (by rw[a];simp)
  ·rw[if_neg hg];by_cases c:g∈es.map (·.1)
   ·obtain⟨⟨n,u⟩,b,rfl⟩:=bt.1 c;rw[mG k b];exact mG f (by rw[a];simp [b])
   ·rw[pO c,pO];rw[a];simp only[List.map_append,dl,List.map_nil,a7,az,not_or];exact⟨c,hg⟩
 |some p=>
  obtain⟨j,u⟩:=p;rw[l]at hs a;simp only at hs a;have b:=an hs;have m:=(ad.1 hs).1;by_cases hg:g=h
  ·subst hg;rw[if_pos rfl,mG k b];refine mG f ?_;rw[a];exact ap.2 ⟨j,by rw[cr,if_pos rfl,if_pos m]⟩
  ·rw[if_neg hg];by_cases c:g∈es.map (·.1)
   ·obtain⟨⟨n,v⟩,d,rfl⟩:=bt.1 c;rw[mG k d];refine mG f ?_;rw[a];obtain⟨i,hi⟩:=ap.1 d;refine ap.2 ⟨i,?_⟩;rw[cr,if_neg (λe=>by subst e;rw[hs]at hi;cases hi;exact hg rfl),hi]
   ·rw[pO c,pO];rw[D7];have:h∈es.map (·.1):=bt.2 ⟨_,b,rfl⟩;rw[if_pos this];exact c
theorem A4 (a:Nat): ∀(l:List (List Int)) (es:Kn),Jg es->Jg (l.foldl (λes h=>nC es h a) es)
 |[],_,b=>b
 |h::l,c,b=>A4 a l _ (Ew b h a)
theorem Ay (bit:Nat): ∀(l:List (List Int)) (es:Kn) (g:List Int),Jg es->jW (l.foldl (λes h=>nC es h bit) es) g=if g∈l then jW es g ||| bit else jW es g
 |[],es,g,_=>zj
 |h::l,es,g,a=>by
  simp
  rw[Ay bit l _ g (Ew a h bit),NZ a]
  by_cases hg:g=h
  ·subst hg
   simp only[if_true,true_or]
   split
   ·rw[Nat.or_assoc,Nat.or_self]
   ·rfl
  ·simp [hg]
theorem DP {n:Nat}: ∀(a:List (List bz)) (i:Nat) (es:Kn),Jg es->Jg (jq n a i es)
 |[],_,_,b=>b
 |_xs::a,i,c,b=>DP a (i+1) _ (A4 _ _ _ b)
theorem rV (u i k:Nat):(u ||| 2^i).testBit k=(u.testBit k||decide (i=k)):=by rw[Nat.testBit_or,Nat.testBit_two_pow]
theorem AE {n:Nat}: ∀(a:List (List bz)) (i:Nat) (es:Kn) (g:List Int) (k:Nat),Jg es->
  ((jW (jq n a i es) g).testBit k=true↔(jW es g).testBit k=true\/ ∃xs,i<=k/\a[k-i]? =some xs/\g∈dy n xs [])
 |[],i,es,g,k,_=>by simp [jq]
 |xs::a,i,es,g,k,f=>by
  simp only[jq]
  rw[AE a (i+1) _ g k (A4 _ _ _ f),Ay _ _ _ _ f]
  have c:((if g∈dy n xs []then jW es g ||| 2^i else jW es g).testBit k=true)↔((jW es g).testBit k=true\/(i=k/\g∈dy n xs [])):=by
   split
   ·rename_i hm
    rw[rV];simp [hm]
   ·rename_i hm;simp [hm]
  rw[c]
  constructor
  ·rintro ((h|⟨rfl,h⟩)|⟨ys,j,b,d⟩)
   ·exact .inl h
   ·exact .inr ⟨xs,cA _,zj,h⟩
   ·refine .inr ⟨ys,zz,?_,d⟩
    rw[show k-i=(k-(i+1))+1 from zz];simpa using b
  ·rintro (h|⟨ys,j,b,d⟩)
   ·exact .inl (.inl h)
   ·by_cases e:i=k
    ·subst e
     simp only[Nat.sub_self,cD,ec]at b
     subst b
     exact .inl (.inr ⟨rfl,d⟩)
    ·refine .inr ⟨ys,zz,?_,d⟩
     rw[show k-i=(k-(i+1))+1 from zz]at b;simpa using b
def kI (b:dv)(j:Nat):List (List Int):=match b.ss[j]? with
 |some s=>dy b.n.toNat (je b s) []
 |none=>[]
theorem Cu (b:dv)(g:List Int)(k:Nat):(jW (cS b) g).testBit k=true↔g∈kI b k:=by
 unfold cS;rw[AE _ 0 [] g k (by simp [Jg])];have a:jW ([]:Kn) g=0:=rfl;rw[a];simp only[Nat.zero_testBit,bi,false_or,Nat.zero_le,true_and,Nat.sub_zero,tk,b0,c8,kI];cases b.ss[k]? with
 |none=>simp
 |some s=>simp
theorem PW (b:dv):Jg (cS b):=DP _ 0 [] (by simp [Jg])
theorem Dx {b:dv}{e:List Int×Nat}(he:e∈cS b): ∀k,e.2.testBit k=true↔e.1∈kI b k:=by intro k;rw[<-Cu,mG (PW b) (h:=e.1) (u:=e.2) he]
theorem NA {b:dv}{g:List Int}{k:Nat}(h:g∈kI b k): ∃u,(g,u)∈cS b:=by
 rw[<-Cu]at h;apply eu;intro a;have:g ∉ (cS b).map (·.1):=λhm=>zx
 rw[pO this]at h;simp at h
def jZ (es:Kn)(set:Int):List (List Int):=(es.filter λe=>ur set e.2).map (·.1)
def stepG (p:List Int×Nat)(h:List Int):List Int×Nat:=(if p.2=0\/cy h p.1=true then h else p.1,p.2+1)
theorem MM (set:Int): ∀(es:Kn) (p:List Int×Nat),es.foldl (kZ set) p=(jZ es set).foldl stepG p
 |[],p=>rfl
 |e::es,p=>by
  simp
  have a:kZ set p e=if ur set e.2=true then(if p.2=0\/cy e.1 p.1=true then e.1 else p.1,p.2+1)else p:=rfl
  rw[MM set es,a]
  unfold jZ
  by_cases h:ur set e.2=true
  ·rw[if_pos h,List.filter_cons_of_pos (by simpa using h)];rfl
  ·rw[if_neg h,List.filter_cons_of_neg (by simpa using h)]
theorem AM: ∀(K:List (List Int)) (b:List Int) (m:Nat),m≠0->(∀h∈b::K,rG h)->
  (K.foldl stepG (b,m)).2=m+K.length/\(K.foldl stepG (b,m)).1∈b::K/\ ∀h∈b::K,cy h (K.foldl stepG (b,m)).1=false
 |[],b,m,hm,hk=>by
  refine⟨rfl,zj,?_⟩
  intro h hh
  simp only[az]at hh
  subst hh
  cases c:cy h h with
  |false=>exact c
  |true=>rw[iT (hk h zj) (hk h zj),uW]at c;simp at c
 |h::K,b,m,hm,hk=>by
  simp only[b6]
  have f:stepG (b,m) h=(if cy h b=true then h else b,m+1):=by simp [stepG,hm]
  rw[f]
  have hh:=hk h zj
  have c:=hk b zj
  obtain⟨j,g,a⟩:=AM K (if cy h b=true then h else b) (m+1) zz (by
   intro x hx
   rcases a6.1 hx with rfl|hx
   ·split;exact hh;exact c
   ·exact hk x (by simp [hx]))
  generalize K.foldl stepG (if cy h b=true then h else b,m+1)=r at j g a
  have i:rG r.1:=by
   rcases a6.1 g with h2|h2
   ·rw[h2];split;exact hh;exact c
   ·exact hk _ (by simp [h2])
  refine⟨by rw[j];simp;omega,?_,?_⟩
  ·rcases a6.1 g with h2|h2
   ·rw[h2];split<;>simp
   ·simp [h2]
  ·intro x hx
   simp only[a6]at hx
   by_cases hc:cy h b=true
   ·rw[if_pos hc]at a
    rcases hx with rfl|rfl|hx
    ·cases d:cy x r.1 with
     |false=>rfl
     |true=>
      have:=mw hh c i hc d
      rw[a h zj]at this;cases this
    ·exact a _ zj
    ·exact a _ (by simp [hx])
   ·rw[if_neg hc]at a
    rcases hx with rfl|rfl|hx
    ·exact a _ zj
    ·cases d:cy x r.1 with
     |false=>rfl
     |true=>
      by_cases e:x=b
      ·subst e;rw[a x zj]at d;cases d
      ·have h2:=uJ hh c e (by simpa using hc)
       have:=mw c hh i h2 d
       rw[a b zj]at this;cases this
    ·exact a _ (by simp [hx])
theorem sZ {es:Kn}(hk:vB es)(set:Int):(fg es set).2=(jZ es set).length/\(jZ es set=[]->(fg es set).1=[])/\
  (jZ es set≠[]->(fg es set).1∈jZ es set/\ ∀h∈jZ es set,cy h (fg es set).1=false):=by
 unfold fg
 rw[MM]
 have a: ∀h∈jZ es set,rG h:=by
  intro h hh
  obtain⟨e,he,rfl⟩:=bt.1 hh
  exact(hk e (bn.1 he).1).1
 cases hK:jZ es set with
 |nil=>grind
 |cons h K=>
  rw[hK]at a
  simp only[b6]
  have b:stepG ([],0) h=(h,1):=by simp [stepG]
  rw[b]
  obtain⟨f,c,d⟩:=AM K h 1 zz a
  refine⟨?_,?_,λ_=>⟨c,d⟩⟩
  ·grind
  ·grind
theorem LC {α:Type}(p:α->Bool): ∀{l:List α} {k:Int} {i:Nat} {x:α},l[i]? =some x->p x=true->(∀j y,j<i->l[j]? =some y->p y=false)->bD p l k=k+i
 |[],_,_,_,h,_,_=>by simp at h
 |y::l,k,0,x,h,a,_=>by
  simp only[cD,ec]at h
  subst h
  simp [bD,a]
 |y::l,k,i+1,x,h,a,hm=>by
  have b:=hm 0 y zz zj
  simp only[bD,b,bi,if_false]
  rw[LC p (l:=l) (k:=k+1) (i:=i) (x:=x) (by simpa using h) a (λj z d c=>hm (j+1) z zz (by simpa using c))]
  omega
theorem yb {α:Type}(p:α->Bool): ∀{l:List α} {k:Int},(∀y∈l,p y=false)->bD p l k= -1
 |[],_,_=>rfl
 |y::l,k,h=>by
  simp only[bD,h y zj,bi,if_false]
  exact yb p (λz a=>h z (by simp [a]))
theorem Gs {p:Nat->Bool}{K:List (List Int)}(h4: ∀h∈K,H4 h/\h.length<=5)(k: ∀c,c<3125->(p c=true↔ ∃h∈K,ee h=c)){a:List Int}(n:K≠[]->a∈K/\ ∀h∈K,cy h a=false):
  bD id (Ig p) 0=if K=[]then -1 else(ee a:Int):=by
 by_cases hK:K=[]
 ·rw[if_pos hK]
  refine yb _ ?_
  intro y hy
  obtain⟨c,hc,rfl⟩:=bt.1 hy
  cases o:p c with
  |false=>rfl
  |true=>grind
 ·rw[if_neg hK]
  obtain⟨g,m⟩:=n hK
  obtain⟨f,b5⟩:=h4 a g
  have b:ee a<3125:=by
   have g1:=sM f
   have g2:5^a.length<=5^5:=be zz b5
   omega
  rw[LC id (i:=ee a) (x:=true) ?_ rfl ?_,Int.zero_add]
  ·rw[Dg p b,(k _ b).2 ⟨a,g,rfl⟩]
  ·intro j y q hy
   rw[Dg p zz]at hy
   cases hy
   cases d:p j with
   |false=>rfl
   |true=>
    obtain⟨h,hh,e⟩:=(k j zz).1 d
    obtain⟨c4,l⟩:=h4 h hh
    have:=(yX c4 f l b5).2 zz
    rw[m h hh]at this;cases this
theorem sE {b:dv}(V:Valid b){k:Nat}{h:List Int}(hh:h∈kI b k):H4 h/\h.length<=5:=by
 unfold kI at hh;cases hs:b.ss[k]? with
 |none=>grind
 |some s=>
  rw[hs]at hh;simp only at hh;have n1:=V.n1;have n4:=V.n4;have sp:=V.sp s (an hs);obtain⟨a,ha,_⟩:=sp.ha;have hl:(je b s).length=s.t.length:=by simp only[je,ha,b7]
  have c:=pV _ _ _ _ hh;have d:=sp.t5;exact⟨BK zz _ _ _ hh XI,zx⟩
theorem Br {b:dv}(V:Valid b)(j:Int)(c:Nat):XU b j c=true↔ ∃h∈kI b j.toNat,ee h=c:=by
 unfold XU kI;have n1:=V.n1;have n4:=V.n4;cases b.ss[j.toNat]? with
 |none=>simp
 |some s=>exact Tk zz _ _
theorem wN: ∀(l:List Int) (s k:Nat),(ns l s).testBit k=true↔s.testBit k=true\/ ∃j∈l,j.toNat=k
 |[],s,k=>by simp [ns]
 |n::l,s,k=>by
  simp only[ns]
  rw[wN l _ k,rV]
  simp
  exact or_assoc
theorem Gm (s u:Nat):ur (s:Int) u=true↔ ∀k,s.testBit k=true->u.testBit k=true:=by
 unfold ur;rw[beq_iff_eq,bx,Int.natCast_inj];constructor
 ·grind
 ·intro h;apply Nat.eq_of_testBit_eq;intro k;rw[Nat.testBit_and];cases hs:s.testBit k with
  |false=>simp
  |true=>grind
theorem nX {b:dv}{l:List Int}(hl:l≠[])(h:List Int):h∈jZ (cS b) (ns l 0:Nat)↔ ∀j∈l,h∈kI b j.toNat:=by
 unfold jZ;rw[bt];constructor
 ·rintro⟨e,he,rfl⟩ j c;obtain⟨i,f⟩:=bn.1 he;rw[Gm]at f;exact(Dx i _).1 (f _ ((wN l 0 _).2 (.inr ⟨j,c,rfl⟩)))
 ·intro a;obtain⟨m,d⟩:=bm l hl;obtain⟨u,g⟩:=NA (a m d);refine⟨(h,u),bn.2 ⟨g,?_⟩,rfl⟩;rw[Gm];intro k hk;rcases (wN l 0 k).1 hk with hk|⟨j,c,rfl⟩
  ·simp at hk
  ·exact(Dx g _).2 (a j c)
section
variable {b:dv} (V:Valid b) {l:List Int} (hl:l≠[])
include V hl
theorem U8: ∀h∈jZ (cS b) (ns l 0:Nat),H4 h/\h.length<=5:=by intro h hh;obtain⟨c,a⟩:=bm l hl;exact sE V ((nX hl h).1 hh c a)
theorem SZ (c:Nat):shP b l c=true↔ ∃h∈jZ (cS b) (ns l 0:Nat),ee h=c:=by
 have e:l.isEmpty=false:=zx
 simp only[shP,e,Bool.not_false,ew,ek];constructor
 ·intro a;obtain⟨k,i⟩:=bm l hl;obtain⟨h,hh,hc⟩:=(Br V k c).1 (a k i);refine⟨h,(nX hl h).2 (λj f=>?_),hc⟩;obtain⟨g,hg,d⟩:=(Br V j c).1 (a j f);have:=Ok (sE V hh).1 (sE V hg).1 (hc.trans d.symm);rw[this];exact hg
 ·rintro⟨h,hh,hc⟩ j f;exact(Br V j c).2 ⟨h,(nX hl h).1 hh j f,hc⟩
theorem Fl (hk:vB (cS b)):bD id (Ig (shP b l)) 0=if (fg (cS b) (ns l 0:Nat)).2=0 then -1 else(ee (fg (cS b) (ns l 0:Nat)).1:Int):=by obtain⟨a,e,d⟩:=sZ hk (ns l 0:Nat);rw[Gs (U8 V hl) (λc _=>SZ V hl c) d,a];simp
end
theorem So (k:Nat):((2^k:Nat):Int)=(2:Int)^k:=zj
theorem lM (s:Int)(k:Nat)(h:0<=s):cN s k=s.toNat.testBit k:=by rw[<-Nl s k h,Nat.testBit_eq_decide_div_mod_eq];unfold Yw;rw[bx];obtain⟨m,rfl⟩:=cB h;rw[bx,<-So,<-Int.natCast_ediv,de,decide_eq_true_iff,decide_eq_true_iff];omega
theorem uX {s:Int}{n:Nat}(f:0<s)(g:s<2^n): ∃k:Nat,k<n/\cN s k=true:=by
 have a:s.toNat≠0:=zz
 obtain⟨k,hk⟩:=Nat.exists_testBit_of_ne_zero a;refine⟨k,?_,by rw[lM s k zz];exact hk⟩;apply cb;intro c
 have b:s.toNat<2^k:=by
  have d:s.toNat<2^n:=zx
  have e:2^n<=2^k:=be zz zz;omega
 rw[Nat.testBit_lt_two_pow b]at hk;cases hk
theorem Am {n:Nat}: ∀(xs:List bz) (h:List Int),(∀x∈xs,x.q=true\/ ∃k:Nat,k<n/\cN x.s k=true)->dy n xs h≠[]
 |[],h,_=>by simp [dy]
 |x::xs,h,hx=>by
  intro e
  simp only[dy,List.append_eq_nil_iff,List.flatMap_eq_nil_iff,bn,bs]at e
  rcases hx x zj with a|⟨k,hk,hg⟩
  ·rw[if_pos a]at e
   exact Am xs h (λy hy=>hx y (by simp [hy])) e.1
  ·exact Am xs _ (λy hy=>hx y (by simp [hy])) (e.2 k ⟨hk,hg⟩)
theorem Oz {ls:List bz}{c:Int}(h:0<=cW ls c):uR ls c∈ls/\ls[(cW ls c).toNat]? =some (uR ls c):=by
 obtain⟨_,x,hx,_⟩:=qt _ ls 0 zz h;rw[Int.sub_zero]at hx;have hx:ls[(cW ls c).toNat]? =some x:=hx;have e:uR ls c=x:=by unfold uR;rw[hx];rfl
 rw[e];exact⟨an hx,hx⟩
theorem Qm {b:dv}(V:Valid b){k:Nat}(hk:k<b.ss.length):kI b k≠[]:=by
 obtain⟨s,hs⟩:=aL hk;have sp:=V.sp s (an hs);obtain⟨a,ha,hc⟩:=sp.ha;have ok:=V.YE a (an ha);unfold kI;rw[hs];refine Am _ _ ?_;intro x hx;simp only[je,ha]at hx;obtain⟨c,d,rfl⟩:=bt.1 hx;obtain⟨_,_,f,e,g⟩:=ok.aaj _ (Oz (hc c d)).1;by_cases h:(uR a.ls c.toNat).s=0
 ·grind
 ·exact .inr (uX zz e)
theorem Vp {l:List Int}:ns l 0≠0↔l≠[]:=by
 cases l with
 |nil=>simp [ns]
 |cons n l=>simp;intro h;have:(ns (n::l) 0).testBit n.toNat=true:=(wN _ _ _).2 (.inr ⟨n,zj,rfl⟩);rw[h]at this;simp at this
abbrev pQ (c:List Nat):List Int:=c.map λ(n:Nat)=>(n:Int)
theorem RZ {s:Nat}{n:Nat}{p:Nat->Bool}(h: ∀k,k<n->s.testBit k=p k):cM (s:Int) n=pQ ((bk n).filter p):=by unfold cM;show eT _ _=eT _ _;congr 1;apply List.filter_congr;intro k hk;rw[lM _ _ zz,bx];exact h k (bs.1 hk)
theorem RG (c:List Nat):(pQ c).length=c.length:=b7 _
section
variable {b:dv} (V:Valid b) (hk:vB (cS b)) (hn:1<=b.ss.length)
include V hk hn
end
theorem lR (c s:Int)(q:Bool):Ev bI 76 [U c,I s,B q] (.agg [U c,I s,B q]):=by refine ak S76.ok<|bc [.aI] rfl ⟨rfl,trivial⟩<|FD rfl ⟨⟨rfl,rfl,rfl,zq⟩,trivial⟩<|ae (aq (t:=6) rfl) (ab (fh (.inr rfl) (.one (.mz (n:=some 3) (bw _ _ _) zw rfl))))
def Ac:dv:=
 {n:=3
  al:=[⟨[114,111,109,97,110],[⟨97,1,false⟩,⟨101,3,false⟩,⟨107,4,false⟩,⟨104,0,true⟩]⟩,⟨[97,98,106,97,100],[⟨107,4,false⟩,⟨121,2,true⟩,⟨110,1,false⟩]⟩]
  ss:=[⟨0,[107,101]⟩,⟨1,[107,121]⟩,⟨0,[104,107,97]⟩,⟨1,[107,110]⟩]}
theorem UE:Ev bI 35 [] (.agg Ac.enc):=by refine ak S35.ok<|bc [.aI] rfl ⟨rfl,trivial⟩<|bc [.ret (.agg [U 97,I 1,B false]),.ret (.agg [U 101,I 3,B false]),.ret (.agg [U 107,I 4,B false]),.ret (.agg [U 104,I 0,B true]),.bW,.aI] rfl ⟨lR 97 1 false,lR 101 3 false,lR 107 4 false,lR 104 0 true,rfl,rfl,⟨rfl,rfl,rfl,zq⟩,trivial⟩<|ae (aq (t:=1) rfl)<|bc [.ret (.agg [U 107,I 4,B false]),.ret (.agg [U 121,I 2,B true]),.ret (.agg [U 110,I 1,B false]),.bW,.aI] rfl ⟨lR 107 4 false,lR 121 2 true,lR 110 1 false,rfl,rfl,⟨rfl,rfl,rfl,zq⟩,trivial⟩<|ae (aq (t:=2) rfl)<|bc [.bW,.bW] rfl ⟨rfl,rfl,⟨rfl,rfl,rfl,zq⟩,trivial⟩<|ae (aq (t:=0) rfl) (ab (fh (.inr rfl) (.one (.mz (n:=some 3) (bw _ _ _) zw rfl))))
theorem R3:Ac.wf:=by
 refine⟨zq,zq,?_,?_⟩
 ·intro a ha;simp only[Ac,a6,b3,or_false]at ha;rcases ha with rfl|rfl
  ·refine⟨zq,?_⟩;intro x hx;simp only[a6,b3,or_false]at hx;rcases hx with rfl|rfl|rfl|rfl<;>exact⟨zq,zq,zq,zq⟩
  ·refine⟨zq,?_⟩;intro x hx;simp only[a6,b3,or_false]at hx;rcases hx with rfl|rfl|rfl<;>exact⟨zq,zq,zq,zq⟩
 ·intro s hs;simp only[Ac,a6,b3,or_false]at hs;rcases hs with rfl|rfl|rfl|rfl<;>exact⟨zq,zq,zq⟩
theorem Gc (a:List Int):pF a a=true:=B0.2 rfl
theorem xt (a:List Int):Ev bI 32 [ints a,ints a] (B true):=by have:=V0 a a;rw[Gc]at this;exact this
theorem ub:bI.underlying 4=some .bool:=zw
theorem IW {h g:List Int}(hh:H4 h)(hg:H4 g):Ey h g=true↔ee h<ee g:=by
 unfold Ey;by_cases hl:h.length=g.length
 ·rw[if_pos hl];exact(xB hh hg hl).symm
 ·rw[if_neg hl,decide_eq_true_iff];rcases Nat.lt_or_gt_of_ne hl with h1|h1
  ·exact⟨λ_=>xa hh h1,λ_=>h1⟩
  ·have:=xa hg h1;exact⟨λ_=>zz,λ_=>zz⟩
theorem EX {h g:List Int}(hh:H4 h/\h.length<=5)(hg:H4 g/\g.length<=5):Ey h g=cy h g:=by rw[de,IW hh.1 hg.1,yX hh.1 hg.1 hh.2 hg.2]
theorem JU {m:Int}{l:List Int}(h: ∀i∈l,0<=i/\i<m):ah 0 (m-1) l=false:=by unfold ah;rw[ds];intro x hx;have:=h x hx;simp;omega
theorem Jz {b:dv}(V:Valid b){m:Int}{l:List Int}(h: ∀i∈l,0<=i/\i<m):gv b m l=0:=by unfold gv;rw[if_pos (qe.2 V),JU h];rfl
section
variable {b:dv} (V:Valid b) (hw:b.wf)
include V hw
theorem G0:vB (cS b):=(Bw hw (qe.2 V)).1
theorem NO {l:List Int}(hl:l≠[])(ha:zB l (-1)=true)(n: ∀j∈l,j<b.ss.length):
  (∃g,(∀j∈l,g∈kI b j.toNat)/\(∀h,(∀j∈l,h∈kI b j.toNat)->Ey h g=false)/\gd b l=(g,0))\/((¬ ∃h,∀j∈l,h∈kI b j.toNat)/\gd b l=([],9)):=by
 have hk:=G0 V hw
 have i: ∀j∈l,0<=j/\j<b.ss.length:=by
  have key: ∀(l:List Int) (k:Int),zB l k=true-> ∀j∈l,k<j:=by
   intro l
   induction l with
   |nil=>intro k _ j hj;cases hj
   |cons x l o=>
    intro k h j hj
    simp only[zB,ej,decide_eq_true_eq]at h
    rcases a6.1 hj with rfl|hj
    ·exact h.1
    ·have:=o x h.2 j hj
     omega
  intro j hj
  have:=key l (-1) ha j hj
  exact⟨zz,n j hj⟩
 have hK:=λh=>nX (b:=b) hl h
 obtain⟨c1,p,f⟩:=sZ hk (ns l 0:Nat)
 unfold gd
 rw[if_pos (Jz V i),if_pos ⟨ha,Vp.2 hl⟩,c1]
 by_cases hx:(jZ (cS b) (ns l 0:Nat)).length=0
 ·right
  rw[if_pos hx]
  refine⟨?_,rfl⟩
  rintro⟨h,hh⟩
  have:=(hK h).2 hh
  rw[cR.1 hx]at this
  cases this
 ·left
  rw[if_neg hx]
  obtain⟨h4,m⟩:=f (λe=>hx (by rw[e];rfl))
  have c:=(hK _).1 h4
  refine⟨_,c,λh hh=>?_,rfl⟩
  obtain⟨d,a⟩:=bm l hl
  rw[EX (sE V (hh d a)) (sE V (c d a))]
  exact m h ((hK h).2 hh)
end
end Go.Px
