/- Part 23 of the proof of a statement of this seat (a logic of pure contracts; the functions; their contracts). No conditions. -/
import Derived.Test.YtjjmmbcmdheooaaGreatDoorA18
import Derived.Test.YtjjmmbcmdheooaaGreatDoorA20
import Derived.Test.YtjjmmbcmdheooaaGreatDoorA22
import Derived.Lib.AtoiAllCases
open And renaming intro->bs
open BitVec renaming ofNat->ap
open Bool renaming and_eq_true->b9,or_eq_true->cc,and_true->cr,or_eq_false_iff->cR,not_eq_true->dl,eq_iff_iff->ej
open Classical renaming not_not->eS
open Decidable renaming byContradiction->ey
open Go.Lib renaming itoa->dk,atoiAll->ec
open Go.Proofs.Tryz renaming prog->an
open Int renaming toNat_natCast->ad,natCast_nonneg->b0,ediv_le_self->dn,ediv_nonneg->ek,le_of_lt->eM,pow_pos->eP
open List renaming range->a7,mem_range->a8,all_eq_true->bi,getElem?_eq_none_iff->bk,mem_of_getElem?->bn,foldl_append->bt,getElem?_eq_some_iff->bx,length_map->bA,range_succ->bI,drop_eq_nil_of_le->b6,getElem?_map->b7,nil_sublist->cb,all_cons->cA,all_nil->cB,drop_length->ds,length_cons->ea,foldl_cons->en,length_nil->er,map_append->et,foldl_nil->eu,tail_drop->ew
open List.Perm renaming swap->c7
open Nat renaming pow_lt_pow_right->az,pow_le_pow_right->be,or_lt_two_pow->b8,two_pow_pos->cD,zero_le->c8,lt_of_lt_of_le->de
open Option.some renaming injEq->eT
open UInt8 renaming ofNat->b1
namespace Go.Px
open Go.Proofs
abbrev yJ (g:Nat):AV:=.fn (.func g) [] []
abbrev Dr:List AV:=[B true,B false,yJ 273,B true,B true,yJ 274,B true,B false,yJ 275,B false,B true,yJ 276]
theorem Ub:Ev an 205 [] (.agg Dr):=by refine ak aem.ok<|aa (av (ai (aF.alloc rfl (λb=>?_))));refine bh<|aa (av ?_);refine OF 2 rfl rfl ⟨⟨zq,zq⟩,trivial⟩<|ai (aZ (i:=0) rfl rfl rfl rfl rfl rfl zx ?_);refine bh<|aa (av ?_);refine OF 2 rfl rfl ⟨⟨zq,zq⟩,trivial⟩<|ai (aZ (i:=0) rfl rfl rfl rfl rfl rfl (by show 6<=12;decide) ?_);refine bh<|aa (av ?_);refine OF 2 rfl rfl ⟨⟨zq,zq⟩,trivial⟩<|ai (aZ (i:=0) rfl rfl rfl rfl rfl rfl (by show 9<=12;decide) ?_);refine bh<|aa (av ?_);refine OF 2 rfl rfl ⟨⟨zq,zq⟩,trivial⟩<|ai (aZ (i:=0) rfl rfl rfl rfl rfl rfl (by show 12<=12;decide) ?_);refine bh<|aa (av ?_);refine aG (aj (ar (H':=[(b,.cells 302 Dr)]) rfl) (ao (l:=[(0,.po b 0)]) ⟨rfl,trivial⟩))<|lz [.at 0] 1 rfl rfl ⟨rfl,trivial⟩<|ai (aZ (i:=0) rfl rfl rfl rfl rfl rfl (by show 12<=12;decide) ?_);refine bh<|ab (fh (.inr rfl) (.one ?_));exact .dw (i:=0) (n:=some 12) rfl rfl zw rfl
theorem Kg {F S:List Wd}{a b:Nat}(ha:a<=F.length)(f:b<=S.length):(fI (F.drop a) (S.drop b)=4/\a=F.length/\b=S.length)\/
  (fI (F.drop a) (S.drop b)<=3/\0<=(bV F S (fI (F.drop a) (S.drop b)) a b).2.2/\ ¬(a=F.length/\b=S.length)):=by
 by_cases h:a=F.length/\b=S.length
 ·left
  rw[h.1,h.2,ds,ds]
  exact⟨rfl,rfl,rfl⟩
 ·right
  cases c:F[a]? with
  |none=>
   have hd:F.drop a=[]:=b6 (bk.1 c)
   obtain⟨s,d⟩:=aL (l:=S) (k:=b) (by have:=bk.1 c;omega)
   have hk:fI (F.drop a) (S.drop b)=3:=by rw[hd,drop_cons d];rfl
   rw[hk]
   exact⟨zq,by simp [bV,d],h⟩
  |some w=>
   cases d:S[b]? with
   |none=>
    have hd:S.drop b=[]:=b6 (bk.1 d)
    have hk:fI (F.drop a) (S.drop b)=2:=by rw[hd,drop_cons c];rfl
    rw[hk]
    exact⟨zq,by simp [bV,c],h⟩
   |some s=>
    rw[drop_cons c,drop_cons d]
    simp only[fI]
    by_cases e:pB s w=true
    ·rw[if_pos e]
     split
     ·exact⟨zq,by simp [bV,c,d,e],h⟩
     ·split
      ·exact⟨zq,by simp [bV,c],h⟩
      ·exact⟨zq,by simp [bV,d],h⟩
    ·rw[if_neg e]
     split
     ·exact⟨zq,by simp [bV,c,d,e],h⟩
     ·split
      ·exact⟨zq,by simp [bV,c],h⟩
      ·exact⟨zq,by simp [bV,d],h⟩
def yu (S:List Wd)(k b:Nat):Mark:=⟨k,if k=1\/k=3 then(S[b]?).getD []else[]⟩
theorem HT {F S:List Wd}{a b f:Nat}(hk:fI (F.drop a) (S.drop b)<=3)(l:0<=(bV F S (fI (F.drop a) (S.drop b)) a b).2.2):
  lW (f+1) (F.drop a) (S.drop b)=yu S (fI (F.drop a) (S.drop b)) b::lW f (F.drop (bV F S (fI (F.drop a) (S.drop b)) a b).1) (S.drop (bV F S (fI (F.drop a) (S.drop b)) a b).2.1):=by
 have i:(F.drop a).tail=F.drop (a+1):=by rw[ew]
 have j:(S.drop b).tail=S.drop (b+1):=by rw[ew]
 have hh:(S.drop b).headD []=(S[b]?).getD []:=by
  cases d:S[b]? with
  |none=>rw[b6 (bk.1 d)];rfl
  |some s=>rw[drop_cons d];rfl
 simp only[lW]
 generalize fI (F.drop a) (S.drop b)=k at hk l
 have m: ∀{x y:Nat},¬(0<=(x,y,(-1:Int)).2.2):=λh=>absurd h zx
 have e: ∀(p:Nat) (n o:Nat) (c:Int),bV F S k a b=(a,b,-1)\/bV F S k a b=(n,o,c)->bV F S k a b=(n,o,c):=zx
 match k,hk with
 |0,_=>
  have:bV F S 0 a b=(a+1,b+1,0):=e 0 _ _ _ (by
   cases g:F[a]? <;>cases d:S[b]? <;>simp only[bV,g,d]<;>first|(split<;>simp)|simp)
  rw[this,if_pos rfl,i,j];rfl
 |1,_=>
  have:bV F S 1 a b=(a+1,b+1,1):=e 1 _ _ _ (by
   cases g:F[a]? <;>cases d:S[b]? <;>simp only[bV,g,d]<;>first|(split<;>simp)|simp)
  rw[this,if_neg zq,if_pos rfl,i,j,hh];rfl
 |2,_=>
  have:bV F S 2 a b=(a+1,b,1):=e 2 _ _ _ (by
   cases g:F[a]? <;>cases d:S[b]? <;>simp only[bV,g,d]<;>first|(split<;>simp)|simp)
  rw[this,if_neg zq,if_neg zq,if_pos rfl,i];rfl
 |3,_=>
  have:bV F S 3 a b=(a,b+1,1):=e 3 _ _ _ (by
   cases g:F[a]? <;>cases d:S[b]? <;>simp only[bV,g,d]<;>first|(split<;>simp)|simp)
  rw[this,if_neg zq,if_neg zq,if_neg zq,if_pos rfl,j,hh];rfl
theorem HL (f:Nat){F S:List Wd}(h:fI F S=4):lW f F S=[]:=by
 cases f with
 |zero=>rfl
 |succ f=>simp [lW,h]
theorem OT {F S:List Wd}{k a b:Nat}(hk:k=1\/k=3)(h:0<=(bV F S k a b).2.2): ∃s,S[b]? =some s:=by
 rcases hk with rfl|rfl
 ·cases c:F[a]? <;>cases d:S[b]? <;>simp [bV,c,d]at h ⊢
 ·cases c:F[a]? <;>cases d:S[b]? <;>simp [bV,c,d]at h ⊢
theorem OH (A C:List Wd):Ev an 134 [strs A,strs C] (.bZ [Kf (iF A C).1,I (iF A C).2.1,I (iF A C).2.2]):=by
 have M:=sL A;have N:=sL C
 have E: ∀{env:Env} {H:Heap} {e:Int},jR A C=e->e≠0->env 4= .sl 2 []->env 5=I 0->env 6=I e->pD an [.tmp 4,.tmp 5,.tmp 6] (.bZ [Kf (iF A C).1,I (iF A C).2.1,I (iF A C).2.2]) .ret env H []:=by
  intro env H e Q h2 h4 h5 h6;have:iF A C=([],0,e):=by unfold iF;rw[Q,if_neg h2]
  rw[this];exact fh (.inr rfl) (.many zq ⟨.tmp h4 rfl,.tmp h5 rfl,.tmp h6 rfl,trivial⟩)
 refine ak afo.ok<|aC rfl<|aa (aa ?_);refine iO [.bW] rfl ⟨rfl,trivial⟩<|bE (jR A C=0) (el [(0,strs A),(1,strs C),(4,.nil)]) [] [] ?_ ?_
 ·refine dE (λk:Nat=>k<=2/\(0<k->cG A=0)/\(1<k->cG C=0)) (λk=>el [(0,strs A),(1,strs C),(4,.nil),(16,.sl 1 [[strs A],[strs C]]),(17,I 2),(18,I k)]) (λk=>2-k) 0 ⟨zz,zz,zz⟩
   eL ?_
  rintro k ⟨hk,Y,Q⟩;refine aC rfl<|aa (ag rfl (λhe=>?_) (λhe=>?_))
  ·simp only[decide_eq_true_eq]at he;refine af (aa (au ?_));have:k=0\/k=1:=zz
   rcases this with rfl|rfl
   ·refine bc [.cells [strs A]] rfl ⟨⟨zq,rfl⟩,trivial⟩ ?_;obtain⟨e,z⟩: ∃e,cG A=e:=⟨_,rfl⟩;rw[z]at M;refine bc [.ret (I e)] rfl ⟨M,trivial⟩<|aa<|cC rfl<|ag rfl (λo=>?_) (λo=>af ?_)
    ·have o:e≠0:=by simpa using o
     have J:jR A C=e:=by unfold jR;rw[z,if_neg o]
     refine aC rfl<|ae (bB.jD (t:=4) 2 rfl) ?_;exact ab (E J o rfl rfl rfl)
    ·have o:e=0:=by simpa using o
     refine dS rfl ⟨zz,trivial⟩ ?_;exact⟨1,⟨zz,λ_=>z.trans o,zz⟩,zz,eL⟩
   ·have r:=Y zz;refine bc [.cells [strs C]] rfl ⟨⟨zq,rfl⟩,trivial⟩ ?_;obtain⟨e,z⟩: ∃e,cG C=e:=⟨_,rfl⟩;rw[z]at N;refine bc [.ret (I e)] rfl ⟨N,trivial⟩<|aa<|cC rfl<|ag rfl (λo=>?_) (λo=>af ?_)
    ·have o:e≠0:=by simpa using o
     have J:jR A C=e:=by unfold jR;rw[if_pos r,z]
     refine aC rfl<|ae (bB.jD (t:=4) 2 rfl) ?_;exact ab (E J o rfl rfl rfl)
    ·have o:e=0:=by simpa using o
     refine dS rfl ⟨zz,trivial⟩ ?_;exact⟨2,⟨zz,λ_=>r,λ_=>z.trans o⟩,zz,eL⟩
  ·simp only[decide_eq_false_iff_not]at he;have:k=2:=zz
   subst this;exact ay ⟨(),nB.2 ⟨Y zz,Q zz⟩,eL⟩
 intro _ hz;obtain⟨r,T⟩:=nB.1 hz;have a1:=(kE.1 r).1;have a2:=(kE.1 T).1;have Z:(C.map λs=>[bg s]).length=C.length:=bA _;have hR:iF A C=(lW (A.length+C.length) A C,((nr A C:Nat):Int),0):=by unfold iF;rw[if_pos hz]
 rw[hR];refine aa (av ?_);refine kL 2 rfl rfl<|ai (bU (Hin:=[]) (H0:=[]) (NX A C) rfl rfl (aK _) rfl ?_);rintro res v ⟨bm,rfl,rfl⟩;refine eZ rfl<|aa (av (ai (aF.alloc rfl (λd=>?_))));refine bh<|ae (bB.ln (t:=4) 299 2 rfl) ?_;have a5: ∀{env:Env},env 4= .aI 299 2 []->True:=λ_=>trivial;refine au<|br (X:=Nat×Nat×List Mark×List (Nat×Nat)) (λx=>x.1<=A.length/\x.2.1<=C.length/\x.2.2.1.length<=x.1+x.2.1/\KS A C x.2.2.2/\ ∃f,A.length+C.length<=f+(x.1+x.2.1)/\lW (A.length+C.length) A C=x.2.2.1++lW f (A.drop x.1) (C.drop x.2.1))
  (λx=>el [(1,strs C),(4,.aI 299 2 (x.2.2.1.map Mark.enc)),(9,ei A C bm),(10,.po d 0)]) (λx=>[(d,.cells 294 [I x.1,I x.2.1]),(bm,.map (rB A C x.2.2.2))]) (λ_=>[]) (λx=>(A.length-x.1)+(C.length-x.2.1)) (0,0,[],[]) ⟨c8 _,c8 _,zj,(λp hp=>by cases hp),A.length+C.length,zj,rfl⟩
  (aj (ar rfl) eL) ?_
 rintro⟨a,b,ms,ks⟩ ⟨ha,G,U,L,f,J,g⟩;simp only at ha G U L J g;have y:(ms.map Mark.enc).length=ms.length:=bA _;refine gm [(1,strs C),(4,.aI 299 2 (ms.map Mark.enc)),(9,ei A C bm),(10,.po d 0)]<|au<|aa (av ?_);refine lz [.at 0] 2 rfl rfl ⟨rfl,trivial⟩<|aG (cd (c7 _ _ _))<|ai (bU (Hin:=pR A C bm ks) (H0:=[(d,.cells 294 [I a,I b])]) (left_at zz zz ha G ks L) rfl rfl (aK _) rfl ?_);rintro res v ⟨rfl,j,w,rfl⟩;refine aG (cd (c7 _ _ _))<|eZ rfl<|ae (aj (ar (H':=[(d,.cells 294 [I a,I b]),(bm,.map (rB A C j))]) rfl) (ao (l:=[(1,strs C),(4,.aI 299 2 (ms.map Mark.enc)),(9,ei A C bm),(10,.po d 0),(12,I (fI (A.drop a) (C.drop b):Nat))]) ⟨rfl,rfl,rfl,rfl,rfl,trivial⟩)) ?_;rcases Kg ha G with⟨h4,e1,e2⟩|⟨R,D,a4⟩
 ·rw[HL f h4,List.append_nil]at g;rw[h4];refine aa (aa ?_);refine cC rfl<|ax rfl rfl<|ae (bB.ga (t:=4) rfl)<|aa (av ?_);refine kL 3 rfl rfl<|aG (cd (c7 _ _ _))<|ai (bU (Hin:=pR A C bm j) (H0:=[(d,.cells 294 [I a,I b])]) (UM zz zz (c8 _) (c8 _) j w) rfl rfl (aK _) rfl ?_);rintro res v ⟨rfl,a6,a0,rfl⟩;refine eZ rfl ?_;rw[g];exact ab (fh (.inr rfl) (.many zq ⟨.tmp rfl rfl,.tmp rfl rfl,.tmp rfl rfl,trivial⟩))
 ·obtain⟨P,rfl⟩: ∃P,f=P+1:=⟨f-1,zz⟩;rw[HT R D]at g;have n:=MU A C bm (fI (A.drop a) (C.drop b)) a b R ha G zz zz;obtain⟨l1,l2,l3,l4⟩:=G4 (F:=A) (S:=C) (k:=fI (A.drop a) (C.drop b)) ha G;have l5:=l4 D;have q:=λh=>OT (F:=A) (S:=C) (k:=fI (A.drop a) (C.drop b)) (a:=a) (b:=b) h D;have u:=Ub;have K:fI (A.drop a) (C.drop b)=1\/fI (A.drop a) (C.drop b)=3\/fI (A.drop a) (C.drop b)=0\/fI (A.drop a) (C.drop b)=2:=zz
  generalize fI (A.drop a) (C.drop b)=k at R g n l1 l2 l3 l5 q K;generalize (bV A C k a b).1=V at g n l1 l5;generalize (bV A C k a b).2.1=W at g n l2 l5;generalize (bV A C k a b).2.2=c at n;refine aa (aa ?_);refine cC rfl<|ag (b:=false) (by show B _=B _;exact congrArg B (by rw[beq_eq_false_iff_ne];omega)) (λh=>by cases h) (λ_=>af ?_);refine aa (av ?_);refine lz [.aI] 4 rfl rfl ⟨rfl,⟨rfl,rfl,rfl,zx⟩,trivial⟩<|aT.fY (t:=13) rfl (λm=>?_);refine bh<|ae (aj (ar (H':=[(m,.cells 299 [I k,bg []]),(d,.cells 294 [I a,I b]),(bm,.map (rB A C j))]) rfl) (ao (l:=[(1,strs C),(4,.aI 299 2 (ms.map Mark.enc)),(9,ei A C bm),(10,.po d 0),(12,I k),(13,.po m 0)]) ⟨rfl,rfl,rfl,rfl,rfl,rfl,trivial⟩))<|dZ True (el [(1,strs C),(4,.aI 299 2 (ms.map Mark.enc)),(9,ei A C bm),(10,.po d 0),(12,I k),(13,.po m 0)]) [(m,.cells 299 (yu C k b).enc),(d,.cells 294 [I a,I b]),(bm,.map (rB A C j))] [] ?_ ?_
  ·refine aa ?_
   have wr: ∀(env:Env),(∃s,C[b]? =some s)->(k=1\/k=3)->qX env [(1,strs C),(4,.aI 299 2 (ms.map Mark.enc)),(9,ei A C bm),(10,.po d 0),(12,I k),(13,.po m 0)]->aJ an none 66 (.ops [⟨some 49,none,.rF (tm 1)⟩,⟨some 50,none,.oN 294 (tm 10) 1 1⟩,⟨some 51,none,.load 3 (tm 50) none⟩,⟨some 52,none,.ni 25 (tm 49) (tm 51) 1⟩,⟨some 53,none,.load 9 (tm 52) none⟩,⟨some 54,none,.oN 299 (tm 13) 1 1⟩,⟨none,none,.store 9 (tm 54) (tm 53) 1⟩])
     (λe env' H' O=>e= .normal/\bB env' H' O (el [(1,strs C),(4,.aI 299 2 (ms.map Mark.enc)),(9,ei A C bm),(10,.po d 0),(12,I k),(13,.po m 0)]) [(m,.cells 299 (yu C k b).enc),(d,.cells 294 [I a,I b]),(bm,.map (rB A C j))] []) env [(m,.cells 299 [I k,bg []]),(d,.cells 294 [I a,I b]),(bm,.map (rB A C j))] []:=by
    rintro env ⟨s,hs⟩ hk he
    refine ae (ao he)<|av<|lz [.at 1,.cells [bg s]] 6 rfl rfl ⟨rfl,⟨zz,by simp [hs]⟩,trivial⟩<|ai (aZ (i:=0) rfl rfl rfl rfl rfl rfl (by show 2<=2;decide) ?_)
    refine bh ⟨rfl,aj (ar ?_) eL⟩
    have:(yu C k b).enc=[I k,bg s]:=by simp only[yu,Mark.enc];rw[if_pos hk,hs];rfl
    rw[this];rfl
   rcases K with rfl|rfl|rfl|rfl
   ·refine iO [.ret (.agg Dr),.op (.agg [B true,B true,yJ 274])] rfl ⟨u,λ_ _ _=>aF.iS 1 rfl rfl rfl zq rfl rfl ⟨rfl,rfl,rfl⟩,trivial⟩<|ax rfl rfl<|mH (wr _ (q (.inl rfl)) (.inl rfl) ⟨rfl,rfl,rfl,rfl,rfl,rfl,trivial⟩) ?_;rintro e env' H' O ⟨rfl,h⟩;exact⟨(),trivial,h⟩
   ·refine iO [.ret (.agg Dr),.op (.agg [B false,B true,yJ 276])] rfl ⟨u,λ_ _ _=>aF.iS 3 rfl rfl rfl zq rfl rfl ⟨rfl,rfl,rfl⟩,trivial⟩<|ax rfl rfl<|mH (wr _ (q (.inr rfl)) (.inr rfl) ⟨rfl,rfl,rfl,rfl,rfl,rfl,trivial⟩) ?_;rintro e env' H' O ⟨rfl,h⟩;exact⟨(),trivial,h⟩
   ·refine iO [.ret (.agg Dr),.op (.agg [B true,B false,yJ 273])] rfl ⟨u,λ_ _ _=>aF.iS 0 rfl rfl rfl zq rfl rfl ⟨rfl,rfl,rfl⟩,trivial⟩<|aD rfl rfl ?_;exact⟨(),trivial,eL⟩
   ·refine iO [.ret (.agg Dr),.op (.agg [B true,B false,yJ 275])] rfl ⟨u,λ_ _ _=>aF.iS 2 rfl rfl rfl zq rfl rfl ⟨rfl,rfl,rfl⟩,trivial⟩<|aD rfl rfl ?_;exact⟨(),trivial,eL⟩
  intro _ _;generalize a3:yu C k b=mk at g;refine bc [.at 0,.bW] rfl ⟨rfl,rfl,⟨by show (_+1)*24<=_;rw[y];omega,by show _+1<=_;rw[y];omega⟩,trivial⟩<|av<|lz [.at 1] 3 rfl rfl ⟨rfl,trivial⟩<|ai (aF.call n rfl rfl (aK _) ?_);refine kL 3 rfl rfl<|ai (aZ (i:=1) rfl rfl rfl rfl rfl rfl zx ?_);refine bh ?_;refine⟨(V,W,ms++[mk],j),⟨l1,l2,by simp;omega,w,P,zx,by rw[g];simp⟩,zx,aj (du (H':=[(d,.cells 294 [I V,I W]),(bm,.map (rB A C j))]) ?_) (ao ⟨rfl,?_,rfl,rfl,trivial⟩)⟩
  ·exact List.sublist_cons_self _ _
  ·show AV.aI _ _ _=_;rw[et];rfl
def zA (f:Nat->Bool)(n:Nat):Nat:=(a7 n).foldl (λs i=>if f i=true then s ||| 2^i else s) 0
theorem D9 (f:Nat->Bool)(n:Nat):zA f (n+1)=if f n=true then zA f n ||| 2^n else zA f n:=by unfold zA;rw[bI,bt];rfl
theorem Mw (f:Nat->Bool): ∀n:Nat,zA f n<2^n
 |0=>by show 0<1;decide
 |n+1=>by
  have b:=Mw f n
  have a:(2:Nat)^n<=2^(n+1):=be zz zz
  rw[D9]
  split
  ·exact b8 zz (az zz zz)
  ·omega
theorem QU (f:Nat->Bool){k:Nat}(h:k<5):jO none (k*1) (b5 f)=some (B (f k)):=
 b5c (C:=λk=>jO none (k*1) (b5 f)=some (B (f k))) rfl rfl rfl rfl rfl h
theorem IN (f:Nat->Bool):Ev an 225 [.agg (b5 f)] (I (zA f 5:Nat)):=by
 refine ak acD.ok<|bc [.bW] rfl ⟨⟨rfl,rfl⟩,trivial⟩<|aa (aa ?_);refine cC rfl<|bE True (el [(2,I (zA f 5:Nat))]) [] [] ?_ ?_
 ·refine dE (λk:Nat=>k<=5) (λk=>el [(2,I (zA f k:Nat)),(5,.agg (b5 f)),(6,I k)]) (λk=>5-k) 0 zz eL ?_;intro k hk;refine aC rfl<|aa (ag rfl (λhc=>?_) (λhc=>?_))
  ·simp only[decide_eq_true_eq]at hc;have a:=D9 f k;have i:=Mw f k;have h:=QU f (k:=k) zz;refine af (aa (au ?_));refine bc [.idx (B (f k))] rfl ⟨⟨⟨zz,zz⟩,h⟩,trivial⟩<|aa<|cC rfl ?_;cases g:f k with
   |false=>rw[g,if_neg zq]at a;refine aD rfl rfl<|dS rfl ⟨zz,trivial⟩ ?_;exact⟨k+1,zz,zz,ao ⟨by rw[a];rfl,rfl,rfl,trivial⟩⟩
   |true=>
    rw[g,if_pos rfl]at a;have j:(2:Nat)^k<2^60:=az zz zz;have b:(1:Int)*2^((k:Nat):Int).toNat=((2^k:Nat):Int):=zj
    have c:(0:Int)<=1*2^((k:Nat):Int).toNat:=by rw[b];exact b0 _
    have d:(1:Int)*2^((k:Nat):Int).toNat<9223372036854775808:=by rw[b];omega
    refine ax rfl rfl<|dS rfl (by(and_intros);(all_goals first|exact zk _|((first|exact c|exact d))))<|dS rfl ⟨zz,trivial⟩ ?_;refine⟨k+1,zz,zz,ao ⟨?_,rfl,rfl,trivial⟩⟩;show I _=I _;rw[a,b,ad,ad]
  ·simp only[decide_eq_false_iff_not]at hc;have e:k=5:=zz
   subst e;exact ay ⟨(),trivial,eL⟩
 ·intro _ _;refine aC rfl<|ab (aB ?_);rfl
theorem HE (l:List Wd):Ev an 63 [strs l] (I (cG l)):=by
 have c:(iF l []).2.2=cG l:=by
  unfold iF;by_cases h:cG l=0
  ·rw[if_pos (nB.2 ⟨h,rfl⟩),h]
  ·have b:jR l []≠0:=λe=>h (nB.1 e).1;rw[if_neg b];unfold jR;rw[if_neg h]
 have a:=OH l [];rw[c]at a;generalize (iF l []).1=d at a;generalize (iF l []).2.1=f at a;refine ak S63.ok<|aC rfl<|bc [.wC [strs l,strs []] (.bZ [Kf d,I f,I (cG l)])] rfl ⟨⟨a,.cons (.jD (.refl _))⟩,trivial⟩<|aC rfl<|ab (aB ?_);rfl
abbrev Bo (l:List (List Wd)):AV:=.sl 1 (l.map λx=>[strs x])
abbrev cE.enc (a:cE):List AV:=a.sh.enc++(strs a.ix::(a.tw.enc++(a.dr.enc++(a.li.enc++(a.ch.enc++[Bo a.le,I a.ca])))))
def Xc (s:Wd):Bool:=match ec s with
 | .ok v=>v==(UD s:Int)&&dk v==s&&decide ((UD s:Int)<=999)
 |_=>false
theorem abv:((a7 10).all λa=>Xc [b1 (48+a)])=true:=zw
theorem abx:((a7 10).all λa=>a==0||(a7 10).all λb=>Xc [b1 (48+a),b1 (48+b)])=true:=zw
theorem abf:((a7 10).all λa=>a==0||(a7 10).all λb=>(a7 10).all λc=>Xc [b1 (48+a),b1 (48+b),b1 (48+c)])=true:=zw
theorem abX:((a7 1000).all λv=>rH (dk (v:Int))==(v:Int))=true:=zw
theorem xE {c:UInt8}(h:Tu c=true): ∃a,a<10/\c=b1 (48+a):=by unfold Tu at h;simp only[b9,decide_eq_true_eq]at h;have b:48<=c.toNat:=h.1;have d:c.toNat<=57:=h.2;exact⟨c.toNat-48,zz,by simp_all⟩
theorem Ef {s:Wd}(h:0<=rH s):Xc s=true/\rH s=(UD s:Int):=by
 unfold rH at h ⊢;split at h
 ·rename_i hc;rw[if_pos hc];refine⟨?_,rfl⟩;obtain⟨f,d,e,h4⟩:=hc;match s,f,d,e,h4 with
  |[a],_,d,_,_=>simp only[cA,cB,cr]at d;obtain⟨x,hx,rfl⟩:=xE d;exact bi.1 abv x (a8.2 hx)
  |[a,b],_,d,e,_=>
   simp only[cA,cB,cr,b9]at d;obtain⟨x,hx,rfl⟩:=xE d.1;obtain⟨y,hy,rfl⟩:=xE d.2;have h:=bi.1 abx x (a8.2 hx);simp only[cc,beq_iff_eq]at h;rcases h with rfl|h
   ·simp at e
   ·exact bi.1 h y (a8.2 hy)
  |[a,b,c],_,d,e,_=>
   simp only[cA,cB,cr,b9]at d;obtain⟨x,hx,rfl⟩:=xE d.1;obtain⟨y,hy,rfl⟩:=xE d.2.1;obtain⟨z,g,rfl⟩:=xE d.2.2;have h:=bi.1 abf x (a8.2 hx);simp only[cc,beq_iff_eq]at h;rcases h with rfl|h
   ·simp at e
   ·exact bi.1 (bi.1 h y (a8.2 hy)) z (a8.2 g)
  |_::_::_::_::_,_,_,_,h4=>simp at h4
 ·omega
theorem qz (s:Wd):rH s= -1\/0<=rH s:=by unfold rH;split<;>omega
theorem Pf {v:Int}(a:0<=v)(b:v<=999):rH (dk v)=v:=by have:=bi.1 abX v.toNat (a8.2 zz);rw[beq_iff_eq,show ((v.toNat:Nat):Int)=v from zz]at this;exact this
theorem T3 {s:Wd}{v:Int}(h:ec s= .ok v):rH s=if v<0\/999<v\/dk v≠s then -1 else v:=by
 split
 ·rename_i hc;rcases qz s with h1|h1
  ·exact h1
  ·obtain⟨a,c⟩:=Ef h1;unfold Xc at a;rw[h]at a;simp only[b9,beq_iff_eq,decide_eq_true_eq]at a;obtain⟨⟨rfl,b⟩,d⟩:=a;rcases hc with h7|h7|h7
   ·omega
   ·omega
   ·exact absurd b h7
 ·rename_i hc;have:dk v=s:=ey λe=>hc (.inr (.inr e));rw[<-this];exact Pf zz zz
theorem Qe {s:Wd}(h: ∀v,ec s≠.ok v):rH s= -1:=by
 rcases qz s with h1|h1
 ·exact h1
 ·obtain⟨a,_⟩:=Ef h1;unfold Xc at a;split at a
  ·grind
  ·cases a
theorem Nk (s:Wd)(hs:s.length<=1000000):Ev an 171 [bg s] (I (rH s)):=by
 have ha:=Uo s hs;unfold F0 at ha;split at ha
 ·rename_i v a;have c:=Lib.atoiAll_bounds a;rw[T3 a];refine dV ac2.ok (kh [(7,[.ev ha]),(22,[.ev (tX v c.1 c.2)])]) (lh []) ?_;repeat' first|apply aP|apply aO|apply aN|apply aw|apply bs|(intro b;(try simp only[nL]at b);(try contradiction))
  all_goals try exact fi _
 ·rename_i a;rw[Qe a];refine dV ac2.ok (kh [(7,[.ev ha])]) (lh []) ?_;repeat' first|apply aP|apply aO|apply aN|apply aw|apply bs|(intro b;(try simp only[nL]at b);(try contradiction))
  all_goals try exact fi _
theorem Rd (s:Wd):Ev an 39 [bg s] (B (!dL s)):=by exact gA S39.ok [(4,[.ev (jI s)])] []
theorem JH (c:lH)(f:c.wf)(i:Nat)(x:List UInt8)(hx:c.pe[i]? =some x):Ev an 129 [I i,bg x,.pi c.enc] (I (eA c.pe i)):=by
 have j:=(bx.1 hx).1;have g:=f.pn;have a:eA c.pe i=if fl x=false then 6 else if (c.pe.take i).contains x=true then 5 else 0:=by unfold eA;rw[hx]
 have d:=tZ x (f.pe x (bn hx));have b:=mq (c.pe.take i) x;generalize fl x=e at a d;generalize (c.pe.take i).contains x=b2 at a b;refine ak agH.ok<|aC rfl<|cX (eA c.pe i=0) (el []) [] [] ?_ ?_
 ·refine bc [.ret (B e)] rfl ⟨d,trivial⟩ ?_;cases e with
  |false=>rw[if_pos rfl]at a;refine ax rfl rfl<|aC rfl<|ab (aB ?_);rw[a];rfl
  |true=>
   rw[if_neg zq]at a;refine cJ rfl rfl<|bc [.wC [.sl 1 ((c.pe.take i).map λs=>[bg s]),bg x] (B b2)] rfl ⟨⟨⟨trivial,zz⟩,zj,by simp;omega⟩,⟨b,fL (by rw[List.map_take];rfl)⟩,trivial⟩ ?_;cases b2 with
   |true=>rw[if_pos rfl]at a;refine ax rfl rfl<|aC rfl<|ab (aB ?_);rw[a];rfl
   |false=>rw[if_neg zq]at a;exact aD rfl rfl ⟨(),a,ao trivial⟩
 ·intro _ h;refine aC rfl<|ab (aB ?_);rw[h];rfl
theorem JM (c:lH)(s:c.wf){W F P:Int}(p:W=2^c.wo.toNat)(g:F=2^c.fa.toNat)(o:P=2^c.pe.length)(b:(1<=W/\W<=64)/\(1<=F/\F<=64)/\(1<=P/\P<=64))(i:Nat)(x:nU)(hx:c.co[i]? =some x):
  Ev an 131 [I i,.agg x.enc,.pi c.enc,.pi [I W],.pi [I F],.pi [I P]] (I (wD c i)):=by
 have r:=(bx.1 hx).1
 have q:=s.cn
 have a:wD c i=if ah 1 c.la [x.nu]=true then 7
  else if (decide (0<i)&&(match c.co[i-1]? with|some y=>decide (x.nu<=y.nu)|none=>false))=true then 2
  else if (ah 0 (W-1) [x.wo]||ah 0 (F-1) [x.fa]||ah 0 (P-1) [x.ma])=true then 4 else 0:=by
  unfold wD;rw[hx,p,g,o];rfl
 have n:=lf 1 c.la [x.nu]
 have d:=lf 0 (W-1) [x.wo]
 have f:=lf 0 (F-1) [x.fa]
 have h4:=lf 0 (P-1) [x.ma]
 generalize ah 1 c.la [x.nu]=j at n a
 generalize ah 0 (W-1) [x.wo]=b2 at d a
 generalize ah 0 (F-1) [x.fa]=b3 at f a
 generalize ah 0 (P-1) [x.ma]=b4 at h4 a
 let E:List (Nat×AV):=[(0,I i),(2,.pi c.enc),(3,.pi [I W]),(4,.pi [I F]),(5,.pi [I P]),(7,.pi x.enc)]
 refine ak acW.ok<|bc [.bW] rfl ⟨⟨rfl,rfl⟩,trivial⟩<|cX (wD c i=0) (el []) [] [] ?_ ?_
 ·refine bc [.bW,.ret (B j)] rfl ⟨rfl,n,trivial⟩ ?_
  cases j with
  |true=>
   rw[if_pos rfl]at a
   refine ax rfl rfl<|aC rfl<|ab (aB ?_)
   rw[a];rfl
  |false=>
  rw[if_neg zq]at a
  refine cJ rfl rfl<|dZ True (el ((16,B (decide (0<i)&&(match c.co[i-1]? with|some y=>decide (x.nu<=y.nu)|none=>false)))::E)) [] [] ?_ ?_
  ·by_cases m:0<i
   ·obtain⟨y,hy⟩:=aL (l:=c.co) (k:=i-1) zz
    have e:decide (((i:Nat):Int)>0)=true:=by rw[decide_eq_true_iff];omega
    refine rE [(19,true)] [.cells y.enc] rfl (by(and_intros);(all_goals first|exact zk _|((first|exact e|(rw[b7,show (((i:Nat):Int)-1).toNat=i-1 from zz,hy];rfl)|(simp;done)|(simp;omega))))) ?_
    refine⟨(),trivial,ao ⟨?_,rfl,rfl,rfl,rfl,rfl,rfl,trivial⟩⟩
    show B _=B _
    rw[hy,decide_eq_true m];rfl
   ·have e:decide (((i:Nat):Int)>0)=false:=by rw[decide_eq_false_iff_not];omega
    refine rE [(19,false)] [] rfl (by(and_intros);(all_goals first|exact zk _|((exact e)))) ?_
    refine⟨(),trivial,ao ⟨?_,rfl,rfl,rfl,rfl,rfl,rfl,trivial⟩⟩
    show B _=B _
    rw[decide_eq_false m];rfl
  intro _ _
  generalize (decide (0<i)&&(match c.co[i-1]? with|some y=>decide (x.nu<=y.nu)|none=>false))=bo at a
  cases bo with
  |true=>
   rw[if_pos rfl]at a
   refine ax rfl rfl<|aC rfl<|ab (aB ?_)
   rw[a];rfl
  |false=>
  rw[if_neg zq]at a
  refine cJ rfl rfl<|dZ True (el [(31,B (b2||b3||b4))]) [] [] ?_ ?_
  ·cases b2 with
   |true=>
    refine js [(38,true),(46,true)] [.bW,.ret (B true)] rfl (by(repeat' (with_reducible apply bs));(all_goals first|exact zk _|((first|exact d|rfl)))) ?_
    exact⟨(),trivial,eL⟩
   |false=>
   cases b3 with
   |true=>
    refine js [(38,false),(46,true)] [.bW,.ret (B false),.bW,.ret (B true)] rfl (by(repeat' (with_reducible apply bs));(all_goals first|exact zk _|((first|exact d|exact f|rfl)))) ?_
    exact⟨(),trivial,eL⟩
   |false=>
    refine js [(38,false),(46,false)] [.bW,.ret (B false),.bW,.ret (B false),.bW,.ret (B b4)] rfl (by(repeat' (with_reducible apply bs));(all_goals first|exact zk _|((first|exact d|exact f|exact h4|rfl)))) ?_
    exact⟨(),trivial,eL⟩
  intro _ _
  generalize (b2||b3||b4)=bb at a
  cases bb with
  |true=>
   rw[if_pos rfl]at a
   refine ax rfl rfl<|aC rfl<|ab (aB ?_)
   rw[a];rfl
  |false=>
   rw[if_neg zq]at a
   exact aD rfl rfl ⟨(),a,ao trivial⟩
 ·intro _ h
  refine aC rfl<|ab (aB ?_)
  rw[h];rfl
theorem JQ (c:lH){F:Int}(g:F=2^c.fa.toNat)(b:(1<=F/\F<=64)/\1<=c.fa/\c.fa<=6)(i:Nat)(x:V5)(hx:c.ru[i]? =some x):Ev an 133 [I i,.agg x.enc,.pi [I F],.pi c.enc] (I (wW c i)):=by
 have a:wW c i=if (ah 0 (F-1) [x.J3]||ah 0 (c.fa-1) [x.th])=true then 4 else if x.J3=0 then 2 else 0:=by unfold wW;rw[hx,g]
 have f:=lf 0 (F-1) [x.J3];have j:=lf 0 (c.fa-1) [x.th];generalize ah 0 (F-1) [x.J3]=d at f a;generalize ah 0 (c.fa-1) [x.th]=b2 at j a;refine ak agR.ok<|bc [.bW] rfl ⟨⟨rfl,rfl⟩,trivial⟩<|cX (wW c i=0) (el []) [] [] ?_ ?_
 ·refine dZ True (el [(5,.pi x.enc),(7,B (d||b2))]) [] [] ?_ ?_
  ·cases d with
   |true=>refine js [(14,true)] [.bW,.ret (B true)] rfl (by(repeat' (with_reducible apply bs));(all_goals first|exact zk _|((first|exact f|rfl)))) ?_;exact⟨(),trivial,eL⟩
   |false=>refine js [(14,false)] [.bW,.ret (B false),.bW,.ret (B b2)] rfl (by(repeat' (with_reducible apply bs));(all_goals first|exact zk _|((first|exact f|exact j|rfl)))) ?_;exact⟨(),trivial,eL⟩
  intro _ _;generalize (d||b2)=bb at a;cases bb with
  |true=>rw[if_pos rfl]at a;refine ax rfl rfl<|aC rfl<|ab (aB ?_);rw[a];rfl
  |false=>
  rw[if_neg zq]at a;refine cJ rfl rfl<|aC rfl ?_;by_cases e:x.J3=0
  ·rw[if_pos e]at a;refine ax rfl (by rw[beq_iff_eq];exact e)<|aC rfl<|ab (aB ?_);rw[a];rfl
  ·rw[if_neg e]at a;exact aD rfl (by rw[beq_eq_false_iff_ne];exact e) ⟨(),a,ao trivial⟩
 ·intro _ h;refine aC rfl<|ab (aB ?_);rw[h];rfl
theorem kR {n m:Nat}(h:n<=m):(1:Int)*2^((n:Nat):Int).toNat=2^n/\(1:Int)<=2^n/\(2:Int)^n<=2^m:=by
 have a:=be (n:=2) zz h;have b:(1:Nat)<=2^n:=Nat.one_le_two_pow;refine⟨zj,?_,?_⟩
 ·grind
 ·grind
theorem Dz (c:lH)(g:c.wf):Ev an 61 [.agg c.enc] (.bZ [I (fc c).1,I (fc c).2.1,I (fc c).2.2]):=by
 have u:((c.pe.map λs=>[bg s]).length:Int)=c.pe.length:=zj
 have res: ∀{Q:cI} {env:Env} {H:Heap} {x y r:Int},(∀env H,pD an [.tmp 2,.tmp 3,.tmp 4] (.bZ [I (fc c).1,I (fc c).2.1,I (fc c).2.2]) .ret env H []->Q .ret env H [])->fc c=(x,y,r)->env 2=I x->env 3=I y->env 4=I r->Q .ret env H []:=by intro Q env H x y r L h l f h4;refine L _ _ ?_;rw[h];exact fh (.inr rfl) (.many zq ⟨.tmp l rfl,.tmp f rfl,.tmp h4 rfl,trivial⟩)
 have a:=fc.eq_1 c;have k:=lf 1 5 [c.wo];have p:=lf 1 6 [c.fa];have w:=lf 0 30 [c.la];have e:(ah 1 5 [c.wo]||ah 1 6 [c.fa]||ah 0 30 [c.la])=false->(1<=c.wo/\c.wo<=5)/\1<=c.fa/\c.fa<=6:=by intro h;simp only[cR]at h;have d:=mt cF.2 (by rw[h.1.1];decide: ¬ah 1 5 [c.wo]=true);have l:=mt cF.2 (by rw[h.1.2];decide: ¬ah 1 6 [c.fa]=true);omega
 have f1:=O4 c.pe 129 [.pi c.enc] (eA c.pe) g.pn (λi x hx=>JH c g i x hx);have f2:=λ(W F P:Int) (M:W=2^c.wo.toNat) (q:F=2^c.fa.toNat) (K:P=2^c.pe.length) b=>Qs c.co 131 [.pi c.enc,.pi [I W],.pi [I F],.pi [I P]] (wD c) g.cn (λi x hx=>JM c g M q K b i x hx);have f3:=λ(F:Int) (q:F=2^c.fa.toNat) b=>PR c.ru 133 [.pi [I F],.pi c.enc] (wW c) g.rn (λi x hx=>JQ c q b i x hx);generalize ah 1 5 [c.wo]=j at k a e;generalize ah 1 6 [c.fa]=b2 at p a e;generalize ah 0 30 [c.la]=b3 at w a e;generalize (aA (eA c.pe) c.pe.length 0).1=S at f1 a;generalize (aA (eA c.pe) c.pe.length 0).2=v at f1 a;generalize (aA (wD c) c.co.length 0).1=c1 at f2 a;generalize (aA (wD c) c.co.length 0).2=o at f2 a;generalize (aA (wW c) c.ru.length 0).1=T at f3 a;generalize (aA (wW c) c.ru.length 0).2=E at f3 a;refine ak S61.ok<|bc [.bW] rfl ⟨⟨rfl,rfl⟩,trivial⟩<|cX ((j||b2||b3)=false/\c.pe.length<=3) (el [(1,.pi c.enc)]) [] [] ?_ ?_
 ·refine dZ True (el [(1,.pi c.enc),(8,B (j||b2||b3))]) [] [] ?_ ?_
  ·cases j with
   |true=>refine js [(13,true),(19,true)] [.bW,.ret (B true)] rfl (by(repeat' (with_reducible apply bs));(all_goals first|exact zk _|((first|rfl|exact k)))) ?_;exact⟨(),trivial,eL⟩
   |false=>
    cases b2 with
    |true=>refine js [(13,false),(19,true)] [.bW,.ret (B false),.bW,.ret (B true)] rfl (by(repeat' (with_reducible apply bs));(all_goals first|exact zk _|((first|rfl|exact k|exact p)))) ?_;exact⟨(),trivial,eL⟩
    |false=>refine js [(13,false),(19,false)] [.bW,.ret (B false),.bW,.ret (B false),.bW,.ret (B b3)] rfl (by(repeat' (with_reducible apply bs));(all_goals first|exact zk _|((first|rfl|exact k|exact p|exact w)))) ?_;exact⟨(),trivial,eL⟩
  ·intro _ _;generalize (j||b2||b3)=bb at a;cases bb with
   |true=>rw[if_pos rfl]at a;refine ax rfl rfl<|aC rfl ?_;exact ab (res (λ_ _ h=>h) a rfl rfl rfl)
   |false=>
    rw[if_neg zq]at a;refine cJ rfl rfl<|aC rfl ?_;by_cases h4:3<c.pe.length
    ·rw[if_pos h4]at a;refine ax rfl (by rw[decide_eq_true_iff];omega)<|aC rfl ?_;exact ab (res (λ_ _ h=>h) a rfl rfl rfl)
    ·exact aD rfl (by rw[decide_eq_false_iff_not];omega) ⟨(),⟨rfl,zz⟩,eL⟩
 rintro _ ⟨A,O⟩;obtain⟨⟨w1,U⟩,G,J⟩:=e A;rw[A,if_neg zq,if_neg zz]at a;refine bc [.ret (.bZ [I S,I v])] rfl ⟨f1,trivial⟩<|cX (v=0/\c.co.length<=6) (el [(1,.pi c.enc)]) [] [] ?_ ?_
 ·refine aC rfl ?_;by_cases d:v=0
  case neg=>rw[if_pos d]at a;refine ax rfl (by rw[bne_iff_ne];exact d)<|aC rfl ?_;exact ab (res (λ_ _ h=>h) a rfl rfl rfl)
  rw[if_neg (by simp [d])]at a;refine cJ rfl (by rw[d];rfl)<|aC rfl ?_;by_cases h4:6<c.co.length
  ·rw[if_pos h4]at a;refine ax rfl (by rw[decide_eq_true_iff];simp;omega)<|aC rfl ?_;exact ab (res (λ_ _ h=>h) a rfl rfl rfl)
  ·exact aD rfl (by rw[decide_eq_false_iff_not];simp;omega) ⟨(),⟨d,zz⟩,eL⟩
 rintro _ ⟨d,N⟩;rw[if_neg (by simp [d]),if_neg zz]at a;have D:=kR (n:=c.wo.toNat) (m:=6) zz;have pf:=kR (n:=c.fa.toNat) (m:=6) zz;have C:=kR (n:=c.pe.length) (m:=6) zz;rw[ad]at D pf C;have z:(1:Int)*2^(((c.pe.map λs=>[bg s]).length:Int)).toNat=2^c.pe.length:=by rw[u];exact C.1
 have f2:=f2 _ _ _ D.1 pf.1 z zz;have f3:=f3 _ pf.1 zz;refine vj [] [.aI,.aI,.aI] rfl (by(and_intros);(all_goals first|exact zk _|((first|(rw[z];omega)|rfl|exact Nat.le_refl 1))))<|ae (aq (t:=5) rfl)<|ae (aq (t:=6) rfl)<|ae (aq (t:=7) rfl)<|gm [(1,.pi c.enc),(5,.pi [I (1*2^c.wo.toNat)]),(6,.pi [I (1*2^c.fa.toNat)]),(7,.pi [I (1*2^(((c.pe.map λs=>[bg s]).length:Int)).toNat)])]<|bc [.ret (.bZ [I c1,I o])] rfl ⟨f2,trivial⟩<|cX (o=0/\c.ru.length<=4) (el [(1,.pi c.enc),(6,.pi [I (1*2^c.fa.toNat)])]) [] [] ?_ ?_
 ·refine aC rfl ?_;by_cases d:o=0
  case neg=>rw[if_pos d]at a;refine ax rfl (by rw[bne_iff_ne];exact d)<|aC rfl ?_;exact ab (res (λ_ _ h=>h) a rfl rfl rfl)
  rw[if_neg (by simp [d])]at a;refine cJ rfl (by rw[d];rfl)<|aC rfl ?_;by_cases h4:4<c.ru.length
  ·rw[if_pos h4]at a;refine ax rfl (by rw[decide_eq_true_iff];simp;omega)<|aC rfl ?_;exact ab (res (λ_ _ h=>h) a rfl rfl rfl)
  ·exact aD rfl (by rw[decide_eq_false_iff_not];simp;omega) ⟨(),⟨d,zz⟩,eL⟩
 rintro _ ⟨l,R⟩;rw[if_neg (by simp [l]),if_neg zz]at a;refine bc [.ret (.bZ [I T,I E])] rfl ⟨f3,trivial⟩<|aa (aa ?_);refine cC rfl ?_;by_cases f:E=0
 case neg=>rw[if_pos f]at a;refine ax rfl (by rw[bne_iff_ne];exact f)<|aC rfl ?_;exact ab (res (λ_ _ h=>h) a rfl rfl rfl)
 rw[if_neg (by simp [f])]at a;refine aD rfl (by rw[f];rfl)<|aC rfl ?_;exact ab (res (λ_ _ h=>h) a rfl rfl rfl)
open Go.MapKept
structure lH.OK (c:lH):Prop where
 wf:c.wf
 wo:1<=c.wo/\c.wo<=5
 fa:1<=c.fa/\c.fa<=6
 la:0<=c.la/\c.la<=30
 p3:c.pe.length<=3
 c6:c.co.length<=6
 r4:c.ru.length<=4
 co: ∀x∈c.co,(1<=x.nu/\x.nu<=c.la)/\(0<=x.wo/\x.wo<2^c.wo.toNat)/\(0<=x.fa/\x.fa<2^c.fa.toNat)/\0<=x.ma/\x.ma<2^c.pe.length
 up: ∀(i:Nat) x y,c.co[i]? =some x->c.co[i+1]? =some y->x.nu<y.nu
theorem FB {c:lH}(n:c.wf)(h:(fc c).2.2=0):c.OK:=by
 unfold fc at h;by_cases e:(ah 1 5 [c.wo]||ah 1 6 [c.fa]||ah 0 30 [c.la])=true
 ·grind
 rw[if_neg e]at h;by_cases m:3<c.pe.length
 ·grind
 rw[if_neg m]at h;by_cases l:(aA (eA c.pe) c.pe.length 0).2≠0
 ·grind
 rw[if_neg l]at h;by_cases hc:6<c.co.length
 ·grind
 rw[if_neg hc]at h;by_cases g:(aA (wD c) c.co.length 0).2≠0
 ·grind
 rw[if_neg g]at h;by_cases p:4<c.ru.length
 ·grind
 have f2:=eQ.1 (eS.1 g);simp only[cc,not_or,dl]at e;have a1:=pq e.1.1;have j:=pq e.1.2;have k:=pq e.2
 have key: ∀(i:Nat) x,c.co[i]? =some x->ah 1 c.la [x.nu]=false/\((decide (0<i)&&(match c.co[i-1]? with|some y=>decide (x.nu<=y.nu)|none=>false))=false)/\(ah 0 (2^c.wo.toNat-1) [x.wo]||ah 0 (2^c.fa.toNat-1) [x.fa]||ah 0 (2^c.pe.length-1) [x.ma])=false:=by
  intro i x hx;have:=f2 i (bx.1 hx).1;unfold wD at this;rw[hx]at this;change (if ah 1 c.la [x.nu]=true then(7:Int)else if (decide (0<i)&&(match c.co[i-1]? with|some y=>decide (x.nu<=y.nu)|none=>false))=true then 2 else if (ah 0 (2^c.wo.toNat-1) [x.wo]||ah 0 (2^c.fa.toNat-1) [x.fa]||ah 0 (2^c.pe.length-1) [x.ma])=true then 4 else 0)=0 at this;by_cases a:ah 1 c.la [x.nu]=true
  ·grind
  rw[if_neg a]at this;by_cases b:(decide (0<i)&&(match c.co[i-1]? with|some y=>decide (x.nu<=y.nu)|none=>false))=true
  ·grind
  rw[if_neg b]at this;by_cases d:(ah 0 (2^c.wo.toNat-1) [x.wo]||ah 0 (2^c.fa.toNat-1) [x.fa]||ah 0 (2^c.pe.length-1) [x.ma])=true
  ·grind
  exact⟨by simpa using a,by simpa using b,by simpa using d⟩
 refine⟨n,a1,j,k,zz,zz,zz,?_,?_⟩
 ·intro x hx;obtain⟨i,hi⟩:=List.mem_iff_getElem?.1 hx;obtain⟨o,-,f⟩:=key i x hi;simp only[cR]at f;have:=pq o;have:=pq f.1.1;have:=pq f.1.2;have:=pq f.2;omega
 ·grind
abbrev vw3 (f:Nat->Nat):List AV:=[I (f 0:Nat),I (f 1:Nat),I (f 2:Nat)]
theorem lt3 {C:Nat->Prop}(a:C 0)(b:C 1)(c:C 2){k:Nat}(h:k<3):C k:=by
 match k,h with
 |0,_=>exact a
 |1,_=>exact b
 |2,_=>exact c
abbrev ju (c:lH)(t:AV)(f:Nat->Nat):List AV:=c.enc++(vw3 f++[t])
theorem Tv (c:lH)(t:AV)(f:Nat->Nat){k:Nat}(h:k<3):eX none ((ju c t f).drop (6+k*1))=some (I (f k:Nat)):=
 lt3 (C:=λk=>eX none ((ju c t f).drop (6+k*1))=some (I (f k:Nat))) rfl rfl rfl h
theorem Gw (c:lH)(t:AV)(f:Nat->Nat){k:Nat}(h:k<3):[I (f k:Nat)]<+:((ju c t f).drop 6).drop (k*1):=
 lt3 (C:=λk=>[I (f k:Nat)]<+:((ju c t f).drop 6).drop (k*1)) ⟨_,rfl⟩ ⟨_,rfl⟩ ⟨_,rfl⟩ h
theorem Q0 (c:lH)(t:AV)(f:Nat->Nat)(v:Nat){k:Nat}(h:k<3):bK (ju c t f) (6+k*1) [I (v:Nat)]=ju c t (λj=>if j=k then v else f j):=
 lt3 (C:=λk=>bK (ju c t f) (6+k*1) [I (v:Nat)]=ju c t (λj=>if j=k then v else f j)) rfl rfl rfl h
def ng (c:lH)(p n:Nat):Nat:=(a7 n).foldl (λs i=>match c.co[i]? with|some x=>if x.ma.toNat.testBit p=true then s ||| 2^i else s|none=>s) 0
theorem KM {c:lH}{p n:Nat}{x:nU}(h:c.co[n]? =some x):ng c p (n+1)=if x.ma.toNat.testBit p=true then ng c p n ||| 2^n else ng c p n:=by unfold ng;rw[bI,bt,en,eu,h]
theorem wi (c:lH)(p:Nat): ∀n:Nat,n<=6->ng c p n<2^6
 |0,_=>cD 6
 |n+1,h=>by
  have a:=wi c p n zz
  unfold ng at a ⊢
  rw[bI,bt,en,eu]
  split
  ·split
   ·exact b8 a (az zz zz)
   ·exact a
  ·exact a
def jA (c:lH)(n p:Nat):Nat:=if p<c.pe.length then ng c p n else 0
abbrev LU (c:lH):AV:=.pi (ju c (.mi []) (jA c c.co.length))
theorem Sw {c:lH}(ok:c.OK):il an 341 [.agg c.enc] [] (λr _=>r=LU c):=by
 have p3:=ok.p3;have c6:=ok.c6;have C:((c.pe.map λs=>[bg s]).length:Int)=c.pe.length:=zj
 have B:((c.co.map nU.enc).length:Int)=c.co.length:=zj
 refine bq aeX.ok<|bc [.bW] rfl ⟨⟨rfl,rfl⟩,trivial⟩<|aa (av ?_);refine kL 1 rfl rfl<|ai (aF.sU (λg=>?_));refine lz [.aI] 2 rfl rfl ⟨⟨rfl,rfl⟩,trivial⟩<|aT.fY (t:=10) rfl (λb=>?_);refine eZ rfl<|ae (ar (H':=[(b,.cells 403 (ju c (.mo g) (jA c 0))),(g,.map [])]) ?_) ?_
 ·have:jA c 0=λ_=>0:=by funext p;unfold jA ng;split<;>rfl
  rw[this];rfl
 refine aa (aa ?_);refine cC rfl<|bE True (el [(3,.po b 0)]) [(b,.cells 403 (ju c (.mo g) (jA c c.co.length))),(g,.map [])] [] ?_ ?_
 ·refine br (λk:Nat=>k<=c.co.length) (λk=>el [(1,.pi c.enc),(3,.po b 0),(12,ky c.co),(13,I c.co.length),(14,I k)]) (λk=>[(b,.cells 403 (ju c (.mo g) (jA c k))),(g,.map [])]) (λ_=>[]) (λk=>c.co.length-k) 0 zz
   (ao ⟨rfl,rfl,rfl,by show I _=I _;rw[B],rfl,trivial⟩) ?_
  intro k hk;refine aC rfl<|aa (ag rfl (λhc=>?_) (λhc=>?_))
  ·simp only[nL]at hc;obtain⟨x,hx⟩:=aL hc;obtain⟨-,-,-,D,O⟩:=ok.co x (bn hx);have hm:x.ma<8:=by have:=(kR p3).2.2;omega
   let d:Nat->Nat->Nat:=λq p=>if p<q then jA c (k+1) p else jA c k p
   refine af<|cX True (el [(1,.pi c.enc),(3,.po b 0),(12,ky c.co),(13,I c.co.length),(14,I k)]) [(b,.cells 403 (ju c (.mo g) (jA c (k+1)))),(g,.map [])] [] ?_ ?_
   ·refine bc [.cells x.enc,.aI] rfl ⟨⟨zz,by simp [hx]⟩,rfl,⟨rfl,rfl,rfl,zq⟩,trivial⟩<|ae (aq (t:=5) rfl)<|aC rfl<|au ?_;let E:List (Nat×AV):=[(1,.pi c.enc),(3,.po b 0),(12,ky c.co),(13,I c.co.length),(14,I k)]
    refine br (λq:Nat=>q<=c.pe.length) (λq=>el ((4,I k)::(5,.pi x.enc)::(21,I c.pe.length)::(22,I q)::E)) (λq=>[(b,.cells 403 (ju c (.mo g) (d q))),(g,.map [])]) (λ_=>[]) (λq=>c.pe.length-q) 0 zz
     (ao ⟨rfl,rfl,by show I _=I _;rw[C],rfl,rfl,rfl,rfl,rfl,rfl,trivial⟩) ?_
    intro q N;refine aC rfl<|aa (ag rfl (λa=>?_) (λa=>?_))
    ·simp only[nL]at a;have h:=lM x.ma q D;have K:(0:Int)<=x.ma/2^((q:Nat):Int).toNat:=ek D (eM (eP zz));have L:x.ma/2^((q:Nat):Int).toNat<=x.ma:=dn _ D;have f:=KM (p:=q) hx;have H:=wi c q k zz;have y:d q q=ng c q k:=by show (if q<q then _ else jA c k q)=_;rw[if_neg zz];unfold jA;rw[if_pos a]
     have sV: ∀v:Nat,v=ng c q (k+1)->(λj=>if j=q then v else d q j)=d (q+1):=by
      intro v M;funext j;show _=if j<q+1 then _ else _
      by_cases e:j=q
      ·subst e;rw[if_pos rfl,if_pos zz,M];unfold jA;rw[if_pos a]
      ·rw[if_neg e];show (if j<q then _ else _)=_;by_cases o:j<q
       ·rw[if_pos o,if_pos zz]
       ·rw[if_neg o,if_neg zz]
     refine af (aa (au ?_));refine aC rfl<|aa<|dS rfl (by(and_intros);(all_goals first|exact zk _|((omega))))<|ag (b:=cN x.ma q) rfl (λw=>?_) (λw=>?_)
     ·rw[h]at w;rw[if_pos w]at f;have J:(2:Nat)^k<=32:=by have:=be (n:=2) zz (show k<=5 from zz);omega
      have u:(1:Int)*2^((k:Nat):Int).toNat=((2^k:Nat):Int):=zj
      have z:(0:Int)<=1*2^((k:Nat):Int).toNat:=by rw[u];exact b0 _
      have A:(1:Int)*2^((k:Nat):Int).toNat<9223372036854775808:=by rw[u];omega
      have m:=Tv c (.mo g) (d q) (k:=q) zz;rw[y]at m;refine xh [] [.O1 0 (I (ng c q k:Nat))] rfl (by(and_intros);(all_goals first|exact zk _|((first|exact z|exact A|exact m))))<|aT.hd (gs:=[]) (hs:=[.gI 0]) rfl ⟨⟨rfl,rfl,rfl,rfl,by show 6+((q:Nat):Int).toNat*1+1<=10;omega⟩,trivial⟩<|dS rfl ⟨zz,trivial⟩ ?_;refine⟨q+1,a,zz,aj (ar ?_) eL⟩;have G:((((ng c q k:Nat):Int).toNat ||| ((1:Int)*2^((k:Nat):Int).toNat).toNat:Nat):Int)=((ng c q (k+1):Nat):Int):=by rw[u,ad,ad,f]
      show [(b,cP.cells _ (bK (ju c (.mo g) (d q)) (6+q*1) [I ((((ng c q k:Nat):Int).toNat ||| ((1:Int)*2^((k:Nat):Int).toNat).toNat:Nat):Int)])),_]=_;rw[G,Q0 _ _ _ _ zz,sV _ rfl]
     ·rw[h,<-dl]at w;rw[if_neg w]at f;refine af<|dS rfl ⟨zz,trivial⟩ ?_;refine⟨q+1,a,zz,aj (ar ?_) eL⟩;rw[<-sV (ng c q k) f.symm]
      have:(λj=>if j=q then ng c q k else d q j)=d q:=by
       funext j;by_cases e:j=q
       ·subst e;rw[if_pos rfl,y]
       ·rw[if_neg e]
      rw[this]
    ·simp only[nL]at a;have e:q=c.pe.length:=zz
     subst e
     have F:d c.pe.length=jA c (k+1):=by
      funext j;show (if j<c.pe.length then _ else _)=_;by_cases o:j<c.pe.length
      ·rw[if_pos o]
      ·rw[if_neg o];unfold jA;rw[if_neg o,if_neg o]
     refine ay ⟨(),trivial,aj (ar (by rw[F])) eL⟩
   ·intro _ _;refine dS rfl ⟨zz,trivial⟩ ?_;exact⟨k+1,zz,zz,eL⟩
  ·simp only[nL]at hc;have e:k=c.co.length:=zz
   subst e;exact ay ⟨(),trivial,eL⟩
 ·intro _ _;refine aC rfl<|gm [(2,.po b 0)]<|ae (bB.iA (i:=0) 2 rfl rfl)<|ae (aj (ao (l:=[(2,.pi (ju c (.mo g) (jA c c.co.length)))]) ⟨rfl,trivial⟩) (bB.lN (i:=0) (t:=2) (b:=g) (es:=[]) rfl rfl))<|ae (ao (l:=[(2,LU c)]) ⟨by show AV.pi _=_;simp [Cn],trivial⟩) ?_;exact ab ⟨.inr rfl,_,_,[],rfl,.one (.tmp rfl rfl),rfl,cb _⟩
def B8 (l:List (Int×Int)):List Int:=l.flatMap λx=>[x.1,x.2]
theorem NK (l:List (Int×Int)):(B8 l).length=2*l.length:=by
 unfold B8;induction l with
 |nil=>rfl
 |cons x l a=>grind
theorem Dc: ∀{l:List (Int×Int)} {k:Nat} {x:Int×Int},l[k]? =some x->(B8 l)[2*k]? =some x.1/\(B8 l)[2*k+1]? =some x.2
 |y::l,0,x,h=>by
  simp only[List.getElem?_cons_zero,eT]at h
  subst h;exact⟨rfl,rfl⟩
 |y::l,k+1,x,h=>by
  have:=Dc (l:=l) (k:=k) (by simpa using h)
  exact⟨by rw[show 2*(k+1)=2*k+1+1 from zz];exact this.1,by rw[show 2*(k+1)+1=2*k+1+1+1 from zz];exact this.2⟩
theorem yq {c:lH}(g:c.wf)(l:List (Int×Int))(hl:l.length<=1000000)(h: ∀x∈l,0<=x.2/\x.2<=9223372036854775807):il an 296 [.agg c.enc,ints (B8 l)] [] (λr _=>(fV c l=0/\r= .bZ [LU c,I 0])\/(fV c l≠0/\r= .bZ [.v (.pointer none),I (fV c l)])):=by
 have hc:=Dz c g;have a:fV c l=if (fc c).2.2≠0 then(fc c).2.2 else if l.any (λx=>ah 0 (x.2-1) [x.1])=true then 4 else 0:=rfl
 have i:=NK l;have b:(((B8 l).map λx=>[I x]).length:Int)=2*l.length:=zx
 refine bq afK.ok<|bc [.bW] rfl ⟨⟨rfl,rfl⟩,trivial⟩<|aa (aa ?_);refine iO [.ret (.bZ [I (fc c).1,I (fc c).2.1,I (fc c).2.2])] rfl ⟨hc,trivial⟩<|aa<|cC rfl ?_;by_cases f:(fc c).2.2=0
 case neg=>rw[if_pos f]at a;refine ax rfl zx<|aC rfl ?_;exact ab ⟨.inr rfl,_,.bZ [.v (.pointer none),I (fc c).2.2],[],rfl,.many zq ⟨.tmp rfl rfl,.tmp rfl rfl,trivial⟩,.inr ⟨zx,by rw[a]⟩,cb _⟩
 rw[if_neg (by simp [f])]at a;refine aD rfl (by rw[f];rfl)<|aa (aa ?_);refine cC rfl ?_;let A:Nat->Bool:=λk=>(l.drop k).any (λx=>ah 0 (x.2-1) [x.1]);refine bE (A 0=false) (el [(2,.pi c.enc)]) [] [] ?_ ?_
 ·refine dE (λk:Nat=>k<=l.length/\A 0=A k) (λk=>el [(1,ints (B8 l)),(2,.pi c.enc),(9,I ((2*k:Nat):Int))]) (λk=>l.length-k) 0 ⟨zz,rfl⟩ eL ?_;rintro k ⟨hk,hi⟩;refine aa (aa ?_);refine dS rfl zx<|ag rfl (λe=>?_) (λe=>?_)
  ·simp only[decide_eq_true_eq]at e;rw[b]at e;obtain⟨x,hx⟩:=aL (l:=l) (k:=k) zz;obtain⟨g1,g2⟩:=Dc hx;have j:=h x (bn hx);have d:=lf 0 (x.2-1) [x.1];have hA:A k=(ah 0 (x.2-1) [x.1]||A (k+1)):=by show (l.drop k).any _=_;rw[drop_cons hx,List.any_cons]
   generalize ah 0 (x.2-1) [x.1]=bb at d hA;refine af (aa (au ?_));have m:(((2*k:Nat):Int)+1).toNat=2*k+1:=zz
   refine vj [] [.cells [I x.2],.cells [I x.1],.bW,.ret (B bb)] rfl (by(repeat' (with_reducible apply bs));(all_goals first|exact zk _|((first|exact d|(rw[m,b7,g2];rfl)|(rw[ad,b7,g1];rfl)|(rw[b];omega)|rfl)))) ?_;cases bb with
   |true=>rw[show l.any (λx=>ah 0 (x.2-1) [x.1])=A 0 from rfl,hi,hA,Bool.true_or,if_pos rfl]at a;refine ax rfl rfl<|aC rfl ?_;exact ab ⟨.inr rfl,_,.bZ [.v (.pointer none),I 4],[],rfl,.many zq ⟨.tmp rfl rfl,.tmp rfl rfl,trivial⟩,.inr ⟨by rw[a];decide,by rw[a]⟩,cb _⟩
   |false=>refine aD rfl rfl<|dS rfl (by(and_intros);(all_goals first|exact zk _|((omega)))) ?_;exact⟨k+1,⟨zz,by rw[hi,hA,Bool.false_or]⟩,zz,ao ⟨rfl,rfl,by show I _=I _;congr 2,trivial⟩⟩
  ·simp only[decide_eq_false_iff_not]at e;rw[b]at e;refine ay ⟨(),?_,eL⟩;rw[hi];show (l.drop k).any _=_;rw[drop_nil zz];rfl
 ·intro _ hA;rw[show l.any (λx=>ah 0 (x.2-1) [x.1])=A 0 from rfl,hA,if_neg zq]at a;refine aa (av ?_);refine kL 1 rfl rfl<|ai (bU (Hin:=[]) (H0:=[]) (Sw (FB g f)) rfl rfl (aK _) rfl ?_);rintro r Ho rfl;refine eZ rfl ?_;exact ab ⟨.inr rfl,_,.bZ [LU c,I 0],[],rfl,.many zq ⟨.tmp rfl rfl,.tmp rfl rfl,trivial⟩,.inl ⟨a,rfl⟩,cb _⟩
theorem xL {c:lH}(a:c.wf){l:List (Int×Int)}(h:fV c l=0):c.OK/\ ∀x∈l,ah 0 (x.2-1) [x.1]=false:=by grind [fV,fc,ah,FB]
def rm (l:List Int)(k:Nat):Nat:=(l.take k).foldl (λ(s:Nat) (n:Int)=>s ||| 2^n.toNat) 0
theorem JK {l:List Int}{k:Nat}{n:Int}(h:l[k]? =some n):rm l (k+1)=rm l k ||| 2^n.toNat:=by unfold rm;rw[List.take_add_one,h,Option.toList_some,bt];rfl
theorem Hn {l:List Int}{m:Nat}(h: ∀n∈l,n.toNat<m)(k:Nat):rm l k<2^m:=by
 have key: ∀(l:List Int) (s:Nat),s<2^m->(∀n∈l,n.toNat<m)->l.foldl (λ(s:Nat) (n:Int)=>s ||| 2^n.toNat) s<2^m:=by
  intro l;induction l with
  |nil=>grind
  |cons p x c=>intro s hs h;exact c _ (b8 hs (az zz (h p zj))) (λq b=>h q (by simp [b]))
 exact key _ 0 (cD m) (λn a=>h n (List.mem_of_mem_take a))
theorem UQ (l:List Int)(below:Int)(D:1<=below/\below<=60):Ev an 297 [ints l,I below] (.bZ [I (mL l below).1,I (mL l below).2]):=by
 have f:=lf 0 (below-1) l;have a:mL l below=if ah 0 (below-1) l=true then(0,4)else if (a7 l.length).all (λi=>i==0||decide (l.getD (i-1) 0<l.getD i 0))=false then(0,2)else(((rm l l.length:Nat):Int),0):=by unfold mL rm;rw[List.take_length]
 let A:Nat->Bool:=λk=>(a7 k).all (λi=>i==0||decide (l.getD (i-1) 0<l.getD i 0));have b:ah 0 (below-1) l=false-> ∀n∈l,0<=n/\n<below:=by intro h n c;unfold ah at h;rw[List.any_eq_false]at h;have:=h n c;simp only[cc,decide_eq_true_eq,not_or]at this;omega
 generalize ah 0 (below-1) l=bb at f a b;refine ak adP.ok<|cH 0 rfl λha=>?_;simp only[bA]at ha;refine aC rfl<|aa (aa ?_);refine iO [.ret (B bb)] rfl ⟨⟨zz,zz⟩,f,trivial⟩ ?_;cases bb with
 |true=>
  rw[if_pos rfl]at a;refine ax rfl rfl<|aC rfl<|ab (dm ?_ ?_)
  ·rw[a];rfl
  ·rw[a];rfl
 |false=>
 rw[if_neg zq]at a;have b:=b rfl;have r:=λk=>Hn (l:=l) (m:=60) (λn c=>zx) k;refine aD rfl rfl<|aa (aa ?_);refine cC rfl<|bE (A l.length=true) (el [(4,I (rm l l.length:Nat))]) [] [] ?_ ?_
 ·refine dE (λk:Nat=>k<=l.length/\A k=true) (λk=>el [(0,ints l),(4,I (rm l k:Nat)),(12,ints l),(13,I l.length),(14,I k)]) (λk=>l.length-k) 0 ⟨zz,rfl⟩ (ao ⟨rfl,rfl,rfl,by show I _=I _;simp,rfl,trivial⟩) ?_;rintro k ⟨hk,hi⟩;refine aC rfl<|aa (ag rfl (λhc=>?_) (λhc=>?_))
  ·simp only[nL]at hc;obtain⟨n,c⟩:=aL hc;have y:=b n (bn c)
   have t:A (k+1)=(k==0||decide (l.getD (k-1) 0<n)):=by
    have s:A (k+1)=(A k&&(k==0||decide (l.getD (k-1) 0<l.getD k 0))):=by show (a7 (k+1)).all _=_;rw[bI,List.all_append,cA,cB,cr]
    rw[s,hi,zV c];rfl
   have v:A (k+1)=false->A l.length=false:=by intro h;rw[List.all_eq_false]at h ⊢;obtain⟨j,x,C⟩:=h;exact⟨j,a8.2 (by have:=a8.1 x;omega),C⟩
   refine af<|cX (A (k+1)=true) (el [(0,ints l),(4,I (rm l (k+1):Nat)),(12,ints l),(13,I l.length),(14,I k)]) [] [] ?_ ?_
   ·refine bc [.cells [I n]] rfl ⟨⟨zz,by simp [c]⟩,trivial⟩<|dZ (A (k+1)=true) (el [(0,ints l),(4,I (rm l k:Nat)),(7,I n),(12,ints l),(13,I l.length),(14,I k)]) [] [] ?_ ?_
    ·refine dZ True (el [(0,ints l),(4,I (rm l k:Nat)),(7,I n),(12,ints l),(13,I l.length),(14,I k),(29,B (!(A (k+1))))]) [] [] ?_ ?_
     ·by_cases s:0<k
      ·obtain⟨p,u⟩:=aL (l:=l) (k:=k-1) zz;have q:decide (((k:Nat):Int)>0)=true:=by rw[decide_eq_true_iff];omega
       refine js [(21,true)] [.cells [I p]] rfl (by(and_intros);(all_goals first|exact zk _|((first|exact q|(rw[b7,show (((k:Nat):Int)-1).toNat=k-1 from zz,u];rfl)|(simp;omega))))) ?_;refine⟨(),trivial,ao ⟨rfl,rfl,rfl,rfl,rfl,rfl,?_,trivial⟩⟩;show B _=B _;rw[t,zV u];refine congrArg B ?_;rw[ej];simp;omega
      ·have q:decide (((k:Nat):Int)>0)=false:=by rw[decide_eq_false_iff_not];omega
       refine js [(21,false)] [] rfl (by(and_intros);(all_goals first|exact zk _|((exact q)))) ?_;refine⟨(),trivial,ao ⟨rfl,rfl,rfl,rfl,rfl,rfl,?_,trivial⟩⟩;show B _=B _;rw[t,show k=0 from zz];rfl
     intro _ _;cases hA:A (k+1)with
     |false=>
      rw[show (a7 l.length).all (λi=>i==0||decide (l.getD (i-1) 0<l.getD i 0))=A l.length from rfl,v hA,if_pos rfl]at a;refine ax rfl rfl<|aC rfl<|ab (dm ?_ ?_)
      ·rw[a];rfl
      ·rw[a];rfl
     |true=>exact aD rfl rfl ⟨(),rfl,eL⟩
    intro _ hA;have z:(2:Nat)^n.toNat<2^60:=az zz zz;have d:(1:Int)*2^n.toNat=((2^n.toNat:Nat):Int):=zj
    have g:(0:Int)<=1*2^n.toNat:=by rw[d];exact b0 _
    have o:(1:Int)*2^n.toNat<9223372036854775808:=by rw[d];omega
    have w:=r k;refine dS rfl (by(and_intros);(all_goals first|exact zk _|((first|exact g|exact o)))) ?_;refine⟨(),hA,ao ⟨rfl,?_,rfl,rfl,rfl,trivial⟩⟩;show I _=I _;rw[JK c,d,ad,ad]
   ·intro _ hA;refine dS rfl ⟨zz,trivial⟩ ?_;exact⟨k+1,⟨hc,hA⟩,zz,eL⟩
  ·simp only[nL]at hc;have e:k=l.length:=zz
   subst e;exact ay ⟨(),hi,eL⟩
 ·intro _ hA;rw[show (a7 l.length).all (λi=>i==0||decide (l.getD (i-1) 0<l.getD i 0))=A l.length from rfl,hA,if_neg zq]at a;refine aC rfl<|ab (dm ?_ ?_)
  ·rw[a];rfl
  ·rw[a];rfl
theorem AQ {s k:Nat}(h:s<2^k): ∀d:Nat,cM (s:Nat) (k+d)=cM (s:Nat) k
 |0=>rfl
 |d+1=>by
  rw[<-Nat.add_assoc,ia,AQ h d,UF,Nat.testBit_lt_two_pow (de h (be zz zz))]
  simp
theorem Gf (s n:Nat)(h:s<2^n)(j:n<=60):Ev an 298 [I s] (.aI 3 1 ((cM s n).map λx=>[I x])):=by
 have g:s<2^60:=de h (be zz j);refine ak agY.ok<|aC rfl<|aa (aa ?_);refine cC rfl<|bE True (el [(2,.aI 3 1 ((cM s n).map λx=>[I x]))]) [] [] ?_ ?_
 ·refine dE (λk:Nat=>k<=n) (λk=>el [(0,I s),(2,.aI 3 1 ((cM s k).map λx=>[I x])),(3,I k)]) (λk=>n-k) 0 zz
   (aj (bB.ln (t:=2) 3 1 rfl) eL) ?_
  intro k hk;have a:((s:Nat):Int)/2^((k:Nat):Int).toNat=((s/2^k:Nat):Int):=zj
  have i:s/2^k<=s:=Nat.div_le_self _ _;refine aa (aa ?_);refine dS rfl zx<|ag rfl (λhc=>?_) (λhc=>?_)
  ·simp only[decide_eq_true_eq]at hc;rw[a]at hc
   have c:k<n:=by
    by_cases e:k=n
    ·subst e;rw[Nat.div_eq_of_lt h]at hc;exact absurd hc zq
    ·omega
   refine af (aa (au ?_));refine aa<|dS rfl (by(and_intros);(all_goals first|exact zk _|((rw[a];omega))))<|ag (b:=cN s k) rfl (λf=>?_) (λf=>?_)
   ·have hl:=nG s k;refine iO [.bW] rfl ⟨rfl,⟨by simp only[bA,chunk,ea,er];omega,by simp only[bA,chunk,ea,er];omega⟩,trivial⟩<|dS rfl ⟨zz,trivial⟩ ?_;refine⟨k+1,c,zz,ao ⟨rfl,?_,rfl,trivial⟩⟩;show AV.aI 3 1 _=AV.aI 3 1 _;rw[ia,f,et];rfl
   ·refine af<|dS rfl ⟨zz,trivial⟩ ?_;refine⟨k+1,c,zz,ao ⟨rfl,?_,rfl,trivial⟩⟩;show AV.aI 3 1 _=AV.aI 3 1 _;rw[ia,f];simp
  ·simp only[decide_eq_false_iff_not]at hc;rw[a]at hc
   have hs:s<2^k:=by
    have h0:s/2^k=0:=by generalize s/2^k=q at hc;omega
    rcases Nat.div_eq_zero_iff.1 h0 with h0|h0
    ·exact absurd h0 (Nat.ne_of_gt (cD k))
    ·exact h0
   obtain⟨d,rfl⟩: ∃d,n=k+d:=⟨n-k,zz⟩;rw[AQ hs];exact ay ⟨(),trivial,eL⟩
 ·intro _ _;refine aC rfl ?_;exact ab (fh (.inr rfl) (.aI rfl rfl))
theorem ZT {a b:Nat}(ha:a<2^60)(k:b<2^60):(((((ap 64 a &&& ~~~ ap 64 b).toNat:Nat):Int))==0)=(a &&& b==a):=by
 have g:(ap 64 a).toNat=a:=zx
 have j:(ap 64 b).toNat=b:=zx
 rw[ej,beq_iff_eq,beq_iff_eq];have c:((((ap 64 a &&& ~~~ ap 64 b).toNat:Nat):Int)=0)↔(ap 64 a &&& ~~~ ap 64 b)=0#64:=by rw[<-BitVec.toNat_inj];simp only[BitVec.toNat_ofNat,Nat.zero_mod];omega
 have d:(a &&& b=a)↔ap 64 a &&& ap 64 b=ap 64 a:=zx
 rw[c,d];generalize ap 64 a=x;generalize ap 64 b=y;constructor
 ·intro h;ext i hi
  have:=congrArg (λz=>z.getLsbD i) h;simp only[BitVec.getLsbD_and,BitVec.getLsbD_not]at this;simp only[BitVec.getElem_and];have hx:x.getLsbD i=x[i]:=zx
  have hy:y.getLsbD i=y[i]:=zx
  rw[hx,hy]at this;cases e:x[i]<;>cases f:y[i]<;>simp_all
 ·grind
theorem JO {c:lH}(ok:c.OK)(i words:Nat)(hi:i<c.co.length)(f:words<2^60):Ev an 342 [LU c,I i,I words] (B (ql c i words)):=by
 obtain⟨x,hx⟩:=aL hi;obtain⟨-,⟨w0,w1⟩,-⟩:=ok.co x (bn hx);have e:((c.co.map nU.enc).length:Int)=c.co.length:=zj
 have g:=(kR (n:=c.wo.toNat) (m:=5) (by have:=ok.wo;omega)).2.2;obtain⟨w,a⟩:=Int.eq_ofNat_of_zero_le w0;have d:ql c i words=(words &&& w==words):=by unfold ql;rw[hx];show (words &&& x.wo.toNat==words)=_;rw[a];rfl
 have ha:=ZT f (b:=w) zz;refine ak acG.ok<|aC rfl<|bc [.cells x.enc] rfl zx<|ab (aB ?_);show B _=B _;rw[d,<-ha,show x.wo.toNat=w from zz];rfl
def Bm (c:lH)(p words n:Nat):Nat:=(a7 n).foldl (λs i=>if ((jl c p).testBit i&&ql c i words)=true then s ||| 2^i else s) 0
theorem A0 (c:lH)(p words n:Nat):Bm c p words (n+1)=if ((jl c p).testBit n&&ql c n words)=true then Bm c p words n ||| 2^n else Bm c p words n:=by unfold Bm;rw[bI,bt];rfl
theorem Az (c:lH)(p words:Nat): ∀n:Nat,Bm c p words n<2^n
 |0=>by show 0<1;decide
 |n+1=>by
  have b:=Az c p words n
  have a:(2:Nat)^n<=2^(n+1):=be zz zz
  rw[A0]
  split
  ·exact b8 zz (az zz zz)
  ·omega
theorem HF {c:lH}(ok:c.OK)(p words:Nat)(t:p<c.pe.length)(w:words<2^60):Ev an 299 [LU c,I p,I words] (I (oY c p words:Nat)):=by
 have p3:=ok.p3;have c6:=ok.c6;have m:((c.co.map nU.enc).length:Int)=c.co.length:=zj
 have v:jA c c.co.length p=jl c p:=by unfold jA;rw[if_pos t];rfl
 have q:jl c p<2^6:=wi c p c.co.length c6;have b:=Gw c (.mi []) (jA c c.co.length) (k:=p) zz;rw[v]at b;refine ak afE.ok<|aC rfl<|aC rfl<|aa (aa ?_);refine cC rfl<|bE True (el [(6,I (oY c p words:Nat))]) [] [] ?_ ?_
 ·refine dE (λk:Nat=>k<=c.co.length) (λk=>el [(0,LU c),(1,I p),(2,I words),(6,I (Bm c p words k:Nat)),(7,.fn (.func 342) [LU c] []),(16,I c.co.length),(17,I k)]) (λk=>c.co.length-k) 0 zz
   (ao ⟨rfl,rfl,rfl,rfl,rfl,by show I _=I _;rw[m],rfl,trivial⟩) ?_
  intro k hk;refine aC rfl<|aa (ag rfl (λhc=>?_) (λhc=>?_))
  ·simp only[nL]at hc;have j:=JO ok k words hc w;have d:=A0 c p words k;have s:=Az c p words k;have a:=UF (jl c p) k;have n:(0:Int)<=(jl c p:Nat)/2^((k:Nat):Int).toNat:=ek zz (eM (eP zz));have o:((jl c p:Nat):Int)/2^((k:Nat):Int).toNat<=(jl c p:Nat):=dn _ zz;generalize ql c k words=r at j d;generalize jl c p=l at d a n o q b;refine af (aa (au ?_));refine aC rfl<|dZ True (el [(0,LU c),(1,I p),(2,I words),(6,I (Bm c p words k:Nat)),(7,.fn (.func 342) [LU c] []),(8,I k),(16,I c.co.length),(17,I k),(35,B (l.testBit k&&r))]) [] [] ?_ ?_
   ·unfold cN at a;cases g:l.testBit k with
    |false=>rw[g]at a;refine js [(30,false)] [.pre [I l]] rfl (by(and_intros);(all_goals first|exact zk _|((first|exact a|exact b)))) ?_;exact⟨(),trivial,eL⟩
    |true=>rw[g]at a;refine js [(30,true)] [.pre [I l],.ret (B r)] rfl (by(repeat' (with_reducible apply bs));(all_goals first|exact zk _|((first|exact a|exact b|exact j)))) ?_;exact⟨(),trivial,eL⟩
   intro _ _;cases g:(l.testBit k&&r)with
   |false=>rw[g,if_neg zq]at d;refine aD rfl rfl<|dS rfl ⟨zz,trivial⟩ ?_;exact⟨k+1,hc,zz,ao ⟨rfl,rfl,rfl,by rw[d];rfl,rfl,rfl,rfl,trivial⟩⟩
   |true=>
    rw[g,if_pos rfl]at d;have u:(2:Nat)^k<2^60:=az zz zz;have f:(1:Int)*2^((k:Nat):Int).toNat=((2^k:Nat):Int):=zj
    have h:(0:Int)<=1*2^((k:Nat):Int).toNat:=by rw[f];exact b0 _
    have i:(1:Int)*2^((k:Nat):Int).toNat<9223372036854775808:=by rw[f];omega
    refine ax rfl rfl<|dS rfl (by(and_intros);(all_goals first|exact zk _|((first|exact h|exact i))))<|dS rfl ⟨zz,trivial⟩ ?_;refine⟨k+1,hc,zz,ao ⟨rfl,rfl,rfl,?_,rfl,rfl,rfl,trivial⟩⟩;show I _=I _;rw[d,f,ad,ad]
  ·simp only[nL]at hc;have e:k=c.co.length:=zz
   subst e;exact ay ⟨(),trivial,eL⟩
 ·intro _ _;refine aC rfl<|ab (aB ?_);rfl
end Go.Px
