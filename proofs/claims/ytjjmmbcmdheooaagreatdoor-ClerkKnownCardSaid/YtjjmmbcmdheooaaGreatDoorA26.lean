/- Part 26 of the proof of a statement of this seat (a logic of pure contracts; the functions; their contracts). No conditions. -/
import Derived.Test.YtjjmmbcmdheooaaGreatDoorA25
open And renaming intro->ad
open Bool renaming and_eq_true->bI
open Classical renaming not_not->dk
open Decidable renaming byContradiction->a6
open Go.Proofs.Tryz renaming prog->an
open Int renaming le_refl->b7,not_lt->cB,sub_zero->cR,one_mul->de,toNat->dl
open List renaming length_cons->ap,getElem?_eq_some_iff->az,length_map->a7,getElem?_eq_getElem->a8,mem_singleton->be,getD_cons_zero->bi,length_singleton->bk,mem_of_getElem?->bm,getD_cons_succ->bn,length_append->bs,mem_of_find?_eq_some->bt,mem_cons->bA,map_append->b0,mem_append->b1,mem_iff_getElem?->b3,getD->b8,all_eq_true->cc,not_mem_nil->cr,append_nil->cA,all_cons->cD,mem_map->c7,map->dn
open Option.some renaming injEq->bx
open Prod.mk renaming injEq->cb
open Sum renaming inl->b9,inr->c8
set_option maxRecDepth 20000
set_option maxHeartbeats 16000000
namespace Go.Px
section
open Go.Proofs
variable {a:cE} (ok:a.OK)
include ok
theorem vP:sH a= .inr (a,uE (a.li.su.map (·.nm)) (oP a.li).1):=by have b:=ok.held;unfold sH;rw[if_neg zz]
theorem AJ (ws:List Wd)(n:List Int):kM 168 a ws n (sH a):=by intro b;have d:=ok.held;rw[vP ok];have hh:=QD ok.w.li;rw[d]at hh;have hl:=LV ok;have c:=M8 (all:=a.li.su.map (·.nm)) (l:=(oP a.li).1) hl.1 hl.2 (Hl ok);have hs:=MN (a:=a) b (strs ws) (by have:=ok.li.s5;omega);generalize (oP a.li).1=l at hh c;exact Dm.go adz.ok [(13,[.ev hh]),(17,[.u 0 (cV 0 rfl)]),(21,[.b 0 hs]),(23,[.ev c])] []
theorem Te (ws:List Wd)(n:List Int):kM 169 a ws n (uZ a):=by
 intro b;have d:=(EE ok).1;have e:uZ a= .inr (a,mA (rq a.ch).1):=by unfold uZ;rw[if_neg zz]
 rw[e];have hh:=Rq ok.w.ch;rw[d]at hh;have hl:=(EE ok).2;have c:=xS hl.1 hl.2;generalize (rq a.ch).1=l at hh c;exact Dm.go acX.ok [(13,[.ev hh]),(17,[.u 0 (cV 0 rfl)]),(19,[.ev c])] []
theorem Gj (ws:List Wd)(n:List Int):kM 170 a ws n (oj a):=by
 intro b;have d:=BV ok;have e:oj a= .inr (a,mA [(dP a.tw).1.1,(dP a.tw).1.2]):=by unfold oj;rw[if_neg zz]
 rw[e];have hh:=FX a.tw ok.w.tw;rw[d]at hh;have hl:=Bs ok;have c:=xS (l:=[(dP a.tw).1.1,(dP a.tw).1.2]) zj hl;generalize (dP a.tw).1=l at hh c;obtain⟨lo,hi⟩:=l;exact Dm.go af5.ok [(13,[.ev hh]),(5,[.sh]),(10005,[.i (.gI 1)]),(17,[.u 0 (cV 0 rfl)]),(19,[.i (.at 1)]),(21,[.i (.at 1)]),(23,[.ev c])] []
theorem SD (ws:List Wd)(h:Int):kM 158 a ws [h] (DJ a [h]):=by
 intro b;have hh:=Gp a.dr ok.w.dr (by have:=ok.dr.h4;omega) h;have he:=FM a.dr h;have hx:=λf=>Ha (d:=a.dr) (h:=h) f (ok.e 2 zq);have hs:DJ a [h]=if (iH a.dr h).2≠0 then b9 (iH a.dr h).2 else c8 (a,(a.dr.cs.getD (iH a.dr h).1.toNat ⟨[],[]⟩).nm):=rfl
 rw[hs];generalize (iH a.dr h).1=c at hh hx;generalize (iH a.dr h).2=e at hh he hx;by_cases f:e=0
 ·rw[if_neg zz];subst f;have hx:=hx rfl;refine cq agk.ok (kh [(16,[.ev hh]),(20,[.u 0 (cV 0 rfl)]),(28,[.i (.cells (a.dr.cs.getD c.toNat ⟨[],[]⟩).enc)])]) (lh []) ?_;repeat' first|apply aP|apply aO|apply aN|apply aw|apply ad|(intro g;(try simp only[nL]at g);(try contradiction))
  all_goals try first|exact fo _|exact⟨hx.1,by simp [hx.2]⟩|exact fi _
 ·rw[if_pos f];refine cq agk.ok (kh [(16,[.ev hh]),(20,[.u 0 (cV e (vG he))])]) (lh []) ?_;repeat' first|apply aP|apply aO|apply aN|apply aw|apply ad|(intro g;(try simp only[nL]at g);(try contradiction))
  all_goals try first|exact fo _|exact⟨dT zy rfl⟩|exact fi _
end
theorem vt {a:cE}(w:a.wf)(b:Nat)(ws:List Wd):Dm an 228 [.po b 0] [ck b a (strs ws)] ((cZ a).2==0) (.bZ []) [ck b a (strs ws)] (uw (cZ a).2) (uO b):=by
 have hh:=tW w;have he:=CZ a;generalize (cZ a).1=c at hh;generalize (cZ a).2=e at hh he;refine cq afi.ok (kh [(9,[.ev hh]),(13,[.u 0 (cV e (vG he))])]) (lh []) ?_;repeat' first|apply aP|apply aO|apply aN|apply aw|apply ad|(intro d;(try simp only[nL]at d);(try contradiction))
 all_goals try first|exact fo _|exact⟨dT zy rfl⟩|exact fi _
theorem Xv (l:List ry)(x:ry)(hl:l.length<=1000000):Ev an 314 [pg l,.agg x.enc] (pg (l++[x])):=by have h:=dN (Tf (l.map ry.enc) x zx);rwa [show l.map ry.enc++[x.enc]=(l++[x]).map ry.enc from zj]at h
theorem XS (l:List eY)(x:eY)(hl:l.length<=1000000):Ev an 242 [nk l,.agg x.enc] (nk (l++[x])):=by have h:=dN (Re (l.map eY.enc) x zx);rwa [show l.map eY.enc++[x.enc]=(l++[x]).map eY.enc from zj]at h
theorem YC (l:List vA)(x:vA)(hl:l.length<=1000000):Ev an 315 [oT l,.agg x.enc] (oT (l++[x])):=by have h:=dN (QC (l.map vA.enc) x zx);rwa [show l.map vA.enc++[x.enc]=(l++[x]).map vA.enc from zj]at h
theorem Xt (l:List DX)(x:DX)(hl:l.length<=1000000):Ev an 249 [uP l,.agg x.enc] (uP (l++[x])):=by have h:=dN (Tw (l.map DX.enc) x zx);rwa [show l.map DX.enc++[x.enc]=(l++[x]).map DX.enc from zj]at h
theorem Yc (l:List nU)(x:nU)(hl:l.length<=1000000):Ev an 226 [ky l,.agg x.enc] (ky (l++[x])):=by have h:=dN (Qv (l.map nU.enc) x zx);rwa [show l.map nU.enc++[x.enc]=(l++[x]).map nU.enc from zj]at h
theorem X9 (l:List qh)(x:qh)(hl:l.length<=1000000):Ev an 238 [lE l,.agg [bg x.nm,ints x.ed]] (lE (l++[x])):=by have h:=dN (P2 (l.map qh.enc) x zx);rwa [show l.map qh.enc++[[bg x.nm,ints x.ed]]=(l++[x]).map qh.enc from zj]at h
theorem Xp (l:List (List Wd))(x:List Wd)(hl:l.length<=1000000):Ev an 227 [Bo l,strs x] (Bo (l++[x])):=by have h:=dN (Qg (l.map λx=>[strs x]) x zx);rwa [show (l.map λx=>[strs x])++[[strs x]]=(l++[x]).map λx=>[strs x]from zj]at h
theorem ot {a:cE}{r:iM}(h:(cZ a).2=0):kt a r=r:=if_neg zz
theorem lZ {a:cE}{r:iM}(h:(cZ a).2≠0):kt a r= .inl (cZ a).2:=if_pos h
abbrev BX (a:cE)(x y:Int)(same:Bool):cE:={a with tw:={a.tw with fr:=a.tw.fr++[⟨x,y,same⟩]}}
theorem K7 {a:cE}(ok:a.OK)(ws:List Wd){x y:Int}(same:Bool)(b:Nat):
  Dm an 243 [.po b 0,ints [x,y],B same] [ck b a (strs ws)] (xG a [x,y] same).is (bg (xG a [x,y] same).Ze) [ck b ((xG a [x,y] same).Zf a) (strs ws)] (uw (xG a [x,y] same).err) (uO b):=by
 have d:(BX a x y same).wf:={ok.w with tw:={ok.w.tw with}}
 have hd:=vt d b ws
 have c:=Cy _ d.tw
 have g:=Xv a.tw.fr ⟨x,y,same⟩ (by have:=(tM ok).1.GO;omega)
 have hs:xG a [x,y] same=kt (BX a x y same) (.inr (BX a x y same,mA [(gq (BX a x y same).tw).2.1])):=rfl
 have f:=xS (l:=[(gq (BX a x y same).tw).2.1]) zj (by intro v i;rw[be.1 i];have:=Dq _ d.tw;omega)
 rw[hs]
 by_cases e:(cZ (BX a x y same)).2=0
 ·rw[ot e]
  generalize (gq (BX a x y same).tw).2.1=many at c f
  generalize (gq (BX a x y same).tw).1=f1 at c
  generalize (gq (BX a x y same).tw).2.2=f2 at c
  exact Dm.go ag1.ok [(25,[.ev g]),(31,[.u 0 hd]),(38,[.ev c]),(44,[.ev f])] []
 ·rw[lZ e]
  refine cq ag1.ok (kh [(25,[.ev g]),(31,[.u 0 hd])]) (lh []) ?_
  repeat' first|apply aP|apply aO|apply aN|apply aw|apply ad|(intro h;(try simp only[nL]at h);(try contradiction))
  all_goals try first|exact fo _|exact⟨dj zy⟩|exact fi _
theorem QS {a:cE}(ok:a.OK)(ws:List Wd)(x y:Int):kM 160 a ws [x,y] (xG a [x,y] true):=by
 intro b;have h:=K7 ok ws (x:=x) (y:=y) true b;generalize xG a [x,y] true=r at h;refine cq acV.ok (kh [(7,[.u 0 h])]) (lh []) ?_;repeat' first|apply aP|apply aO|apply aN|apply aw|apply ad|(intro c;(try simp only[nL]at c);(try contradiction))
 all_goals try first|exact fo _|exact⟨dj zy⟩|exact fi _
theorem OV {a:cE}(ok:a.OK)(ws:List Wd)(x y:Int):kM 161 a ws [x,y] (xG a [x,y] false):=by
 intro b;have h:=K7 ok ws (x:=x) (y:=y) false b;generalize xG a [x,y] false=r at h;refine cq acR.ok (kh [(7,[.u 0 h])]) (lh []) ?_;repeat' first|apply aP|apply aO|apply aN|apply aw|apply ad|(intro c;(try simp only[nL]at c);(try contradiction))
 all_goals try first|exact fo _|exact⟨dj zy⟩|exact fi _
variable {a:cE}
abbrev GW (a:cE)(x y b:Int):cE:={a with li:={a.li with wo:=a.li.wo++[⟨b,x,y,-1,true⟩]}}
theorem rj {a:cE}(w:a.wf)(h:(cZ a).2=0):a.OK:=⟨w,h⟩
theorem wT (ok:a.OK)(ws:List Wd)(x z y:Int)(c:Int)(b:Nat):
  Dm an 244 [.po b 0,ints [x,z,y],I c] [ck b a (strs ws)] (kO a [x,z,y] c).is (bg (kO a [x,z,y] c).Ze) [ck b ((kO a [x,z,y] c).Zf a) (strs ws)] (uw (kO a [x,z,y] c).err) (uO b):=by
 have w6:=ok.li.w6
 have f:(GW a x y c).wf:={ok.w with li:={ok.w.li with wn:=by simp;omega}}
 have hd:=vt f b ws
 have g:=YC a.li.wo ⟨c,x,y,-1,true⟩ zz
 have hs:kO a [x,z,y] c=kt (GW a x y c) (sH (GW a x y c)):=rfl
 rw[hs]
 by_cases d:(cZ (GW a x y c)).2=0
 ·rw[ot d]
  have hh:=AJ (rj f d) ws [] b
  rw[vP (rj f d)]at hh ⊢
  generalize uE _ _=r at hh ⊢
  refine cq aeW.ok (kh [(22,[.ev g]),(28,[.u 0 hd]),(30,[.u 0 hh])]) (lh []) ?_
  repeat' first|apply aP|apply aO|apply aN|apply aw|apply ad|(intro e;(try simp only[nL]at e);(try contradiction))
  all_goals try first|exact fo _|exact⟨dj zy⟩|exact fi _
 ·rw[lZ d]
  refine cq aeW.ok (kh [(22,[.ev g]),(28,[.u 0 hd])]) (lh []) ?_
  repeat' first|apply aP|apply aO|apply aN|apply aw|apply ad|(intro e;(try simp only[nL]at e);(try contradiction))
  all_goals try first|exact fo _|exact⟨dj zy⟩|exact fi _
theorem YQ (ok:a.OK)(ws:List Wd)(x z y:Int):kM 162 a ws [x,z,y] (kO a [x,z,y] 0):=by
 intro b;have h:=wT ok ws x z y 0 b;generalize kO a [x,z,y] 0=r at h;refine cq agF.ok (kh [(7,[.u 0 h])]) (lh []) ?_;repeat' first|apply aP|apply aO|apply aN|apply aw|apply ad|(intro c;(try simp only[nL]at c);(try contradiction))
 all_goals try first|exact fo _|exact⟨dj zy⟩|exact fi _
theorem Uw (ok:a.OK)(ws:List Wd)(x z y:Int):kM 163 a ws [x,z,y] (kO a [x,z,y] 1):=by
 intro b;have h:=wT ok ws x z y 1 b;generalize kO a [x,z,y] 1=r at h;refine cq acS.ok (kh [(7,[.u 0 h])]) (lh []) ?_;repeat' first|apply aP|apply aO|apply aN|apply aw|apply ad|(intro c;(try simp only[nL]at c);(try contradiction))
 all_goals try first|exact fo _|exact⟨dj zy⟩|exact fi _
theorem O9 (ok:a.OK)(ws:List Wd)(x z y:Int):kM 164 a ws [x,z,y] (kO a [x,z,y] 2):=by
 intro b;have h:=wT ok ws x z y 2 b;generalize kO a [x,z,y] 2=r at h;refine cq aeO.ok (kh [(7,[.u 0 h])]) (lh []) ?_;repeat' first|apply aP|apply aO|apply aN|apply aw|apply ad|(intro c;(try simp only[nL]at c);(try contradiction))
 all_goals try first|exact fo _|exact⟨dj zy⟩|exact fi _
theorem KA (ok:a.OK)(ws:List Wd)(x z y:Int):kM 165 a ws [x,z,y] (kO a [x,z,y] 3):=by
 intro b;have h:=wT ok ws x z y 3 b;generalize kO a [x,z,y] 3=r at h;refine cq aeQ.ok (kh [(7,[.u 0 h])]) (lh []) ?_;repeat' first|apply aP|apply aO|apply aN|apply aw|apply ad|(intro c;(try simp only[nL]at c);(try contradiction))
 all_goals try first|exact fo _|exact⟨dj zy⟩|exact fi _
section
theorem xf (s:Int): ∀(n:Nat),∀v∈cM s n,0<=v/\v.toNat<n
 |0,v,hv=>by simp [cM]at hv
 |n+1,v,hv=>by
  rw[ia]at hv
  rcases b1.1 hv with hv|hv
  ·have:=xf s n v hv;omega
  ·split at hv
   ·simp only[be]at hv;omega
   ·cases hv
variable {a:cE} (ok:a.OK)
include ok
theorem LS:(a.ix.length:Int)=a.ch.wo:=by have h:=ok.e 5 zq;exact a6 λe=>by rw[Ba e]at h;cases h
theorem U9: ∀w∈a.ix,cG [w]=0:=by have h:=ok.e 5 zq;have h:(if (a.ix.length:Int)≠a.ch.wo then(3:Int)else(aA (OR a) a.ix.length 0).2)=0:=h;rw[if_neg (by simpa using LS ok)]at h;intro w c;obtain⟨j,b⟩:=b3.1 c;have:=eQ.1 h j (az.1 b).1;unfold OR at this;rw[b]at this;simp only at this;exact a6 λe=>by rw[if_pos e]at this;cases this
theorem Qy: ∀w∈a.ix,w.length<=16:=by intro w b;have h:=(kE.1 (U9 ok w b)).2;simp only[jb,cD,List.all_nil,Bool.and_true,rL,bI,decide_eq_true_eq]at h;omega
theorem le_eq:a.le.length=a.ch.co.length:=by have h:=ok.e 6 zq;exact a6 λe=>by rw[GG zz]at h;cases h
theorem L6: ∀l∈a.le,cG l=0:=by have h:=ok.e 6 zq;have h:(if a.le.length≠a.ch.co.length then(3:Int)else(aA (Ot a) a.le.length 0).2)=0:=h;rw[if_neg (by simpa using le_eq ok)]at h;intro l hl;obtain⟨j,c⟩:=b3.1 hl;have b:=(az.1 c).1;have:=eQ.1 h j b;unfold Ot at this;rw[c,a8 (show j<a.ch.co.length by have:=le_eq ok;omega)]at this;simp only at this;exact a6 λe=>by rw[if_pos e]at this;exact e this
theorem Tr (p n:Int):(vk a.ch p n).1.length<=1000/\ ∀i∈(vk a.ch p n).1,0<=i/\i.toNat<a.ix.length:=by
 have d:=ok.ch.wo;have he:=LS ok;have b:([]:List Int).length<=1000/\ ∀i∈([]:List Int),0<=i/\i.toNat<a.ix.length:=⟨zj,zj⟩;unfold vk;repeat' split
 all_goals try exact b
 rename_i s _;refine⟨by have:=nG (s:Nat) a.ch.wo.toNat;simp only;omega,λv c=>?_⟩;have:=xf _ _ v c;omega
theorem LW (p:Int)(l:List Int):(oQ a.ch p l).1.length<=6/\ ∀i∈(oQ a.ch p l).1,0<=i/\i.toNat<a.ch.co.length:=by
 have c:=ok.ch.c6;unfold oQ;split
 ·exact⟨zj,zj⟩
 split
 ·exact⟨zj,zj⟩
 refine⟨?_,λv b=>xf _ _ v b⟩;have:=nG ((oY a.ch p.toNat (mL l a.ch.wo).1.toNat:Nat):Int) a.ch.co.length;simp only;omega
end
section
theorem lB.pi {env:Env}{H:Heap}: ∀{cs d:List AV},fN (lB env H) cs d->lB env H (.pi cs) (.pi d):=by
 intro cs d h C D a w S L hs v g;simp only[aR]at g ⊢;obtain⟨b,off,e,f⟩:=g;refine⟨b,off,e,?_⟩;clear e;induction cs generalizing d off with
 |nil=>cases d with
  |nil=>simp only[eO]
  |cons _ _=>exact h.elim
 |cons p cs l=>cases d with
  |nil=>exact h.elim
  |cons q d=>
   simp only[eO]at f ⊢
   obtain⟨⟨c,i,j,k⟩,f⟩:=f
   exact⟨⟨c,(hs.sin.kg).cell _ _ _ i,j,h.1 C D a w S L hs c k⟩,l h.2 _ f⟩
variable {a:cE} (ok:a.OK)
include ok
theorem TR (ws:List Wd)(p n:Int)(c: -9223372036854775808<=n)(f:n<=9223372036854775807):kM 156 a ws [p,n] (Nc a [p,n]):=by
 intro b;have hh:=V1 ok.w.ch p n c f;have he:=Lf a.ch p n;have hl:=Tr ok p n;have d:=M8 hl.1 hl.2 (Qy ok);have hs:Nc a [p,n]=if (vk a.ch p n).2≠0 then b9 (vk a.ch p n).2 else c8 (a,uE a.ix (vk a.ch p n).1):=rfl
 rw[hs];generalize (vk a.ch p n).1=l at hh d;generalize (vk a.ch p n).2=e at hh he;by_cases c:e=0
 ·rw[if_neg zz];subst c;exact Dm.go agT.ok [(19,[.ev hh]),(23,[.u 0 (cV 0 rfl)]),(30,[.ev d])] []
 ·rw[if_pos c];refine cq agT.ok (kh [(19,[.ev hh]),(23,[.u 0 (cV e (vG he))])]) (lh []) ?_;repeat' first|apply aP|apply aO|apply aN|apply aw|apply ad|(intro g;(try simp only[nL]at g);(try contradiction))
  all_goals try first|exact fo _|exact⟨dT zy rfl⟩|exact fi _
omit ok in
theorem Sx (ws:List Wd){i:Int}(b:0<=i)(c:i.toNat<a.ch.co.length):Ev an 232 [I i,.pi [.pi (cU a (strs ws))]] (I (a.ch.co.getD i.toNat ⟨0,0,0,0⟩).nu):=by
 refine dV afL.ok (kh [(11,[.i (.cells (a.ch.co.getD i.toNat ⟨0,0,0,0⟩).enc)])]) (lh []) ?_;repeat' first|apply aP|apply aO|apply aN|apply aw|apply ad|(intro d;(try simp only[nL]at d);(try contradiction))
 all_goals try first|exact fo _|exact⟨b,by simp [c]⟩|exact fi _
omit ok in
theorem Ts {own ix:List Wd}{k:Nat}(h:own.all (λs=>ix.contains s)=true)(hk:k<own.length)(hc:ix.contains (nx own k)=false):False:=by have:=cc.1 h _ (fE hk);rw[hc]at this;cases this
omit ok in
theorem X4 {own ix:List Wd}{k:Nat}(a:(own.take k).all (λs=>ix.contains s)=true)(hk:k<own.length)(hc:ix.contains (nx own k)=true):(own.take (k+1)).all (λs=>ix.contains s)=true:=by rw[List.take_add_one,mX hk,List.all_append,a,Option.toList_some,cD,hc];rfl
omit ok in
theorem TN {own ix:List Wd}{k:Nat}(h:own.all (λs=>ix.contains s)=false)(a:(own.take k).all (λs=>ix.contains s)=true)(hk: ¬k<own.length):False:=by rw[List.take_of_length_le zz,h]at a;cases a
def oJ (ix own:List Wd)(k:Nat):List Int:=((List.range k).filter λi=>own.contains (ix.getD i [])).map λ(i:Nat)=>(i:Int)
omit ok in
theorem My {ix own:List Wd}{k:Nat}(hk:k<ix.length):oJ ix own (k+1)=oJ ix own k++(if own.contains (nx ix k)=true then[(k:Int)]else[]):=by
 unfold oJ;rw[List.range_succ,List.filter_append,b0];have:ix.getD k []=nx ix k:=by simp [nx,b8,hk]
 simp only[List.filter_cons,List.filter_nil,this];split<;>rfl
omit ok in
theorem Pt (ix own:List Wd)(k:Nat):(oJ ix own k).length<=k:=by grind [oJ]
omit ok in
theorem H9 {ix own:List Wd}{k:Nat}(hk:k<ix.length)(h:own.contains (nx ix k)=true):(oJ ix own k).map (λx=>[I x])++[[I (k:Nat)]]=(oJ ix own (k+1)).map λx=>[I x]:=by rw[My hk,if_pos h,b0];rfl
omit ok in
theorem FY {ix own:List Wd}{k:Nat}(hk:k<ix.length)(h:own.contains (nx ix k)=false):(oJ ix own k).map (λx=>[I x])=(oJ ix own (k+1)).map λx=>[I x]:=by rw[My hk,if_neg (by rw[h];decide),cA]
omit ok in
theorem Lz {ix own:List Wd}{k:Nat}{y:List AV}(hk:k<ix.length)(a:ix.length<=5):(((oJ ix own k).map λx=>[I x]).length+[y].length)*8<=140737488355328/\((oJ ix own k).map λx=>[I x]).length+[y].length<=9223372036854775807:=by grind [only,Pt]
omit ok in
theorem Hi {ix own:List Wd}{k:Nat}(hk:k<=ix.length)(h: ¬k<ix.length):ez (ints (oJ ix own k)) (ints (oJ ix own ix.length)):=by
 have:k=ix.length:=zz
 subst this;exact aU _
omit ok in
theorem Oe (l:List Int)(g:Nat)(a:List AV)(f:Int->Int)(c:l.length<=1000000)(h: ∀x∈l,Ev an g (I x::a) (I (f x))):Ev an 231 [ints l,.fn (.func g) [] a] (.aI 3 1 ((l.map f).map λx=>[I x])):=by
 refine dV ag8.ok (kh [(16,[.i (.ret .any)])]) (lh [(0,{n:=l.length,E:=λk=>[(1,.fn (.func g) [] a),(4,.aI 3 1 ((l.take k).map λx=>[I (f x)])),(7,ints l),(8,I l.length),(9,I k)],I:=λk=>True,K:=λk=>[(11,[.i (.cells [I (nx l k)])]),(16,[.i (.ret (I (f (nx l k))))])]})]) ?_;repeat' first|apply aP|apply aO|apply aN|apply aw|apply ad|(intro b;(try simp only[nL]at b);(try contradiction))
 all_goals try exact fi _
 ·exact⟨h _ (fE b)⟩
 ·exact⟨rfl,rfl,by rw[BW b,List.map_map];rfl⟩
omit ok in
theorem yo (T:Nat): ∀l:List Int,(AV.aI T 1 (l.map λx=>[I x])).sW=true
 |[]=>rfl
 |x::l=>yo T l
omit ok in
theorem Aq {f:Wd->List AV}{u v:Wd}{l:List Wd}:(((jH (dn f (u::v::l)) (some (dl 2)) none).length:Nat):Int)=l.length:=by simp [jH]
end
section
variable {a:cE} (ok:a.OK)
include ok
theorem PL (ws:List Wd)(o:2<=ws.length)(g:ws.length<=1000)(p:Int)(m:List Int):kM 154 a ws (p::m) (Df a ws (p::m)):=by
 intro b;rcases ws with _|⟨w0,_|⟨w1,own⟩⟩
 ·simp at o
 ·simp at o
 simp only[ap]at g
 have hs:Df a (w0::w1::own) (p::m)=if own.all (λs=>a.ix.contains s)=false then b9 4 else if (oQ a.ch p (oJ a.ix own a.ix.length)).2≠0 then b9 (oQ a.ch p (oJ a.ix own a.ix.length)).2
  else c8 (a,mA ((oQ a.ch p (oJ a.ix own a.ix.length)).1.map λi=>(a.ch.co.getD i.toNat ⟨0,0,0,0⟩).nu)):=rfl
 rw[hs];have d:a.ix.length<=5:=by have:=ok.ch.wo;have:=LS ok;omega
 by_cases c:own.all (λs=>a.ix.contains s)=false
 ·rw[if_pos c];refine cq afl.ok (kh []) (lh [(0,{n:=own.length,E:=λk=>[(1,ints (p::m)),(2,.pi [.po b 0]),(5,strs own),(18,strs own),(19,I own.length),(20,I k)],I:=λk=>(own.take k).all (λs=>a.ix.contains s)=true,H:=λk=>[ck b a (strs (w0::w1::own))],K:=λk=>[(22,[.i (.cells [bg (nx own k)])]),(30,[.ev (mq a.ix (nx own k))]),(31,[.u 0 (bR (a.ix.contains (nx own k)) 4 rfl zq)])]})]) ?_;repeat' first|exact(TN c zy zy).elim|apply aP|apply aO|apply aN|apply aw|apply ad|(intro f;(try simp only[nL]at f);(try contradiction))
  all_goals try first|exact fo _|exact⟨X4 zy zy zy⟩|exact⟨rfl,Aq⟩|exact⟨dT zy rfl⟩|exact fi _
 ·rw[if_neg c];rw[Bool.not_eq_false]at c;have hh:=SE ok.w.ch p (oJ a.ix own a.ix.length);have he:=GB a.ch p (oJ a.ix own a.ix.length);have hl:=LW ok p (oJ a.ix own a.ix.length);generalize (oQ a.ch p (oJ a.ix own a.ix.length)).1=l at hh hl;generalize (oQ a.ch p (oJ a.ix own a.ix.length)).2=e at hh he;have hc:=Oe l 232 [.pi [.pi (cU a (strs (w0::w1::own)))]] (λi=>(a.ch.co.getD i.toNat ⟨0,0,0,0⟩).nu) zz (λi hi=>Sx _ (hl.2 i hi).1 (hl.2 i hi).2)
  have r:=xS (l:=l.map λi=>(a.ch.co.getD i.toNat ⟨0,0,0,0⟩).nu) (by rw[a7];omega) (λx hx=>by
   obtain⟨i,hi,rfl⟩:=c7.1 hx
   have j:=(hl.2 i hi).2
   have:=(ok.ch.co (a.ch.co[i.toNat]) (List.getElem_mem j)).1
   have q:=ok.ch.la
   simp only[b8,a8 j,Option.getD_some]
   omega)
  by_cases h:e=0
  ·rw[if_neg zz];subst h;refine cq afl.ok (kh [(70053,[.fz 8]),(62,[.ev hh]),(66,[.u 0 (cV 0 rfl)]),(69,[.bo hc]),(70,[.ev r])]) (lh [(0,{n:=own.length,E:=λk=>[(1,ints (p::m)),(2,.pi [.po b 0]),(5,strs own),(18,strs own),(19,I own.length),(20,I k)],I:=λk=>True,H:=λk=>[ck b a (strs (w0::w1::own))],K:=λk=>[(22,[.i (.cells [bg (nx own k)])]),(30,[.ev (mq a.ix (nx own k))]),(31,[.u 0 (bR (a.ix.contains (nx own k)) 4 rfl zq)])]}),(2,{n:=a.ix.length,E:=λk=>[(1,ints (p::m)),(2,.pi [.po b 0]),(5,strs own),(8,.aI 3 1 ((oJ a.ix own k).map λx=>[I x])),(37,strs a.ix),(38,I a.ix.length),(39,I k)],I:=λk=>True,H:=λk=>[ck b a (strs (w0::w1::own))],K:=λk=>[(42,[.i (.cells [bg (nx a.ix k)])]),(46,[.ev (mq own (nx a.ix k))])]})]) ?_;repeat' first|apply aP|apply aO|apply aN|apply aw|apply ad|(intro f;(try simp only[nL]at f);(try contradiction))
   all_goals try first|exact fo _|exact⟨rfl,Aq⟩|exact⟨rfl,rfl,H9 zy zy⟩|exact⟨rfl,rfl,FY zy zy⟩|exact⟨Lz zy d⟩|exact⟨hh,λS t=>fC ⟨aU _,aU _,Hi zy zy,trivial⟩⟩|exact⟨yo _ _⟩|exact⟨lB.fn ⟨lB.pi ⟨lB.po (i:=0) rfl,trivial⟩,trivial⟩⟩|exact⟨dT zy rfl⟩|exact(Ts c zy zy).elim|exact fi _
  ·rw[if_pos h];refine cq afl.ok (kh [(70053,[.fz 8]),(62,[.ev hh]),(66,[.u 0 (cV e (vG he))])]) (lh [(0,{n:=own.length,E:=λk=>[(1,ints (p::m)),(2,.pi [.po b 0]),(5,strs own),(18,strs own),(19,I own.length),(20,I k)],I:=λk=>True,H:=λk=>[ck b a (strs (w0::w1::own))],K:=λk=>[(22,[.i (.cells [bg (nx own k)])]),(30,[.ev (mq a.ix (nx own k))]),(31,[.u 0 (bR (a.ix.contains (nx own k)) 4 rfl zq)])]}),(2,{n:=a.ix.length,E:=λk=>[(1,ints (p::m)),(2,.pi [.po b 0]),(5,strs own),(8,.aI 3 1 ((oJ a.ix own k).map λx=>[I x])),(37,strs a.ix),(38,I a.ix.length),(39,I k)],I:=λk=>True,H:=λk=>[ck b a (strs (w0::w1::own))],K:=λk=>[(42,[.i (.cells [bg (nx a.ix k)])]),(46,[.ev (mq own (nx a.ix k))])]})]) ?_;repeat' first|apply aP|apply aO|apply aN|apply aw|apply ad|(intro f;(try simp only[nL]at f);(try contradiction))
   all_goals try first|exact fo _|exact⟨rfl,Aq⟩|exact⟨rfl,rfl,H9 zy zy⟩|exact⟨rfl,rfl,FY zy zy⟩|exact⟨Lz zy d⟩|exact⟨hh,λS t=>fC ⟨aU _,aU _,Hi zy zy,trivial⟩⟩|exact⟨yo _ _⟩|exact⟨lB.fn ⟨lB.pi ⟨lB.po (i:=0) rfl,trivial⟩,trivial⟩⟩|exact⟨dT zy rfl⟩|exact(Ts c zy zy).elim|exact fi _
end
section
theorem Vu (l:List nU)(g:Nat)(a:List AV)(p:nU->Bool)(c:l.length<=9223372036854775807)(h: ∀x∈l,Ev an g (.agg x.enc::a) (B (p x))):Ev an 233 [ky l,.fn (.func g) [] a] (I (bD p l 0)):=by
 refine dV adI.ok (kh []) (lh [(0,{n:=l.length,E:=λk=>[(0,ky l),(1,.fn (.func g) [] a),(7,I l.length),(8,I k)],I:=λk=>bD p l 0=bD p (l.drop k) k,K:=λk=>[(14,[.i (.cells (nx l k).enc)]),(16,[.i (.ret (B (p (nx l k))))])]})]) ?_;repeat' first|apply aP|apply aO|apply aN|apply aw|apply ad|(intro b;(try simp only[nL]at b);(try contradiction))
 all_goals try first|exact fo _|exact⟨h _ (fE zy)⟩|exact⟨rfl,As zy zy zy⟩|exact⟨Ke zy zy zy⟩|exact⟨rfl,Eg zy zy⟩|exact fi _
theorem KI (x:nU)(p n:Int):Ev an 234 [.agg x.enc,.pi [ints [p,n]]] (B (x.nu==n)):=by exact gA acP.ok [] []
theorem Yl {n p:Int}(a:0<=n)(b:n<9223372036854775808):(0<=n/2^p.toNat/\n/2^p.toNat<9223372036854775808)/\(0:Int)<=1/\(1:Int)<9223372036854775808:=
 ⟨⟨Int.ediv_nonneg a (Int.le_of_lt (Int.pow_pos zz)),Int.lt_of_le_of_lt (Int.ediv_le_self _ a) b⟩,zz,zz⟩
theorem Lj {n p:Int}{c:Bool}(a:0<=n)(d:0<=p)(b:n.toNat.testBit p.toNat=c):ez (B (cN n p)) (B c):=by grind [lM,ez.refl]
theorem Ty {l:List Wd}{z:List AV}(h:List.replicate (l.length:Int).toNat z=[]):ez .nil (strs l):=by
 have:l=[]:=by simpa using h
 subst this;exact gN _
variable {a:cE} (ok:a.OK)
include ok
theorem JB (ws:List Wd)(p n:Int)(q:0<=p/\p<a.ch.pe.length):kM 155 a ws [p,n] (ug a [p,n]):=by
 intro b;have hi:=Vu a.ch.co 234 [.pi [ints [p,n]]] (λx=>x.nu==n) (by have:=ok.ch.c6;omega) (λx _=>KI x p n)
 have hs:ug a [p,n]=if bD (λx=>x.nu==n) a.ch.co 0<0 then b9 4 else if (a.ch.co.getD (bD (λx=>x.nu==n) a.ch.co 0).toNat ⟨0,0,0,0⟩).ma.toNat.testBit p.toNat=false then b9 2
  else c8 (a,ux (a.le.getD (bD (λx=>x.nu==n) a.ch.co 0).toNat [])):=rfl
 rw[hs];have hl:=qt (λx:nU=>x.nu==n) a.ch.co 0 (b7 _);generalize bD (λx=>x.nu==n) a.ch.co 0=i at hi hl;by_cases d:i<0
 ·rw[if_pos d];refine cq af3.ok (kh [(14,[.ev hi]),(17,[.u 0 (bR (decide (i>=0)) 4 rfl zq)])]) (lh []) ?_;repeat' first|exact absurd d (cB.2 zy)|apply aP|apply aO|apply aN|apply aw|apply ad|(intro g;(try simp only[nL]at g);(try contradiction))
  all_goals try first|exact fo _|exact⟨dT zy rfl⟩|exact fi _
 ·rw[if_neg d];obtain⟨_,x,hx,s⟩:=hl zz;rw[cR]at hx;have k:=(az.1 hx).1;rw[show a.ch.co.getD i.toNat ⟨0,0,0,0⟩=x by simp [b8,hx]];obtain⟨l,hl⟩: ∃l,a.le[i.toNat]? =some l:=⟨_,a8 (by rw[le_eq ok];exact k)⟩;rw[show a.le.getD i.toNat []=l by simp [b8,hl]];have f:=kE.1 (L6 ok l (bm hl));have e: ∀w∈l,w.length<=8:=λw r=>by have h:=cc.1 f.2 w r;simp only[rL,bI,decide_eq_true_eq]at h;omega
  have t:=Nat.mul_le_mul_right 9 f.1;have j:=ok.ch.p3;have c:=(ok.ch.co x (bm hx)).2.2.2;have v:=(kR (n:=a.ch.pe.length) (m:=3) j).2.2;have hm:=Yl (n:=x.ma) (p:=p) c.1 zz;cases o:x.ma.toNat.testBit p.toNat with
  |true=>
   rw[if_neg zq];refine cq af3.ok (kh [(14,[.ev hi]),(17,[.u 0 (bR (decide (i>=0)) 4 rfl zq)]),(25,[.i (.cells x.enc)]),(41,[.i (.cells [strs l])]),(52,[.i (.cells [strs l])]),(44,[.i .aI]),(45,[.sT 6]),(54,[.cp 1]),(55,[.fT 1 6]),(56,[.ev (zW l zz (by have:=mf e;omega))]),(34,[.u 0 (bR true 2 rfl zq)])]) (lh []) ?_;repeat' first|exact absurd (cB.1 d) zy|apply aP|apply aO|apply aN|apply aw|apply ad|(intro g;(try simp only[nL]at g);(try contradiction))
   all_goals try first|exact fo _|exact⟨dT zy rfl⟩|exact⟨hm⟩|exact⟨Lj c.1 q.1 o⟩|exact⟨Ty zy⟩|exact fi _
  |false=>
   rw[if_pos rfl];refine cq af3.ok (kh [(14,[.ev hi]),(17,[.u 0 (bR (decide (i>=0)) 4 rfl zq)]),(25,[.i (.cells x.enc)]),(34,[.u 0 (bR false 2 rfl zq)])]) (lh []) ?_;repeat' first|exact absurd (cB.1 d) zy|apply aP|apply aO|apply aN|apply aw|apply ad|(intro g;(try simp only[nL]at g);(try contradiction))
   all_goals try first|exact fo _|exact⟨dT zy rfl⟩|exact⟨hm⟩|exact⟨Lj c.1 q.1 o⟩|exact fi _
end
section
variable {a:cE} (ok:a.OK)
abbrev jF (a:cE)(w:Wd)(os:List Int):cE:={a with dr:={a.dr with hs:=a.dr.hs++[⟨w,os⟩]}}
abbrev Vo (a:cE)(x:eY):cE:={a with tw:={a.tw with ms:=a.tw.ms++[x]}}
include ok
theorem Hq {w:Wd}{os:List Int}(h:w.length<=1000):(jF a w os).wf:={ok.w with dr:={ok.w.dr with hs:=λx hx=>(b1.1 hx).elim (ok.w.dr.hs x) λhx=>by rw[be.1 hx];simp only;omega}}
theorem MQ {x:eY}(h:x.wf):(Vo a x).wf:={ok.w with tw:={ok.w.tw with ms:=λy hy=>(b1.1 hy).elim (ok.w.tw.ms y) λhy=>by rw[be.1 hy];exact h}}
omit ok in
theorem Js {a:cE}(ok:a.OK)(b:a.dr.hs≠[]):(iH a.dr ((a.dr.hs.length:Int)-1)).2=0\/(iH a.dr ((a.dr.hs.length:Int)-1)).2=9:=by
 have h:=ok.e 2 zq;have h:(dH a.dr).2.2=0:=h;have c:0<a.dr.hs.length:=List.length_pos_iff.2 b;unfold iH;rw[if_neg zz,if_neg (by simp [ah];omega)];split
 ·exact .inr rfl
 ·exact .inl rfl
theorem PK (w0 w1:Wd)(ws:List Wd)(x:Int)(os:List Int)(n:w1.length<=1000)(p:os.length<=1000):kM 157 a (w0::w1::ws) (x::os) (GM a (w0::w1::ws) (x::os)):=by
 intro b;have o:=Hq ok (os:=os) n;have hd:=vt o b (w0::w1::ws);have hc:=dN (O7 (os.map λx=>[I x]) (by rw[a7];omega));have m:=X9 a.dr.hs ⟨w1,os⟩ (by have:=ok.dr.h4;omega);have hs:GM a (w0::w1::ws) (x::os)=kt (jF a w1 os) (if (iH (jF a w1 os).dr (((jF a w1 os).dr.hs.length:Int)-1)).2=9 then .inr (jF a w1 os,[45])else .inr (jF a w1 os,((jF a w1 os).dr.cs.getD (iH (jF a w1 os).dr (((jF a w1 os).dr.hs.length:Int)-1)).1.toNat ⟨[],[]⟩).nm)):=rfl;rw[hs];by_cases j:(cZ (jF a w1 os)).2=0
 ·rw[ot j];have f:=rj o j;have g:=Gp (jF a w1 os).dr o.dr (by have:=f.dr.h4;omega) (((jF a w1 os).dr.hs.length:Int)-1);have k:(((jF a w1 os).dr.hs.map qh.enc).length:Int)=(jF a w1 os).dr.hs.length:=by rw[a7]
  have q:(((jF a w1 os).dr.hs.map qh.enc).length:Int)<=4:=by have:=f.dr.h4;omega
  have hx:=λj=>Ha (d:=(jF a w1 os).dr) (h:=(((jF a w1 os).dr.hs.length:Int)-1)) j (f.e 2 zq);rcases Js f zj with h1|h1
  ·have hx:=hx h1;rw[h1]at g ⊢;generalize (iH (jF a w1 os).dr (((jF a w1 os).dr.hs.length:Int)-1)).1=c at g hx;rw[<-k]at g;refine cq afH.ok (kh [(22,[.ev hc]),(24,[.ev m]),(30,[.u 0 hd]),(45,[.ev g]),(58,[.i (.cells (a.dr.cs.getD c.toNat ⟨[],[]⟩).enc)])]) (lh []) ?_;repeat' first|apply aP|apply aO|apply aN|apply aw|apply ad|(intro l;(try simp only[nL]at l);(try contradiction))
   all_goals try first|exact fo _|exact⟨dj zy⟩|exact⟨hx.1,by simp [hx.2]⟩|exact fi _
  ·rw[h1]at g ⊢;generalize (iH (jF a w1 os).dr (((jF a w1 os).dr.hs.length:Int)-1)).1=c at g;rw[<-k]at g;refine cq afH.ok (kh [(22,[.ev hc]),(24,[.ev m]),(30,[.u 0 hd]),(45,[.ev g]),(50,[.ev (zW [] zq zq)])]) (lh []) ?_;repeat' first|apply aP|apply aO|apply aN|apply aw|apply ad|(intro l;(try simp only[nL]at l);(try contradiction))
   all_goals try first|exact fo _|exact⟨dj zy⟩|exact fi _
 ·rw[lZ j];refine cq afH.ok (kh [(22,[.ev hc]),(24,[.ev m]),(30,[.u 0 hd])]) (lh []) ?_;repeat' first|apply aP|apply aO|apply aN|apply aw|apply ad|(intro l;(try simp only[nL]at l);(try contradiction))
  all_goals try first|exact fo _|exact⟨dj zy⟩|exact fi _
end
section
variable {a:cE} (ok:a.OK)
include ok
theorem HG (ws:List Wd)(s v lo hi p:Int)(hx:(⟨s,v,lo,hi,p⟩:eY).wf):kM 159 a ws [s,v,lo,hi,p] (qi a [s,v,lo,hi,p]):=by
 intro b;have hs:qi a [s,v,lo,hi,p]=if (ti a.tw ⟨s,v,lo,hi,p⟩).2≠0 then b9 (ti a.tw ⟨s,v,lo,hi,p⟩).2 else kt (Vo a ⟨s,v,lo,hi,p⟩) (.inr (Vo a ⟨s,v,lo,hi,p⟩,mA (ti a.tw ⟨s,v,lo,hi,p⟩).1)):=rfl
 rw[hs];have hh:=Vy a.tw ok.w.tw ⟨s,v,lo,hi,p⟩;have he:=LQ a.tw ⟨s,v,lo,hi,p⟩;have hl:=QL ok ⟨s,v,lo,hi,p⟩;have f:=xS hl.1 hl.2;have h:=MQ ok hx;have hd:=vt h b ws;have g:=XS a.tw.ms ⟨s,v,lo,hi,p⟩ (by have:=(tM ok).2;omega);generalize (ti a.tw ⟨s,v,lo,hi,p⟩).1=l at hh f;generalize (ti a.tw ⟨s,v,lo,hi,p⟩).2=e at hh he;by_cases c:e=0
 ·rw[if_neg zz];subst c;by_cases c:(cZ (Vo a ⟨s,v,lo,hi,p⟩)).2=0
  ·rw[ot c];refine cq agq.ok (kh [(32,[.ev hh]),(36,[.u 0 (cV 0 rfl)]),(45,[.ev g]),(51,[.u 0 hd]),(53,[.ev f])]) (lh []) ?_;repeat' first|apply aP|apply aO|apply aN|apply aw|apply ad|(intro d;(try simp only[nL]at d);(try contradiction))
   all_goals try first|exact fo _|exact⟨dj zy⟩|exact fi _
  ·rw[lZ c];refine cq agq.ok (kh [(32,[.ev hh]),(36,[.u 0 (cV 0 rfl)]),(45,[.ev g]),(51,[.u 0 hd])]) (lh []) ?_;repeat' first|apply aP|apply aO|apply aN|apply aw|apply ad|(intro d;(try simp only[nL]at d);(try contradiction))
   all_goals try first|exact fo _|exact⟨dj zy⟩|exact fi _
 ·rw[if_pos c];refine cq agq.ok (kh [(32,[.ev hh]),(36,[.u 0 (cV e (vG he))])]) (lh []) ?_;repeat' first|apply aP|apply aO|apply aN|apply aw|apply ad|(intro d;(try simp only[nL]at d);(try contradiction))
  all_goals try first|exact fo _|exact⟨dT zy rfl⟩|exact fi _
abbrev yB (a:cE)(n:Int)(w:vA):cE:={a with li:={a.li with wo:=a.li.wo.set n.toNat {w with ca:=true}}}
omit ok in
theorem M0 (a:cE)(b:Nat)(c:AV): ∀l,a.li.wo.map vA.enc=l->[ck b a c]=[(b,.cells 80 ((a.sh.enc++(strs a.ix::(a.tw.enc++(a.dr.enc++([strs a.li.cl,tj a.li.su,.sl 5 l,uP a.li.pa]++(a.ch.enc++[Bo a.le,I a.ca]))))))++[c]))]:=by rintro _ rfl;rfl
theorem R8 (ws:List Wd)(n:Int)(o:0<=n/\n<=999):kM 166 a ws [n] (CJ a [n]):=by
 intro b
 have hs:CJ a [n]=match a.li.wo[n.toNat]? with
  |none=>.inl 4
  |some w=>if w.ca=true then .inl 5 else kt (yB a n w) (sH (yB a n w)):=rfl
 rw[hs];have m:((a.li.wo.map vA.enc).length:Int)=a.li.wo.length:=by rw[a7]
 cases l:a.li.wo[n.toNat]? with
 |none=>
  have h: ¬n<(a.li.wo.map vA.enc).length:=by have:=List.getElem?_eq_none_iff.1 l;omega
  refine cq agm.ok (kh [(16,[.u 0 (bR false 4 rfl zq)])]) (lh []) ?_;repeat' first|apply aP|apply aO|apply aN|apply aw|apply ad|(intro d;(try simp only[nL]at d);(try contradiction))
  all_goals try first|exact fo _|exact⟨jn (decide_eq_false h)⟩|exact⟨dT zy rfl⟩|exact fi _
 |some w=>
  have f:=(az.1 l).1;have c:n<(a.li.wo.map vA.enc).length:=zz
  dsimp only;cases hc:w.ca with
  |true=>
   rw[if_pos rfl];refine cq agm.ok (kh [(16,[.u 0 (bR true 4 rfl zq)]),(26,[.i (.cells w.enc)]),(30,[.u 0 (bR false 5 rfl zq)])]) (lh []) ?_;repeat' first|apply aP|apply aO|apply aN|apply aw|apply ad|(intro d;(try simp only[nL]at d);(try contradiction))
   all_goals try first|exact fo _|exact⟨jn (decide_eq_true c)⟩|exact⟨jn (by rw[hc];rfl)⟩|exact⟨dT zy rfl⟩|exact fi _
  |false=>
   rw[if_neg zq];have j:(yB a n w).wf:={ok.w with li:={ok.w.li with wn:=by rw[List.length_set];exact ok.w.li.wn}};have hd:=vt j b ws;have k:(yB a n w).li.wo.map vA.enc=(a.li.wo.map vA.enc).set n.toNat (bK w.enc 4 [B true]):=by rw[List.map_set];rfl
   have he:a.li.wo.map vA.enc≠[]:=λe=>by rw[List.map_eq_nil_iff]at e;rw[e]at f;cases f
   by_cases g:(cZ (yB a n w)).2=0
   ·rw[ot g];have hh:=AJ (rj j g) ws [] b;rw[vP (rj j g)]at hh ⊢;generalize uE _ _=r at hh ⊢;refine cq agm.ok (kh [(16,[.u 0 (bR true 4 rfl zq)]),(26,[.i (.cells w.enc)]),(30,[.u 0 (bR true 5 rfl zq)]),(38,[.ev (xT (a.li.wo.map vA.enc) (by rw[a7];have:=ok.li.w6;omega))]),(39,[.sT 38]),(10053,[.i (.stE 1 n.toNat 4 w.enc)]),(54,[.fA 1 0 16]),(55,[.u 0 hd]),(57,[.u 0 hh])]) (lh []) ?_;repeat' first|exact absurd zy he|apply aP|apply aO|apply aN|apply aw|apply ad|(intro d;(try simp only[nL]at d);(try contradiction))
    all_goals try first|exact fo _|exact⟨jn (decide_eq_true c)⟩|exact⟨jn (by rw[hc];rfl)⟩|exact⟨dT zy rfl⟩|exact⟨dj zy⟩|exact⟨(M0 (yB a n w) b _ _ k).symm⟩|exact fi _
   ·rw[lZ g];refine cq agm.ok (kh [(16,[.u 0 (bR true 4 rfl zq)]),(26,[.i (.cells w.enc)]),(30,[.u 0 (bR true 5 rfl zq)]),(38,[.ev (xT (a.li.wo.map vA.enc) (by rw[a7];have:=ok.li.w6;omega))]),(39,[.sT 38]),(10053,[.i (.stE 1 n.toNat 4 w.enc)]),(54,[.fA 1 0 16]),(55,[.u 0 hd])]) (lh []) ?_;repeat' first|exact absurd zy he|apply aP|apply aO|apply aN|apply aw|apply ad|(intro d;(try simp only[nL]at d);(try contradiction))
    all_goals try first|exact fo _|exact⟨jn (decide_eq_true c)⟩|exact⟨jn (by rw[hc];rfl)⟩|exact⟨dT zy rfl⟩|exact⟨dj zy⟩|exact⟨(M0 (yB a n w) b _ _ k).symm⟩|exact fi _
end
theorem RT {m:iX}(j:m.wf){n:Int}(h:(pz m n).2=0):(0<=n/\n.toNat<m.su.length)/\0<=(pz m n).1/\(pz m n).1.toNat<m.cl.length:=by
 unfold pz at h ⊢;split at h
 ·rename_i a;exact absurd h a
 rename_i a;rw[if_neg a];split at h
 ·cases h
 rename_i i;rw[if_neg i];obtain⟨ok,b,f⟩:=tq j (dk.1 a);have g:=pq b;have hi:n.toNat<m.su.length:=zz
 refine⟨⟨g.1,hi⟩,?_⟩;obtain⟨_,p,q⟩:=A7 ok f hi
 obtain⟨k,c,d⟩:=uX (s:=(da (aY m (cT m 0)) n.toNat:Nat)) (n:=m.cl.length) zz (by
  have o:((2^m.cl.length:Nat):Int)=2^m.cl.length:=zj
  omega)
 have hm:(k:Int)∈cM (da (aY m (cT m 0)) n.toNat:Nat) m.cl.length:=c7.2 ⟨k,List.mem_filter.2 ⟨List.mem_range.2 c,d⟩,rfl⟩;cases e:cM (da (aY m (cT m 0)) n.toNat:Nat) m.cl.length with
 |nil=>rw[e]at hm;cases hm
 |cons x l=>exact xf _ _ x (by rw[e];simp)
section
variable {a:cE} (ok:a.OK)
abbrev Uv (a:cE)(n pe c:Int):cE:={a with ca:=a.ca-pe,li:={a.li with pa:=a.li.pa++[⟨n,c⟩]}}
theorem U1 (x:DX)(n:Int):Ev an 247 [.agg x.enc,.pi [ints [n]]] (B (x.su==n)):=by exact gA acr.ok [] []
include ok
theorem K9 {n pe c:Int}(b:0<=pe)(d:pe<=a.ca):(Uv a n pe c).wf:={ok.w with
 Xa:=by have:=ok.w.Xa;simp only;omega
 Wz:=by have:=ok.w.Wz;simp only;omega
 li:={ok.w.li with pn:=by have:=ok.li.p5;simp only[bs,bk];omega}}
theorem T9 (ws:List Wd)(n:Int):kM 167 a ws [n] (Oj a [n]):=by
 intro b;have hi:=RX a.li.pa 247 [.pi [ints [n]]] (λx=>x.su==n) (by have:=ok.li.p5;omega) (λx _=>U1 x n)
 have hs:Oj a [n]=if a.li.pa.any (λp=>p.su==n)=true then .inl 5 else if (pz a.li n).2≠0 then .inl (pz a.li n).2 else
  if a.ca<(a.li.su.getD n.toNat ⟨[],0,0⟩).pe then .inl 9 else
  kt (Uv a n (a.li.su.getD n.toNat ⟨[],0,0⟩).pe (pz a.li n).1) (.inr (Uv a n (a.li.su.getD n.toNat ⟨[],0,0⟩).pe (pz a.li n).1,a.li.cl.getD (pz a.li n).1.toNat [])):=rfl
 rw[hs];have hh:=Vl ok.w.li n;have he:=LF a.li n;have j:=λh=>RT ok.w.li (n:=n) h;have k:=ok.w.Xa;have l:=ok.w.Wz;generalize a.li.pa.any (λp=>p.su==n)=any at hi;generalize (pz a.li n).1=c at hh j;generalize (pz a.li n).2=e at hh he j;cases any with
 |true=>
  rw[if_pos rfl];refine cq afB.ok (kh [(15,[.ev hi]),(17,[.u 0 (bR false 5 rfl zq)])]) (lh []) ?_;repeat' first|apply aP|apply aO|apply aN|apply aw|apply ad|(intro f;(try simp only[nL]at f);(try contradiction))
  all_goals try first|exact fo _|exact⟨dT zy rfl⟩|exact fi _
 |false=>
  rw[if_neg zq];by_cases g:e=0
  ·rw[if_neg zz];subst g;obtain⟨⟨n0,n1⟩,c0,c1⟩:=j rfl;obtain⟨x,hx⟩: ∃x,a.li.su[n.toNat]? =some x:=⟨_,a8 n1⟩;rw[show a.li.su.getD n.toNat ⟨[],0,0⟩=x by simp [b8,hx]];have o:=(ok.li.su x (bm hx));by_cases hc:a.ca<x.pe
   ·rw[if_pos hc];have d: ¬a.ca>=x.pe:=zz
    refine cq afB.ok (kh [(15,[.ev hi]),(17,[.u 0 (bR true 5 rfl zq)]),(27,[.ev hh]),(31,[.u 0 (cV 0 rfl)]),(41,[.i (.cells x.enc)]),(51,[.u 0 (bR false 9 rfl zq)])]) (lh []) ?_;repeat' first|apply aP|apply aO|apply aN|apply aw|apply ad|(intro f;(try simp only[nL]at f);(try contradiction))
    all_goals try first|exact fo _|exact⟨dT zy rfl⟩|exact⟨jn (decide_eq_false d)⟩|exact fi _
   ·rw[if_neg hc];have d:a.ca>=x.pe:=zz
    have q:=K9 ok (n:=n) (pe:=x.pe) (c:=c) zz d;have hd:=vt q b ws;have m:=Xt a.li.pa ⟨n,c⟩ (by have:=ok.li.p5;omega);by_cases g:(cZ (Uv a n x.pe c)).2=0
    ·rw[ot g];refine cq afB.ok (kh [(15,[.ev hi]),(17,[.u 0 (bR true 5 rfl zq)]),(27,[.ev hh]),(31,[.u 0 (cV 0 rfl)]),(41,[.i (.cells x.enc)]),(51,[.u 0 (bR true 9 rfl zq)]),(74,[.ev m]),(80,[.u 0 hd]),(88,[.i (.cells [bg (a.li.cl.getD c.toNat [])])])]) (lh []) ?_;repeat' first|apply aP|apply aO|apply aN|apply aw|apply ad|(intro f;(try simp only[nL]at f);(try contradiction))
     all_goals try first|exact fo _|exact⟨dj zy⟩|exact⟨jn (decide_eq_true d)⟩|exact⟨c0,by simp [c1]⟩|exact fi _
    ·rw[lZ g];refine cq afB.ok (kh [(15,[.ev hi]),(17,[.u 0 (bR true 5 rfl zq)]),(27,[.ev hh]),(31,[.u 0 (cV 0 rfl)]),(41,[.i (.cells x.enc)]),(51,[.u 0 (bR true 9 rfl zq)]),(74,[.ev m]),(80,[.u 0 hd])]) (lh []) ?_;repeat' first|apply aP|apply aO|apply aN|apply aw|apply ad|(intro f;(try simp only[nL]at f);(try contradiction))
     all_goals try first|exact fo _|exact⟨dj zy⟩|exact⟨jn (decide_eq_true d)⟩|exact fi _
  ·rw[if_pos g];refine cq afB.ok (kh [(15,[.ev hi]),(17,[.u 0 (bR true 5 rfl zq)]),(27,[.ev hh]),(31,[.u 0 (cV e (vG he))])]) (lh []) ?_;repeat' first|apply aP|apply aO|apply aN|apply aw|apply ad|(intro f;(try simp only[nL]at f);(try contradiction))
   all_goals try first|exact fo _|exact⟨dT zy rfl⟩|exact fi _
end
section
variable {a:cE} (ok:a.OK)
abbrev uz (a:cE)(l:List Wd)(p:Nat):cE:={a with ch:={a.ch with la:=a.ch.la+1,co:=a.ch.co++[⟨a.ch.la+1,(zA (sK a.ix l) 5:Nat),0,1*2^p⟩]},le:=a.le++[l]}
theorem K5 (ix l:List Wd):Yu (Ii ix l)=zA (sK ix l) 5:=by unfold Yu zA Ii;rfl
include ok
theorem HQ {l:List Wd}{p:Nat}:(uz a l p).wf:={ok.w with
 le:=by have:=le_eq ok;have:=ok.ch.c6;simp only[bs,bk];omega
 ch:={ok.w.ch with cn:=by have:=ok.ch.c6;simp only[bs,bk];omega}}
theorem SX (w0 w1 h:Wd)(l:List Wd)(hl:l.length<=1000)(n p:Int)(m:List Int)(x:0<=p/\p<a.ch.pe.length):kM 153 a (w0::w1::h::l) (n::p::m) (CX a (w0::w1::h::l) (n::p::m)):=by
 intro b;have hs:CX a (w0::w1::h::l) (n::p::m)=if (eJ a.sh n l).2.2≠0 then .inl (eJ a.sh n l).2.2 else kt (uz a l p.toNat) (.inr (uz a l p.toNat,mA [a.ch.la+1,(eJ a.sh n l).2.1])):=by rw[show uz a l p.toNat=_ from by unfold uz;rw[<-K5,de]];rfl
 rw[hs];have hc:=dN (Ov (l.map λs=>[bg s]) (by rw[a7];omega));have hh:=SA a.sh ok.w.sh n l;have he:=CE a.sh n l;have q:=GA ok n l;have r:=ok.ch.la;have y:=ok.ch.p3;have j:a.ix.length<=5:=by have:=ok.ch.wo;have:=LS ok;omega
 have g:=DH a.ix l j;have hm:=IN (sK a.ix l);have k:=HQ ok (l:=l) (p:=p.toNat);have hd:=vt k b (w0::w1::h::l);have o:=Yc a.ch.co ⟨a.ch.la+1,(zA (sK a.ix l) 5:Nat),0,1*2^p.toNat⟩ (by have:=ok.ch.c6;omega);have hx:=Xp a.le l (by have:=le_eq ok;have:=ok.ch.c6;omega);generalize (eJ a.sh n l).1=f1 at hh;generalize (eJ a.sh n l).2.1=many at hh q;generalize (eJ a.sh n l).2.2=e at hh he
 have t:=xS (l:=[a.ch.la+1,many]) zj (by
  intro v g
  simp only[bA,cr,or_false]at g
  rcases g with rfl|rfl<;>omega)
 have z:=kR (n:=p.toNat) (m:=3) zz;have d:(0:Int)<=1/\0<=p/\p<64/\(1:Int)*2^p.toNat<9223372036854775808:=⟨zz,x.1,zz,by rw[de];omega⟩;by_cases c:e=0
 ·rw[if_neg zz];subst c;by_cases c:(cZ (uz a l p.toNat)).2=0
  ·rw[ot c];refine cq ae2.ok (kh [(15,[.ev hc]),(26,[.ev hh]),(31,[.u 0 (cV 0 rfl)]),(55,[.ev g]),(56,[.ev hm]),(70,[.ev o]),(82,[.ev hx]),(87,[.u 0 hd]),(88,[.sT 9]),(89,[.i (.at 1)]),(92,[.ev t])]) (lh []) ?_;repeat' first|apply aP|apply aO|apply aN|apply aw|apply ad|(intro f;(try simp only[nL]at f);(try contradiction))
   all_goals try first|exact fo _|exact⟨d⟩|exact⟨dj zy⟩|exact fi _
  ·rw[lZ c];refine cq ae2.ok (kh [(15,[.ev hc]),(26,[.ev hh]),(31,[.u 0 (cV 0 rfl)]),(55,[.ev g]),(56,[.ev hm]),(70,[.ev o]),(82,[.ev hx]),(87,[.u 0 hd])]) (lh []) ?_;repeat' first|apply aP|apply aO|apply aN|apply aw|apply ad|(intro f;(try simp only[nL]at f);(try contradiction))
   all_goals try first|exact fo _|exact⟨d⟩|exact⟨dj zy⟩|exact fi _
 ·rw[if_pos c];refine cq ae2.ok (kh [(15,[.ev hc]),(26,[.ev hh]),(31,[.u 0 (cV e (vG he))])]) (lh []) ?_;repeat' first|apply aP|apply aO|apply aN|apply aw|apply ad|(intro f;(try simp only[nL]at f);(try contradiction))
  all_goals try first|exact fo _|exact⟨dT zy rfl⟩|exact fi _
end
section
theorem lk {o:Bool}{s:Wd}{v:Int}(h:gY a (.num o) s=some (v,0)): -1<=v/\v<=999/\(o=false->0<=v):=by
 unfold gY at h;split at h
 ·cases h
 ·simp only at h
  have d:rH s<=999:=by
   rcases qz s with h1|h1
   ·omega
   ·obtain⟨b,c⟩:=Ef h1;unfold Xc at b;split at b
    ·simp only[bI,decide_eq_true_eq]at b;omega
    ·cases b
  split at h
  ·rename_i h1;simp only[bx,cb]at h;refine⟨zz,zz,λe=>?_⟩;rw[h1.1]at e;cases e
  ·split at h
   ·cases h
   ·simp only[bx,cb]at h;omega
theorem tu {s:Wd}{v:Int}(h:gY a .kV s=some (v,0)):0<=v/\v<a.ch.pe.length:=by
 unfold gY at h;split at h
 ·cases h
 ·simp only at h;split at h
  ·simp at h
  ·rename_i b;simp only[bx,cb]at h;have:=qt (λx=>x==s) (oE a .kV) 0 (b7 _) zz;obtain⟨_,y,hy,_⟩:=this;have:=(az.1 hy).1;have c:(oE a .kV).length=a.ch.pe.length:=rfl;omega
theorem l0 {α:Type}{l:List α}(h:l.length=0):l=[]:=List.length_eq_zero_iff.1 h
theorem l1 {α:Type}{l:List α}(h:l.length=1): ∃x,l=[x]:=List.length_eq_one_iff.1 h
theorem l2 {α:Type}{l:List α}(h:l.length=2): ∃x y,l=[x,y]:=by
 match l,h with
 |[x,y],_=>exact⟨x,y,rfl⟩
theorem l3 {α:Type}{l:List α}(h:l.length=3): ∃x y z,l=[x,y,z]:=by
 match l,h with
 |[x,y,z],_=>exact⟨x,y,z,rfl⟩
theorem l5 {α:Type}{l:List α}(h:l.length=5): ∃x y z u v,l=[x,y,z,u,v]:=by
 match l,h with
 |[x,y,z,u,v],_=>exact⟨x,y,z,u,v,rfl⟩
theorem tf {x:bf}{own:List Wd}(h:dF x own=true):x.ws.length<=own.length/\(x.more=none->own.length=x.ws.length):=by grind [only,B2]
theorem sg {w:Wd}{x:bf}(h:x∈bG w):x∈uY.flatMap (·.2):=by
 unfold bG at h;split at h
 ·rename_i y hy;exact List.mem_flatMap.2 ⟨y,bt hy,h⟩
 ·cases h
variable (ok:a.OK)
include ok
theorem SG {w0:Wd}{own:List Wd}{x:bf}{n:List Int}(hx:x∈bG w0)(o:dF x own=true)(hl:n.length=own.length)
  (c: ∀i,i<own.length->gY a (gS x i) (nx own i)=some (n.getD i 0,0)) (hs: ∀s∈own,s.length<=1000) (h:own.length<=100):kM (jE x.id) a (w0::own) n (yW a (w0::own) n x.id):=by
 obtain⟨f1,f2⟩:=tf o
 have hx:=sg hx
 simp only[uY,List.flatMap_cons,List.flatMap_nil,cA,List.cons_append,List.nil_append,bA,cr,or_false]at hx
 rcases hx with rfl|rfl|rfl|rfl|rfl|rfl|rfl|rfl|rfl|rfl|rfl|rfl|rfl|rfl|rfl|rfl|rfl|rfl
 ·
  match own,n,f1,hl with
  |s1::e::l,[],_,hl=>simp at hl
  |s1::e::l,[_],_,hl=>simp at hl
  |s1::e::l,v1::b::m,_,_=>
   have f:=tu (c 1 zj)
   simp only[ap]at h
   exact SX ok w0 s1 e l zz v1 b m f
 ·
  match own,n,f1,hl with
  |s1::l,[],_,hl=>simp at hl
  |s1::l,v1::m,_,_=>
   simp only[ap]at h
   exact PL ok (w0::s1::l) zj (by simp only[ap];omega) v1 m
 ·
  obtain⟨s1,e,rfl⟩:=l2 (f2 rfl)
  obtain⟨v1,b,rfl⟩:=l2 hl
  exact JB ok _ v1 b (tu (c 0 zj))
 ·
  obtain⟨s1,e,rfl⟩:=l2 (f2 rfl)
  obtain⟨v1,b,rfl⟩:=l2 hl
  have f:=lk (c 1 zj)
  exact TR ok _ v1 b (by simp only[bn,bi]at f;omega) (by simp only[bn,bi]at f;omega)
 ·
  match own,n,f1,hl with
  |s1::l,[],_,hl=>simp at hl
  |s1::l,v1::m,_,hl=>
   simp only[ap]at h hl
   exact PK ok w0 s1 l v1 m (hs s1 zj) zz
 ·
  obtain⟨s1,rfl⟩:=l1 (f2 rfl)
  obtain⟨v1,rfl⟩:=l1 hl
  exact SD ok _ v1
 ·
  obtain⟨s1,e,r,t,s5,rfl⟩:=l5 (f2 rfl)
  obtain⟨v1,b,d,p,q,rfl⟩:=l5 hl
  have g:=lk (c 0 zj)
  have f:=lk (c 1 zj)
  have j:=lk (c 2 zj)
  have h4:=lk (c 3 zj)
  have k:=lk (c 4 zj)
  simp only[bn,bi]at g f j h4 k
  exact HG ok _ v1 b d p q {OS:=by simp only;omega,NN:=by simp only;omega,v0:=by simp only;omega,v1:=by simp only;omega,Ul:=by simp only;omega,lo1:=by simp only;omega,ud:=by simp only;omega,Mr:=by simp only;omega,Ce:=by simp only;omega,Ca:=by simp only;omega}
 ·obtain⟨s1,e,rfl⟩:=l2 (f2 rfl)
  obtain⟨v1,b,rfl⟩:=l2 hl
  exact QS ok _ v1 b
 ·obtain⟨s1,e,rfl⟩:=l2 (f2 rfl)
  obtain⟨v1,b,rfl⟩:=l2 hl
  exact OV ok _ v1 b
 ·obtain⟨v1,b,d,rfl⟩:=l3 (hl.trans (f2 rfl))
  exact YQ ok _ v1 b d
 ·obtain⟨v1,b,d,rfl⟩:=l3 (hl.trans (f2 rfl))
  exact Uw ok _ v1 b d
 ·obtain⟨v1,b,d,rfl⟩:=l3 (hl.trans (f2 rfl))
  exact O9 ok _ v1 b d
 ·obtain⟨v1,b,d,rfl⟩:=l3 (hl.trans (f2 rfl))
  exact KA ok _ v1 b d
 ·
  obtain⟨s1,rfl⟩:=l1 (f2 rfl)
  obtain⟨v1,rfl⟩:=l1 hl
  have g:=lk (c 0 zj)
  simp only[bi]at g
  exact R8 ok _ v1 ⟨g.2.2 trivial,g.2.1⟩
 ·obtain⟨v1,rfl⟩:=l1 (hl.trans (f2 rfl))
  exact T9 ok _ v1
 ·exact AJ ok _ n
 ·exact Te ok _ n
 ·exact Gj ok _ n
end
section
variable {a:cE} (ws0:List Wd) (s:Wd) (b b2 b4 b5 b6:Nat)
theorem VM {H:Heap}{cs f:List AV}{r:Wd}{e j:Int}{h:Heap}(hc:cs.length=27)(hh:h=[])(d:gC a s= .inl e)(k:f=cU a (strs ws0)):
  ∃i c l g,uw e=uw i/\c.length=27/\wc (nP b b2 b4 b5 b6 cs f r j) 0 0 h=nP b b2 b4 b5 b6 c (cU a (strs ws0)) l g/\gC a s= .inl i:=by
 subst hh k
 exact⟨e,cs,r,j,rfl,hc,rfl,d⟩
theorem ZE (h:dL s=false):aJ an none 96 E6 (uN a ws0 s b b2 b4 b5 b6) (el (Cm s b b2 b4 b5 b6)) (nP b b2 b4 b5 b6 (cU a (strs ws0)) (cU a (strs ws0)) [] 0) []:=by
 have c:=jI s;rw[h]at c;have ha:=Cx a h;refine ep [(23,[.ev c]),(24,[.u 0 (bR false 6 rfl zq)])] [] ?_;repeat' first|apply aP|apply aO|apply aN|apply aw|apply ad|(intro d;(try simp only[nL]at d);(try contradiction))
 all_goals try first|exact fo _|exact⟨rfl,rfl,rfl,VM ws0 s b b2 b4 b5 b6 (H:=[]) rfl zy ha rfl⟩|exact fi _
theorem jj {s:Wd}(h:dL s=true):s.length<=70:=by unfold dL at h;simp at h;omega
theorem jh {w:Wd}{x:bf}(h:x∈bG w):x.ws.length<=5:=by
 have h:=sg h;have: ∀y∈uY.flatMap (·.2),y.ws.length<=5:=zq
 exact this x h
variable {s}
theorem aaC {w0:Wd}{own:List Wd}(h:dL s=true)(d:aV 32 s=w0::own)(e:(bG w0).find? (λx=>dF x own)=none):
  aJ an none 96 E6 (uN a ws0 s b b2 b4 b5 b6) (el (Cm s b b2 b4 b5 b6)) (nP b b2 b4 b5 b6 (cU a (strs ws0)) (cU a (strs ws0)) [] 0) []:=by
 have f:=jI s
 rw[h]at f
 have hl:=jj h
 have hs:=my s 32 zz
 rw[d]at hs
 have ha:=Hp a own h d e
 have g:own.length<=1000:=by have:=fK (c:=32) s;rw[d,ap]at this;omega
 have hi:=qp b (bG w0) 88 [.pi [strs own]] (λx=>dF x own) (λx hx=>oi b x own (by have:=jh hx;omega) g)
 have ud:bD (λx=>dF x own) (bG w0) 0= -1:=yb _ (λy hy=>by simpa using List.find?_eq_none.1 e y hy)
 rw[ud]at hi
 refine ep [(23,[.ev f]),(24,[.u 0 (bR true 6 rfl zq)]),(25,[.i (.at 1)]),(27,[.ev hs]),(10029,[.i (.gI 0)]),(30,[.i (.at 1)]),(31,[.ev (oG b)]),(32,[.i (.at 1)]),(35,[.i (.at 0)]),(38,[.i (.op (.sl 3 ((bG w0).map (bf.enc b jE))))]),(39,[.i (.at 1)]),(42,[.i (.at 0)]),(45,[.fz 8]),(46,[.ev hi]),(49,[.u 0 (bR false 6 rfl zq)])] [] ?_
 repeat' first|apply aP|apply aO|apply aN|apply aw|apply ad|(intro j;(try simp only[nL]at j);(try contradiction))
 all_goals try first|exact fo _|exact⟨vy b w0 rfl rfl⟩|exact⟨rfl,rfl,rfl,VM ws0 s b b2 b4 b5 b6 (H:=[]) rfl zy ha rfl⟩|exact⟨rfl⟩|exact⟨aU _⟩|exact fi _
 done
end
section
variable {a:cE} (ok:a.OK) (ws0:List Wd) {s:Wd} (b b2 b4 b5 b6:Nat)
structure nA (a:cE)(x:bf)(own:List Wd)(k:Nat):Prop where
 h: ∀i,i<k->(rX a x own i).isSome=true
theorem nA.on {a:cE}{x:bf}{own:List Wd}{k:Nat}(h:nA a x own k)(hk:(rX a x own k).isSome=true):nA a x own (k+1):=⟨λi hi=>if e:i=k then e▸hk else h.h i zz⟩
theorem nA.zero {a:cE}{x:bf}{own:List Wd}:nA a x own 0:=⟨λi hi=>absurd hi (Nat.not_lt_zero i)⟩
theorem tz {x:bf}{k:Nat}(h:k<x.ws.length):ez (.v (xi (nx x.ws k))) (.v (xi (gS x k))):=by
 have:gS x k=nx x.ws k:=by unfold gS;rw[mX h]
 rw[this];exact aU _
theorem xV {ws:List Kd}{m:Kd}{i k:Nat}(h: ¬k<ws.length):ez (.v (xi m)) (.v (xi (gS ⟨ws,some m,i⟩ k))):=by grind [gS,only,ez.refl]
theorem tY {x:bf}{own:List Wd}{k:Nat}{y:List AV}(hk:k<own.length)(b:own.length<=1000):(((eF a x own k).map λx=>[I x]).length+[y].length)*8<=140737488355328/\((eF a x own k).map λx=>[I x]).length+[y].length<=9223372036854775807:=by grind [only,eF]
theorem pL {x:bf}{own:List Wd}{k:Nat}:(eF a x own k).map (λx=>[I x])++[[I ((rX a x own k).getD (0,0)).1]]=(eF a x own (k+1)).map λx=>[I x]:=by rw[L4,b0];rfl
theorem nJ {x:bf}{own:List Wd}{k:Nat}(h:((rX a x own k).getD (0,0)).2=0):eg a x own k=eg a x own (k+1):=by rw[eg,if_pos h]
theorem nH {x:bf}{own:List Wd}{k:Nat}(h: ¬((rX a x own k).getD (0,0)).2=0):((rX a x own k).getD (0,0)).2=eg a x own (k+1):=by rw[eg,if_neg h]
theorem BR {x:bf}{own:List Wd}{k:Nat}(h:k<=own.length)(b: ¬k<own.length):ez (I (eg a x own k)) (I (eg a x own own.length)):=by
 have:k=own.length:=zz
 subst this;exact aU _
theorem GQ {x:bf}{own:List Wd}{k:Nat}(h:k<=own.length)(b: ¬k<own.length):ez (ints (eF a x own k)) (ints (eF a x own own.length)):=by
 have:k=own.length:=zz
 subst this;exact aU _
theorem SP (a:cE)(k:Kd)(w:Wd):eb ((gY a k w).getD (0,0)).2:=by
 unfold gY;repeat' split
 all_goals first|exact QE|exact WU
theorem zJ (x:bf)(own:List Wd): ∀k,eb (eg a x own k)
 |0=>QE
 |k+1=>by
  rw[eg];split
  ·exact zJ x own k
  ·exact SP _ _ _
theorem xN {own:List Wd}{n:Nat}(h: ∀w∈own,w.length<=n)(k:Nat):(nx own k).length<=n:=by
 by_cases hk:k<own.length
 ·exact h _ (fE hk)
 ·simp [nx,hk];exact Nat.zero_le _
theorem vS {x:bf}{own:List Wd}{k:Nat}(h: ∀i,i<own.length->(rX a x own i).isSome=true)(hk:k<own.length)(b:(gY a (gS x k) (nx own k)).isSome=false):False:=by have:=h k hk;unfold rX at this;rw[b]at this;cases this
theorem MA {x:bf}{own:List Wd}{k:Nat}(h: ¬ ∀i,i<own.length->(rX a x own i).isSome=true)(hi:nA a x own k)(hk: ¬k<own.length):False:=h λi b=>hi.h i zz
theorem F4: ∀{r:iM},r.is=false->r= .inl r.err
 | .inl _,_=>rfl
 | .inr _,h=>by cases h
theorem G3 (a:cE): ∀{r:iM},r.is=true->r= .inr (r.Zf a,r.Ze)
 | .inr _,_=>rfl
 | .inl _,h=>by cases h
theorem TX {cs f:List AV}{r:Wd}{e j:Int}{h:Heap}(hd:uO b h)(d:gC a s= .inl e)(k:f=cU a (strs ws0)):
  ∃i c l g,uw e=uw i/\c.length=27/\wc (nP b b2 b4 b5 b6 cs f r j) 0 1 h=nP b b2 b4 b5 b6 c (cU a (strs ws0)) l g/\gC a s= .inl i:=by
 obtain⟨c,hc,rfl⟩:=hd
 subst k
 exact⟨e,c,r,j,rfl,hc,rfl,d⟩
theorem A2 {α:Type}(p:α->Bool): ∀(l:List α) (k:Int),0<=k->0<=bD p l k->l.find? p=l[(bD p l k-k).toNat]?
 |[],k,_,h=>by simp [bD]at h
 |x::l,k,hk,h=>by
  by_cases a:p x=true
  ·have e:bD p (x::l) k=k:=by simp only[bD,a,if_true]
   rw[e];simp [List.find?,a]
  ·have e:bD p (x::l) k=bD p l (k+1):=by simp only[bD,a,if_false,Bool.false_eq_true]
   rw[e]at h ⊢
   have c:=(qt p l (k+1) zz h).1
   have:=A2 p l (k+1) zz h
   rw[List.find?_cons_of_neg a,this]
   have b:(bD p l (k+1)-k).toNat=(bD p l (k+1)-(k+1)).toNat+1:=zz
   rw[b];simp
theorem fQ {c:UInt8}: ∀{s:Wd} {w:Wd},w∈aV c s->w.length<=s.length
 |[],w,h=>by simp [aV]at h;subst h;simp
 |x::l,w,h=>by
  unfold aV at h
  split at h
  ·rcases bA.1 h with rfl|h
   ·simp
   ·have:=fQ h;simp only[ap];omega
  ·split at h
   ·simp only[be]at h;subst h;simp
   ·rename_i v a e
    rcases bA.1 h with rfl|h
    ·have:=fQ (c:=c) (s:=l) (w:=v) (by rw[e];simp);simp only[ap];omega
    ·have:=fQ (c:=c) (s:=l) (w:=w) (by rw[e];simp [h]);simp only[ap];omega
theorem qg {w0:Wd}{own:List Wd}{x:bf}(a:(bG w0).find? (λx=>dF x own)=some x):0<=bD (λx=>dF x own) (bG w0) 0/\(bG w0)[(bD (λx=>dF x own) (bG w0) 0).toNat]? =some x:=by have b:0<=bD (λx=>dF x own) (bG w0) 0:=(wB _ _ 0 (b7 _)).2 (List.any_eq_true.2 ⟨x,bt a,by simpa using List.find?_some a⟩);have:=A2 (λx=>dF x own) (bG w0) 0 (b7 _) b;rw[a,cR]at this;exact⟨b,this.symm⟩
theorem qd {f:Wd->List AV}{u:Wd}{l:List Wd}:(((jH (dn f (u::l)) (some (dl 1)) none).length:Nat):Int)=l.length:=by simp [jH]
theorem DU {a:cE}{x:bf}{own:List Wd}{k:Nat}(he:eg a x own own.length=0)(hi:k<=own.length)(hk: ¬k<own.length):ez (I (eg a x own k)) (I 0):=by rw[<-he];exact BR hi hk
theorem aap {s:Wd}{ws:List Wd}{c:cE}{a:List AV}{b b2 b4 b5 b6:Nat}{r:Wd}{H:Heap}(d:aV 32 s=ws)(h:H=nP b b2 b4 b5 b6 (cU c (strs ws)) a r 0):H=nP b b2 b4 b5 b6 (cU c (strs (aV 32 s))) a r 0:=by rw[d];exact h
theorem xY {p:AV}{n a:Int}(b:p=I a)(h:a=n):UX p (I n):=by subst b;exact⟨rfl,h⟩
end
end Go.Px
