/- Part 11 of the proof of a statement of this seat (a logic of pure contracts; the functions; their contracts). No conditions. -/
import Derived.Test.YtbpalbakembgiaaGreatDoorA10
set_option linter.all false
open And renaming intro->ad
open Bool renaming eq_iff_iff->bI,not_not->ea,and_eq_true->e5,not_eq_true->e6,or_eq_true->e9
open ByteArray renaming size->a8,mk->bk,extract->cB
open Classical renaming not_not->eS
open Decidable renaming byContradiction->de
open Go.Lib renaming indexAny->c7,cut->e1
open Go.Proofs.Tryz renaming prog->an
open Go.Value renaming bool->fy
open Iff renaming rfl->ht
open Int renaming ofNat_lt->ec,le_refl->ho
open List renaming length_map->ap,range->a6,take_of_length_le->a7,mem_of_getElem?->bm,length_filter_le->bs,map_append->bx,all_eq_true->bA,take_add_one->b1,length_cons->b3,mem_iff_getElem?->b6,length_range->b7,replicate->b8,length_take->b9,drop_eq_getElem_cons->cb,getElem?_eq_some_iff->cc,range_succ->cr,append_ne_nil_of_right_ne_nil->cA,mem_map->cD,getElem?_eq_none->cR,foldl_append->dk,nil_sublist->ds,drop_eq_nil_of_le->ej,headD_cons->ek,length_nil->en,length_replicate->er,perm_append_comm->eu,dropWhile_cons->ew,drop_succ_cons->ey,filter_append->eM,length_append->eP,getElem?_map->e3,cons_ne_nil->e7,append_nil->fe,foldl_cons->ff,mem_append->fj,mem_filter->fk,drop_zero->fv,any_cons->gx,map_map->gX,map_set->hb,getD->hD
open List.Perm renaming of_eq->fb
open List.Sublist renaming refl->az
open List.cons renaming inj->gM
open Nat renaming le_refl->bn,pow_le_pow_right->bt,testBit_lt_two_pow->b4,lt_succ_iff_lt_or_eq->cd,not_lt_zero->fr,le_trans->hf,zero_le->hr,rec->hB
open Option.some renaming inj->hE
open PLift renaming up->e4
open UInt8 renaming toNat_inj->fu
set_option maxRecDepth 100000
set_option maxHeartbeats 40000000
namespace Go.Px
variable {k W Z:Nat}{g:List Wd}{w:Wd}{h:cQ}{j:List Nat}{o:Operand}{q:Int}{v:bC}{z:be}{A:List Sp}{E:Env}{G:Type}
open Go.Proofs
open Go.MapKept
theorem MP (t:be)(u:t.wf):Ev an 81 [.agg t.ao] (.cG [I (gV t).1,I (gV t).2.1,I (gV t).2.2]):=by
 obtain⟨⟨w,x,y⟩,d⟩: ∃r,gV t=r:=⟨_,zz⟩;rw[d];unfold gV at d
 have s:=Q7 t.gK u.gK;have l:(check t.gK).2.2=0->t.gK.ss.length<=1000:=λh=>by have:=(pc.1 h).Xq;omega
 obtain⟨c,hc⟩: ∃c,check t.gK=c:=⟨_,zz⟩;rw[hc]at d s l
 obtain⟨A,a0,a1,e,f⟩:=fO (kq t) t.ms.length;obtain⟨C,c0,c1,g,j⟩:=fO (kA t) t.dN.length
 generalize aB (kq t) t.ms.length 0=p at *;generalize aB (kA t) t.dN.length 0=q at *
 have n1: ∀k,k<t.ms.length->kq t k=nX t (nx t.ms k) k:=λk h=>by unfold kq;rw[bP h]
 have o: ∀k,k<t.dN.length->kA t k=if ae 0 ((t.ms.length:Int)-1) [(nx t.dN k).a]=true\/ae 0 ((t.ms.length:Int)-1) [(nx t.dN k).b]=true then 4 else if (nx t.dN k).a=(nx t.dN k).b then 2 else 0:=λk h=>by unfold kA;rw[bP h];show DE t _=_;unfold DE;rw[Dn];simp only[e9]
 have hm:=JP t
 have m:ae 1 4 [t.tj]=false->1<=t.tj/\t.tj<=4:=λh=>by simp [ae] at h;omega
 have W:=Ob.mk (ad d (ad a1 (ad e (ad f (ad c1 (ad g (ad j (ad n1 o))))))));clear d a1 e f c1 g j n1 o
 refine di S81.ok (kh [(14,[.ev s]),(23,[.ev (cO t.tj 1 4)])]) (lh [(0,{n:=t.ms.length,E:=λk=>[(1,.pi t.ao),(8,I k)],I:=A,K:=λk=>[(40,[.i (.cells (nx t.ms k).ao)]),(43,[.i (.ret (I (nX t (nx t.ms k) k)))])]}),(2,{n:=t.dN.length,E:=λk=>[(1,.pi t.ao),(9,I k)],I:=C,K:=λk=>[(62,[.i (.cells (nx t.dN k).ao)]),(64,[.fz 10]),(70,[.ev (cO (nx t.dN k).a 0 (((t.ms.map fw.ao).length:Int)-1))]),(79,[.ev (cO (nx t.dN k).b 0 (((t.ms.map fw.ao).length:Int)-1))])]})]) ?_
 repeat' first|apply aN|apply aM|apply aL|apply ax|apply ad|(intro v;(try simp only[nL]at v);(try contradiction))
 all_goals try first|exact fo _|exact⟨af,mR af⟩|exact⟨hm _ _ (by have:=m bB;omega) (by have:=m bB;omega) af (l (by simpa using bB))⟩|exact fi _
 all_goals (obtain⟨d,a1,e,f,c1,g,j,n1,o⟩:=W.h;clear W hm l m u;refine Ob.mk ?_;first|(refine⟨rfl,?_⟩;grind)|grind)
theorem Fp (t:be)(i:Nat)(l:List Nat)(v:Int):BG t (i::l) v=if (t.m i).v≠ -1/\v≠ -1/\(t.m i).v≠v then false else BG t l (max v (t.m i).v):=rfl
theorem F2 (t:be)(p:List Nat)(a:Nat): ∀k,gD t p k a=(Z6 p a k).foldl (λs i=>(max s.1 (t.m i).lo,min s.2 (t.m i).hi)) (0,199)
 |0=>rfl
 |k+1=>by rw[od,Jc,dk,<-F2 t p a k];by_cases e:aP p k=a;rw[zy e,zy (by rw[beq_iff_eq];exact e)];rfl;rw[zj e,zj (by rw[beq_iff_eq];exact e)];rfl
structure BW (n:Int)(w:Nat)(b:List Sp):Prop where
 len:b.length=w
 bd: ∀k,sJ n (cK b k)
theorem BW.mono {n m:Int}{w:Nat}{b:List Sp}(h:BW n w b)(a:n<=m):BW m w b:=⟨h.len,λk=>xJ a (h.bd k)⟩
theorem BW.step {n:Int}{w:Nat}{b:List Sp}(h:BW n w b)(a:0<=n){x y:Nat}(hx:x<w)(hy:y<w):BW (n+60) w (gj b x y):=by
 have hl:=h.len;refine⟨by rw[tk];exact hl,λk=>?_⟩;unfold gj;rw[pA _ _ _ _ (by simpa using af),pA _ _ _ _ af];have e:=h.bd x;have c:=h.bd y;have d:=h.bd k;unfold sJ kw iJ at*
 split;simp only;omega;split;simp only;omega;omega
theorem Xi {t:be}(h:t.OK)(p:List Nat)(w:Nat):BW 199 w (jo t p w):=by
 refine⟨gq t p w,λk=>?_⟩;by_cases hk:k<w;rw[zB t p hk];have:=AG h p k t.ms.length (bn _);unfold sJ;omega;have e:cK (jo t p w) k=(0,0):=by unfold cK;rw[cR (by rw[gq];omega)];rfl
 rw[e];unfold sJ;simp
theorem UT {ks:List (Nat×Nat)}{w:Nat}{b:List Sp}(h:BW 199 w b)(hk: ∀k∈ks,k.1<b.length/\k.2<b.length)(he:bR (aV ks (b,false)).1=false):BW 199 w (aV ks (b,false)).1:=by
 obtain⟨s1,_⟩:=iv ks b false hk;refine⟨by rw[fF];exact h.len,λk=>?_⟩;by_cases a:k<w;have d:=oV he (k:=k) (by rw[fF,h.len];exact a);have c:=s1.2 k;have f:=h.bd k;unfold Bp at c;unfold sJ at*
 omega
 have e:cK (aV ks (b,false)).1 k=(0,0):=by unfold cK;rw[cR (by rw[fF,h.len];omega)];rfl
 rw[e];unfold sJ;simp
structure QP (t:be)(p:List Nat)(b:List Sp)(more:Bool):Prop where
 len:b.length=eW p
 bw:bR b=false->BW 199 (eW p) b
 go:more=true->dH t p (eW p)=lJ (kids t.ms p) b
 end_:more=false->dH t p (eW p)=b
theorem QP.done {t:be}{p:List Nat}{b:List Sp}{more:Bool}(h:QP t p b more)(hc:(more&& !bR b)=false):dH t p (eW p)=b:=by
 cases more with
 |false=>exact h.end_ zz
 |true=>rw[h.go zz];exact oK (by simpa using hc)
theorem QP.next {t:be}(h:t.OK){p:List Nat}(hg:yI t.ms.length p)(hk:Ai t p){b:List Sp}(hi:QP t p b true)(d:bR b=false):
  QP t p (aV (kids t.ms p) (b,false)).1 (aV (kids t.ms p) (b,false)).2/\
  (if ((aV (kids t.ms p) (b,false)).2&& !bR (aV (kids t.ms p) (b,false)).1)=true then gb (aV (kids t.ms p) (b,false)).1+1 else 0)<gb b+1:=by
 have a: ∀k∈kids t.ms p,k.1<b.length/\k.2<b.length/\k.1≠k.2:=by have:=zc h hg hk (w:=eW p) (bn _);rw[gq]at this;rw[hi.len];exact this
 have c: ∀k∈kids t.ms p,k.1<b.length/\k.2<b.length:=λk hk=>⟨(a k hk).1,(a k hk).2.1⟩;have e:=hi.go zz;refine⟨⟨by rw[fF];exact hi.len,λhe=>UT (hi.bw d) c he,λhm=>?_,λhm=>?_⟩,?_⟩;rw[e,tQ a d hm];rw[e,uJ d hm];split;rename_i hm;rw[e5,Bool.not_eq_true']at hm;have:=A0 a hm.1 hm.2;omega;omega
def tV (l:List Int):Nat->Bool:=λi=>l.any (·==(i:Int))
theorem yZ (q:Nat->Bool): ¬dj q=[]:=λh=>by have:=vC q;rw[h]at this;simp at this
theorem BT:b8 (3125:Int).toNat ([fy false].map AV.v)=dj λ_=>false:=My
theorem EC (b:dy)(D:b.n.toNat<=4)(a1:0<=b.n)(s:cL)(a:iB)(a0:0<=s.a)(ha:b.al[s.a.toNat]? =some a)(hl:adO a.ls)(a2:s.t.length<=5)(p: ∀c∈s.t,0<=cT a.ls c.toNat):
  Ev an 406 [.agg b.ao,.agg s.ao] (.aT 4 1 (dj (xw b.n.toNat (s.t.map λc=>oh a.ls c.toNat)))):=by
 obtain⟨X,N⟩: ∃X:Nat->bc, ∀i,oh a.ls (nx s.t i).toNat=X i:=⟨_,λ_=>rfl⟩
 have Z: ∀i,i<s.t.length->0<=cT a.ls (nx s.t i).toNat/\(a.ls.map bc.ao)[(cT a.ls (nx s.t i).toNat).toNat]? =some (X i).ao/\0<=(X i).s/\(X i).s<9223372036854775808:=λi h=>by
  have w:=p _ (dh h);obtain⟨_,x,g,_⟩:=qv _ a.ls 0 aG w;rw[Int.sub_zero]at g;have g:a.ls[(cT a.ls (nx s.t i).toNat).toNat]? =some x:=g
  have e:X i=x:=by rw[<-N];unfold oh;rw[g];rfl
  have:=hl.2 x (bm g);rw[e];exact⟨w,by rw[e3,g];rfl,this.2.2⟩
 obtain⟨P,p0,p1,H,p3⟩: ∃P:Nat->Nat->Bool,P 0=(λc=>c==0)/\(∀i,i<s.t.length->P (i+1)=AP b.n.toNat (X i) (P i))/\(∀i d,P i d=true->i<s.t.length->d<625)/\ ∀i,i<=s.t.length-> ¬i<s.t.length->P i=xw b.n.toNat (s.t.map λc=>oh a.ls c.toNat):=by
  refine⟨λi=>xw b.n.toNat ((s.t.take i).map λc=>oh a.ls c.toNat),zz,λi h=>?_,λi d hd h=>?_,λi _ h=>by dsimp only;rw[a7 af]⟩
  ·dsimp only;rw[b1,bP h,bx,<-N];exact zC _ _ _
  ·have u:=ZN D _ d hd;rw[ap,b9]at u;have h3:5^(min i s.t.length)<=5^4:=bt (by omega) (by omega);omega
 have e:=p;have y:=λi=>DJ a (nx s.t i).toNat hl.1
 obtain⟨G,g1,g2⟩: ∃G:Nat->Nat->Bool,(∀i j,da (X i).s (j:Nat)=G i j)/\ ∀i j:Nat,i<s.t.length->j<5->Ev an 185 [I (X i).s,I j] (B (G i j)):=⟨λi j=>da (X i).s (j:Nat),λ_ _=>rfl,λi j h _=>by have:=Z i h;dsimp only;rw[<-EW _ _ this.2.2.1];exact TW _ _ this.2.2.1 (by omega) (by omega)⟩
 have m0:(dj λ_=>false).set 0 [B true]=dj (P 0):=by rw[p0];exact(vx (λ_=>false) (m:=0) aG true).trans (ik λc _=>by by_cases e:c=0<;>simp [e])
 have O: ∀i,dj (mZ b.n.toNat (X i) (P i) 0)=dj λ_=>false:=λi=>by rw[Mt]
 have Q: ∀i k,P i k=false->dj (mZ b.n.toNat (X i) (P i) (k+1))=dj (mZ b.n.toNat (X i) (P i) k):=λi k h=>by rw[U1 h]
 have S: ∀i k (v:Bool),k<3125->v=(mZ b.n.toNat (X i) (P i) k k||(X i).q)->(dj (mZ b.n.toNat (X i) (P i) k)).set k [B v]=dj (tn b.n.toNat (X i) (P i) k 0):=λi k v h hv=>(vx _ h v).trans (ik λd _=>by by_cases e:d=k<;>simp [tn,hv,e])
 have T: ∀i k j,k<625->j<b.n.toNat->G i j=true->(dj (tn b.n.toNat (X i) (P i) k j)).set (k*5+j+1) [B true]=dj (tn b.n.toNat (X i) (P i) k (j+1)):=λi k j u M hg=>(vx _ (by omega) true).trans (ik λd _=>by
  rw[<-g1]at hg;unfold tn;by_cases e:d=k*5+j+1
  ·have J:(d-1)/5=k:=by omega
   have o:(d-1)%5=j:=by omega
   rw[zy e,J,o];simp [hg,show 0<d by omega]
  ·rw[zj e];congr 1;by_cases J:0<d/\(d-1)/5=k
   ·have o:decide ((d-1)%5<j+1)=decide ((d-1)%5<j):=by rw[bI];simp;omega
    rw[o]
   ·by_cases w:0<d<;>simp_all)
 have U: ∀i k j,G i j=false->dj (tn b.n.toNat (X i) (P i) k (j+1))=dj (tn b.n.toNat (X i) (P i) k j):=λi k j hg=>ik λd _=>by
  rw[<-g1]at hg;unfold tn;congr 1;by_cases o:(d-1)%5=j
  ·rw[o,hg];simp
  ·have:decide ((d-1)%5<j+1)=decide ((d-1)%5<j):=by rw[bI];simp;omega
   rw[this]
 have V: ∀i k j,P i k=true->j<=b.n.toNat-> ¬j<b.n.toNat->dj (tn b.n.toNat (X i) (P i) k j)=dj (mZ b.n.toNat (X i) (P i) (k+1)):=λi k j h u M=>by rw[Ry h,show j=b.n.toNat by omega]
 have W: ∀i k,i<s.t.length->k<=3125-> ¬k<3125->dj (mZ b.n.toNat (X i) (P i) k)=dj (P (i+1)):=λi k h u M=>by rw[p1 i h,show k=3125 by omega];exact ik λd h=>QO h
 have r:=λq c=>AI (c:=c) q
 generalize xw b.n.toNat (s.t.map λc=>oh a.ls c.toNat)=R at *
 obtain⟨A,hA⟩: ∃A:Nat->Nat->Nat->Bool, ∀i k,mZ b.n.toNat (X i) (P i) k=A i k:=⟨_,λ_ _=>rfl⟩
 obtain⟨C,hC⟩: ∃C:Nat->Nat->Nat->Nat->Bool, ∀i k j,tn b.n.toNat (X i) (P i) k j=C i k j:=⟨_,λ_ _ _=>rfl⟩
 simp only[hA,hC]at O Q S T U V W
 have et: ∀k:Nat,k<s.t.length->s.t[k]? =some (nx s.t k):=λk h=>bP h
 have z:(⟨s.t.toArray⟩:ByteArray).size=s.t.length:=by simp [a8]
 have ga:(b.al.map iB.ao)[s.a.toNat]? =some a.ao:=by simp [ha]
 have F: ¬b8 (3125:Int).toNat ([fy false].map AV.v)=[]:=by rw[BT];exact yZ _
 refine di alq.ok (kh [(13,[.sT 5]),(10014,[.i (.Xo 0 0 0 [B false])]),(6,[.uS 0 5])]) (lh [(0,{n:=s.t.length,E:=λi=>[(2,.pi b.ao),(3,.pi s.ao),(5,.aT 4 1 (dj (P i))),(6,I i)],K:=λi=>[(26,[.i (.cells a.ao)]),(70028,[.fz 7]),(34,[.i (.byte (nx s.t i))]),(35,[.ev (y i)]),(36,[.i (.cells (X i).ao)]),(38,[.fz 8]),(9,[.sT 5,.sT 38]),(20,[.wk 0])],L:=λi=>[(2,{n:=3125,X:=λf c0 d0 l k=>[(2,.pi b.ao),(3,.pi s.ao),(5,.so f (dj (P i)).length c0),(6,I i),(8,.pi (X i).ao),(9,.so d0 3125 l),(10,I k)],Y:=λf c0 d0 l k=>[(f,.arr 4 1 c0 (dj (P i))),(d0,.arr 4 1 l (dj (A i k)))],K:=λk=>[(46,[.i (.elt 0 k 0 [B (P i k)])]),(53,[.i (.elt 1 k 0 [B (A i k k)])]),(10058,[.i (.Xo 1 k 0 [B (A i k k)])])],L:=λk=>[(4,{n:=b.n.toNat,X:=λf c0 d0 l j=>[(2,.pi b.ao),(3,.pi s.ao),(5,.so f (dj (P i)).length c0),(6,I i),(8,.pi (X i).ao),(9,.so d0 3125 l),(10,I k),(11,I j)],Y:=λf c0 d0 l j=>[(f,.arr 4 1 c0 (dj (P i))),(d0,.arr 4 1 l (dj (C i k j)))],K:=λj=>[(68,[.i (.ret (B (G i j)))]),(10075,[.i (.Xo 1 (k*5+j+1) 0 [B (C i k j (k*5+j+1))])])]})]})]})]) ?_
 repeat' first|apply aN|apply aM|apply aL|apply ax|apply ad|(intro hq;(try simp only[nL]at hq);(try contradiction))
 all_goals try first|exact fo _|exact(yZ _ bB).elim|exact(F bB).elim|exact⟨⟨by omega,by simp only[vC,er];omega⟩⟩|exact⟨⟨rfl,by omega,r _ _ af⟩⟩|exact⟨⟨rfl,by omega,r _ _ af,rfl,rfl,rfl,by omega⟩⟩|exact⟨⟨rfl,by omega,by rw[BT];exact r _ _ af,zz,zz,zz,by omega⟩⟩|exact fi _
 all_goals try first|exact⟨by show [_,(_,dp.arr _ _ _ ((dj _).set _ [B _]))]=_;rw[S _ _ _ af (by simp_all)]⟩|exact⟨by show [_,(_,dp.arr _ _ _ ((dj _).set _ [B _]))]=_;rw[T _ _ _ (H _ _ bB af) af bB]⟩|exact⟨by show _=[_,(_,dp.arr _ _ _ (dj (C _ _ (_+1))))];rw[U _ _ _ bB]⟩|exact⟨by show _=[_,(_,dp.arr _ _ _ (dj (A _ (_+1))))];rw[Q _ _ bB]⟩|exact⟨by show _=[_,(_,dp.arr _ _ _ (dj (A _ 0)))];rw[O,<-BT]⟩|exact⟨by have:=H _ _ bB af;omega⟩|exact⟨⟨rfl,by omega,r _ _ (by have:=H _ _ bB af;omega),rfl,rfl,rfl,by omega⟩⟩|exact⟨by show [_,(_,dp.arr _ _ _ (dj (C _ _ _)))]=_;rw[V _ _ _ bB af af]⟩|exact⟨⟨rfl,rfl,W _ _ af af af⟩⟩|exact⟨g2 _ _ af (by omega)⟩
theorem ZP {b:dy}(V:Valid b){j:Int}{s:cL}(hs:b.ss[j.toNat]? =some s):Ev an 406 [.agg b.ao,.agg s.ao] (.aT 4 1 (dj (Hr b j))):=by
 have sp:=V.sp s (bm hs);obtain⟨a,ha,hc⟩:=sp.ha;have n1:=V.n1;have n4:=V.n4;have:=EC b (by omega) (by omega) s a sp.a0 ha ((V.ZJ a (bm ha)).ls (by omega)) sp.t5 hc;have e:Hr b j=xw b.n.toNat (s.t.map λc=>oh a.ls c.toNat):=by simp only[Hr,hs,ju,ha]
 rw[e];exact this
theorem Q8 {b:dy}(V:Valid b)(l:List Int)(hl: ∀j∈l,0<=j/\j<b.ss.length):Ev an 375 [.agg b.ao,ints l] (SL (ld (Pd b l))):=by
 have ok: ∀i,i<l.length->0<=nx l i/\(b.ss.map cL.ao)[(nx l i).toNat]? =some (nx b.ss (nx l i).toNat).ao:=λi h=>by have:=hl _ (dh h);exact⟨this.1,mR (by omega)⟩
 have hs: ∀i,i<l.length->Ev an 406 [.agg b.ao,.agg (nx b.ss (nx l i).toNat).ao] (.aT 4 1 (dj (Hr b (nx l i)))):=λi h=>by have:=hl _ (dh h);exact ZP V (bP (by omega))
 obtain⟨T,f⟩: ∃T:Nat->Nat->Bool, ∀i,Hr b (nx l i)=T i:=⟨_,λ_=>rfl⟩;simp only[f]at hs
 obtain⟨Q,y,s,z⟩: ∃Q:Nat->Nat->Bool,dj (λ_=>false)=dj (Q 0)/\(∀i,i<l.length->Q (i+1)=λc=>T i c&&(decide (i=0)||Q i c))/\ ∀i,i<=l.length-> ¬i<l.length->dj (Q i)=dj (Pd b l):=by
  refine⟨λi=>Pd b (l.take i),ik λc _=>by simp [Pd],λi h=>?_,λi _ h=>by dsimp only;rw[a7 af]⟩
  dsimp only;rw[b1,bP h,<-f];exact(Wu b _ _).trans (by rw[b9,Nat.min_eq_left (by omega)])
 obtain⟨R,A,t,u,g⟩: ∃R:Nat->Nat->Nat->Bool,(∀i,dj (T i)=dj (R i 0))/\(∀i j (v:Bool),j<3125->v=(T i j&&(decide (i=0)||Q i j))->(dj (R i j)).set j [B v]=dj (R i (j+1)))/\(∀i j,i<l.length->j<=3125-> ¬j<3125->dj (R i j)=dj (Q (i+1)))/\ ∀i j,j<3125->(dj (R i j))[j]? =some [B (T i j)]:=by
  refine⟨λi j=>andM (T i) (λc=>decide (i=0)||Q i c) j,λi=>ik λc _=>by simp [andM],λi j v h r=>(vx _ h v).trans (ik λd _=>?_),λi j h w x=>?_,λi j h=>by rw[AI _ h];simp [andM]⟩
  ·by_cases e:d=j
   ·subst e;simp [andM,r]
   ·have k:(d<j+1)↔(d<j):=by omega
    simp [andM,e,k]
  ·rw[s i h];refine ik λd hd=>?_;have:d<j:=by omega
   simp [andM,this]
 have a:=λq c=>AI (c:=c) q;generalize Pd b l=F at *
 have p: ¬b8 (3125:Int).toNat ([fy false].map AV.v)=[]:=by rw[BT];exact yZ _
 refine Ev.gl 1 zz akr.ok [] [(0,{n:=l.length,E:=λi=>[(1,ints l),(2,.pi b.ao),(5,.aT 4 1 (dj (Q i))),(6,I i)],K:=λi=>[(21,[.i (.cells [I (nx l i)])]),(23,[.i (.cells (nx b.ss (nx l i).toNat).ao)]),(25,[.i (.ret (.aT 4 1 (dj (T i))))])],L:=λi=>[(2,{n:=3125,E:=λj=>[(1,ints l),(2,.pi b.ao),(5,.aT 4 1 (dj (Q i))),(6,I i),(7,.aT 4 1 (dj (R i j))),(8,I j)],K:=λj=>[(30,[.sT 7,.sT 5]),(28,[.uS 0 7,.uS 0 5]),(35,[.i (.elt 0 j 0 [B (T i j)])]),(43,[.i (.elt 1 j 0 [B (Q i j)])]),(10046,[.i (.Xo 0 j 0 [B (T i j)])])]})]})] λm=>?_
 simp only[ap]at m
 repeat' first|apply aN|apply aM|apply aL|apply ax|apply ad|(intro o;(try simp only[nL]at o);(try contradiction))
 all_goals try first|exact fo _|exact(yZ _ bB).elim|exact⟨ok _ af⟩|exact ok _ af|exact⟨hs _ af⟩|exact⟨⟨by omega,by simp only[vC,er];omega⟩⟩|exact⟨⟨rfl,by omega,g _ _ af⟩⟩|exact⟨⟨rfl,by omega,a _ _ af⟩⟩|exact⟨⟨rfl,by omega,g _ _ af,rfl,rfl,rfl,by omega⟩⟩|exact⟨⟨rfl,rfl,by show(dj _).set _ [B _]=_;exact t _ _ _ af (by simp_all)⟩⟩|exact⟨⟨by simp_all,by omega,by rw[vC];omega⟩⟩|exact⟨⟨by simp_all,rfl,by omega,a _ _ af⟩⟩|exact⟨⟨rfl,rfl,u _ _ af af af⟩⟩|exact fi _
theorem QA {t:be}(h:t.OK){l:List Nat}(e:l.length<=1000)(hl: ∀i∈l,i<t.ms.length):Ev an 286 [.agg t.ao,ints (dt l)] (B (xm t l)):=by
 obtain⟨r,b⟩: ∃r,xm t l=r:=⟨_,zz⟩;rw[b];unfold xm B3 at b;have u:=rV l;have s:=h.Rp
 have hi: ∀k,k<l.length->aP l k<t.ms.length:=λk hk=>hl _ (bm (km hk))
 obtain⟨X,a⟩: ∃X:Nat->fw, ∀k,t.m (aP l k)=X k:=⟨_,λ_=>rfl⟩
 have o: ∀k,k<l.length-> -1<=(X k).v/\(X k).v<t.tj:=λk hk=>by have:=h.at (hi k hk);rw[a]at this;exact⟨this.v0,this.v1⟩
 obtain⟨V,v0,v1⟩: ∃V:Nat->Int,V 0= -1/\∀k,V (k+1)=max (V k) (X k).v:=⟨λk=>hB (-1) (λk v=>max v (X k).v) k,zz,λk=>rfl⟩
 have y: ∀k,k<=l.length-> -1<=V k/\V k<=4:=λk=>by induction k with
  |zero=>intro _;omega
  |succ k p=>intro hk;have:=p (by omega);have:=o k hk;rw[v1];omega
 obtain⟨Z,A,C,D,F⟩: ∃Z:Nat->Prop,Z 0/\(∀k,k<l.length->Z k-> ¬((X k).v≠ -1/\V k≠ -1/\(X k).v≠V k)->Z (k+1))/\(∀k,k<l.length->Z k->((X k).v≠ -1/\V k≠ -1/\(X k).v≠V k)->BG t l (-1)=false)/\∀k,k<=l.length-> ¬k<l.length->Z k->BG t l (-1)=true:=
  ⟨λk=>BG t l (-1)=BG t (l.drop k) (V k),by dsimp only;rw[v0];rfl,λk hk z g=>by dsimp only at z ⊢;rw[z,drop_cons (km hk),Fp,v1,a];exact zj g,λk hk z g=>by dsimp only at z;rw[z,drop_cons (km hk),Fp,a];exact zy g,λk _ g z=>by dsimp only at z;rw[z,drop_nil g];rfl⟩
 obtain⟨S,s0,s1,w,q⟩: ∃S:Nat->List (List AV),S 0=[]/\(∀k,k<l.length->S (k+1)=S k++[[I (X k).sp]])/\(∀k,(S k).length<=k)/\(∀k,k<=l.length-> ¬k<l.length->S k=(l.map λi=>(t.m i).sp).map λx=>[I x]):=
  ⟨λk=>((l.take k).map λi=>(t.m i).sp).map λx=>[I x],zz,λk hk=>by dsimp only;rw[nI l hk,bx,bx,<-a];rfl,λk=>by simp;omega,λk _ g=>by dsimp only;rw[a7 af]⟩
 have hs:=Q8 h.gK (l.map λi=>(t.m i).sp) (by
  intro j d;obtain⟨i,hi,rfl⟩:=cD.1 d;have o:=h.at (hl i hi);exact⟨o.Pf,o.Oc⟩)
 have c:=Uy (ld (Pd t.gK (l.map λi=>(t.m i).sp)));generalize ld (Pd t.gK (l.map λi=>(t.m i).sp))=M at *
 generalize BG t l (-1)=W at *;clear h hl
 refine di ahh.ok (kh [(45,[.fz 5]),(52,[.ev hs]),(53,[.ev c])]) (lh [(0,{n:=l.length,E:=λk=>[(1,ints (dt l)),(2,.pi t.ao),(5,.aT 3 1 (S k)),(6,I (V k)),(7,I k)],I:=Z,K:=λk=>[(19,[.i (.cells [I (aP l k:Nat)])]),(21,[.i (.cells (X k).ao)]),(24,[.fz 8])]})]) ?_
 repeat' first|apply aN|apply aM|apply aL|apply ax|apply ad|(intro f;(try simp only[nL]at f);(try contradiction))
 all_goals first|exact⟨by omega,by rw[<-a];exact mR (hi _ af)⟩|exact⟨by show fK (.sl 1 (S _)) _;rw[q _ bB bB];exact fK.refl _⟩|exact gi _
theorem Xm {t:be}(h:t.OK){p:List Nat}(hg:yI t.ms.length p)(hk:Ai t p): ∃(n:Nat) (b:Nat->List Sp) (e:Nat->Bool) (I:Nat->Prop) (c:Nat->Nat->List Sp) (d:Nat->Nat->Bool),
 b 0=jo t p (eW p)/\e 0=true/\I 0/\(∀m,(b m).length<=1000)/\(∀m,I m->(e m&& !bR (b m))=false->b m=dH t p (eW p))/\
 (∀m,I m->e m=true->bR (b m)=false->m<n/\I (m+1)/\ ∀k,k<=t.ms.length->(c m k).length=eW p/\ ∀j,sJ 1000 (cK (c m k) j))/\
 (∀m,c m 0=b m/\d m 0=false/\c m t.ms.length=b (m+1)/\d m t.ms.length=e (m+1))/\
 (∀m k,k<t.ms.length->(nx t.ms k).eY= -1->c m (k+1)=c m k/\d m (k+1)=d m k)/\
 ∀m k,k<t.ms.length->(nx t.ms k).eY≠ -1->c m (k+1)=gj (c m k) (aP p (nx t.ms k).eY.toNat) (aP p k)/\d m (k+1)=(d m k||kG (c m k) (aP p (nx t.ms k).eY.toNat) (aP p k)):=by
 let S:Nat->List Sp×Bool:=λm=>hB (jo t p (eW p),true) (λ_ s=>aV (kids t.ms p) (s.1,false)) m
 let M:Nat->Nat:=λm=>if ((S m).2&& !bR (S m).1)=true then gb (S m).1+1 else 0
 have L: ∀m,(S m).1.length=eW p:=λm=>by induction m with
  |zero=>exact gq _ _ _
  |succ m i=>show (aV _ _).1.length=_;rw[fF];exact i
 have n0:=@Kg t.ms p;have n1:=@F5 t.ms p
 have u:=h.zf;have le:=hg.le
 refine⟨M 0,λm=>(S m).1,λm=>(S m).2,λm=>QP t p (S m).1 (S m).2/\M m+m<=M 0,λm k=>(aV (kR t.ms p k) ((S m).1,false)).1,λm k=>(aV (kR t.ms p k) ((S m).1,false)).2,zz,zz,⟨⟨gq _ _ _,λ_=>Xi h p _,λ_=>rfl,λh=>by cases h⟩,bn _⟩,λm=>by dsimp only;rw[L];omega,λm hi he=>(hi.1.done he).symm,λm hi g f=>?_,λm=>⟨zz,zz,zz,zz⟩,λm k g f=>?_,λm k g f=>?_⟩
 ·dsimp only at g f hi;have r:=hi.1;rw[g]at r;have q:=r.next h hg hk f;have a:M m=gb (S m).1+1:=by show (if _ then _ else _)=_;rw[g,f];rfl
  have b:M (m+1)<gb (S m).1+1:=q.2;refine⟨by omega,⟨q.1,by omega⟩,λk hk=>?_⟩
  have B:BW (199+60*k) (eW p) (aV (kR t.ms p k) ((S m).1,false)).1:=by
   induction k with
   |zero=>exact(r.bw f).mono (by omega)
   |succ k i=>
    have i:=i (by omega);have hx:=bP (l:=t.ms) (j:=k) (by omega);have o:=h.R2 _ _ hx;have v:=o.zL;have w:=o.zl;by_cases e:(nx t.ms k).eY= -1
    ·rw[n0 hx e];exact i.mono (by omega)
    ·rw[n1 hx e,mj];exact(i.step (by omega) (hg.lt _ (by omega)) (hg.lt k (by omega))).mono (by omega)
  exact⟨B.len,λj=>xJ (by omega) (B.bd j)⟩
 ·dsimp only;rw[n0 (bP g) f];exact⟨zz,zz⟩
 ·dsimp only;rw[n1 (bP g) f,mj];exact⟨zz,zz⟩
theorem Se {t:be}(h:t.OK){p:List Nat}(hg:yI t.ms.length p)(r:Ai t p):Ev an 292 [.agg t.ao,ints (dt p)] (Kw (dH t p (eW p))):=by
 have hm:=h.zf;have hc:=xi (D4 hm hg);have hl:=hg.len;have a3:=hg.le;have a4:=rV
 have a1:=λk:Nat=>Ux (p:=p) (by omega) k
 obtain⟨X,U⟩: ∃X:Nat->Nat->fw,∀k j,nx t.ms (aP (xE p k) j)=X k j:=⟨_,λ_ _=>rfl⟩
 have hi: ∀k j,j<(xE p k).length->aP (xE p k) j<t.ms.length:=λk j G=>by have:=kf.1 (bm (km G));omega
 have a5: ∀k,(xE p k).length<=6:=λk=>by have:=bs (λi=>aP p i==k) (a6 p.length);unfold xE;rw[b7]at this;omega
 have A: ∀k j,j<(xE p k).length->(t.ms.map fw.ao)[aP (xE p k) j]? =some (X k j).ao:=λk j G=>by rw[<-U];exact mR (hi k j G)
 obtain⟨F,f0,f1⟩: ∃F:Nat->Nat->Sp,(∀k,F k 0=(0,199))/\∀k j,F k (j+1)=(max (F k j).1 (X k j).lo,min (F k j).2 (X k j).hi):=⟨λk j=>hB (0,199) (λj s=>(max s.1 (X k j).lo,min s.2 (X k j).hi)) j,λ_=>rfl,λ_ _=>rfl⟩
 obtain⟨O,o0,o1,o2,M⟩: ∃O:Nat->List (List AV),O 0=[]/\(∀k,O (k+1)=O k++[jr (F k (xE p k).length)])/\(∀k,(O k).length<=k)/\O (eW p)=(jo t p (eW p)).map jr:=by
  refine⟨λk=>(jo t p k).map jr,zz,λk=>?_,λk=>by simp [jo],zz⟩
  have key: ∀j,j<=(xE p k).length->F k j=((xE p k).take j).foldl (λs i=>(max s.1 (t.m i).lo,min s.2 (t.m i).hi)) (0,199):=λj G=>by induction j with
   |zero=>exact f0 k
   |succ j ih=>rw[f1,ih (by omega),nI _ (by omega),dk,<-U];rfl
  have e:gD t p t.ms.length k=F k (xE p k).length:=by rw[key _ (bn _),List.take_length,F2];unfold xE Z6;rw[hl]
  dsimp only;rw[<-e];unfold jo;rw[cr,bx,bx];rfl
 obtain⟨n,b,e,Z,c,d,b0,e0,z0,bl,zd,g,P,c1,c2⟩:=Xm h hg r
 have a0:=λm=>EV (b m) (bl m)
 have C:=g;obtain⟨Q,S⟩: ∃Q:Nat->Nat, ∀k,aP p (nx t.ms k).eY.toNat=Q k:=⟨_,λ_=>rfl⟩
 obtain⟨R,T⟩: ∃R:Nat->Nat, ∀k,aP p k=R k:=⟨_,λ_=>rfl⟩
 obtain⟨sx,hx⟩: ∃s:Nat->Nat->Sp, ∀m k,cK (c m k) (Q k)=s m k:=⟨_,λ_ _=>rfl⟩
 obtain⟨f,hy⟩: ∃s:Nat->Nat->Sp, ∀m k,cK (c m k) (R k)=s m k:=⟨_,λ_ _=>rfl⟩
 generalize dH t p (eW p)=Y at *;rw[<-b0]at M;generalize jo t p (eW p)=B0 at *
 have hS: ∀m k,Z m->e m=true->bR (b m)=false->k<t.ms.length->(nx t.ms k).eY≠ -1->(0<=(nx t.ms k).eY/\((dt p).map λx=>[I x])[(nx t.ms k).eY.toNat]? =some [I (Q k:Nat)])/\((dt p).map λx=>[I x])[k]? =some [I (R k:Nat)]/\R k<((c m k).map jr).length/\Q k<((c m k).map jr).length/\((c m k).map jr)[R k]? =some (jr (f m k))/\((c m k).map jr)[Q k]? =some (jr (sx m k))/\(((c m k).map jr).set (Q k) (jr (kw (sx m k) (f m k))))[R k]? =some (jr (f m k))/\(sJ 1000 (sx m k)/\sJ 1000 (f m k))/\(((c m k).map jr).set (Q k) (jr (kw (sx m k) (f m k)))).set (R k) (jr (iJ (sx m k) (f m k)))=(c m (k+1)).map jr/\d m (k+1)=(d m k||(!decide (kw (sx m k) (f m k)=sx m k)|| !decide (iJ (sx m k) (f m k)=f m k))):=λm k v w z h4 D=>by
  have o:=h.R2 k _ (bP h4);have p0:=o.zL;have p1:=o.zl;have a:=hg.lt k h4;have a2:=hg.lt (nx t.ms k).eY.toNat (by omega);have B:=(g m v w z).2.2 k (by omega);have J:=r k h4 D;have st:=c2 m k h4 D
  have J: ¬aP p (nx t.ms k).eY.toNat=aP p k:=J
  simp only[S,T]at a a2 J st;rw[<-hx,<-hy];rw[st.1,st.2]
  refine⟨⟨by omega,by rw[<-S];exact rI _ (by omega)⟩,by rw[<-T];exact rI _ (by omega),by rw[ap];omega,by rw[ap];omega,zX (by omega),zX (by omega),by rw[List.getElem?_set_ne J];exact zX (by omega),⟨B.2 _,B.2 _⟩,by unfold gj;rw[hb,hb],by unfold kG;simp⟩
 have g: ∀m,Z m->e m=true->bR (b m)=false->m<n/\Z (m+1):=λm v w z=>⟨(g m v w z).1,(g m v w z).2.1⟩
 have hz: ∀m k,Z m->e m=true->bR (b m)=false->k<t.ms.length->(c m k).map jr=[]->False:=λm k v w z h4 D=>by
  have:=(C m v w z).2.2 k (by omega);have a:=hg.lt k h4;have:=congrArg List.length D;rw[ap]at this;simp only[en]at this;omega
 have w1: ∀(x y:Sp) (env:Env) (H:av),sJ 1000 x->sJ 1000 y->bG env (tm 121)= .agg (jr (kw x y))->bG env (tm 122)= .agg (jr x)->_:=λx y env H hx hy ha V=>pj (d:=123) (H:=H) ha V (by unfold sJ kw at *;simp only;omega) (by unfold sJ at *;omega)
 have w2: ∀(x y:Sp) (env:Env) (H:av),sJ 1000 x->sJ 1000 y->bG env (tm 126)= .agg (jr (iJ x y))->bG env (tm 127)= .agg (jr y)->_:=λx y env H hx hy ha V=>pj (d:=128) (H:=H) ha V (by unfold sJ iJ at *;simp only;omega) (by unfold sJ at *;omega)
 clear c2 h hg r hi U S T hx hy
 have W:=e4 (ad f0 (ad f1 (ad o1 (ad M (ad zd (ad g (ad P c1)))))));clear f0 f1 o1 M zd g C P c1
 refine di alx.ok (kh [(20,[.ev hc]),(58,[.pk 5]),(144,[.fz 5])]) (lh [(0,{n:=eW p,E:=λk=>[(1,ints (dt p)),(2,.pi t.ao),(5,.aT 128 2 (O k)),(6,I k)],K:=λk=>[(22,[.wk 0]),(25,[.sT 7]),(27,[.ev (a1 k)])],L:=λk=>[(2,{n:=(xE p k).length,X:=λb _ _ _ j=>[(1,ints (dt p)),(2,.pi t.ao),(5,.aT 128 2 (O k)),(6,I k),(7,.po b 0),(8,ints (dt (xE p k))),(9,I j)],Y:=λb _ _ _ j=>[(b,.cells 128 (jr (F k j)))],K:=λj=>[(38,[.i (.cells [I (aP (xE p k) j:Nat)])]),(40,[.i (.cells (X k j).ao)]),(43,[.fz 10])]})]}),(4,{n:=n,E:=λm=>[(1,ints (dt p)),(2,.pi t.ao),(5,.aT 128 2 ((b m).map jr)),(11,B (e m))],I:=Z,K:=λm=>[(61,[.bo (a0 m)])],L:=λm=>[(6,{n:=t.ms.length,E:=λk=>[(1,ints (dt p)),(2,.pi t.ao),(5,.aT 128 2 ((c m k).map jr)),(11,B (d m k)),(12,I k)],K:=λk=>[(74,[.i (.cells (nx t.ms k).ao)]),(77,[.sT 5]),(69,[.uS 0 5]),(82,[.i (.cells [I (R k:Nat)])]),(85,[.i (.elt 0 (R k) 0 (jr (f m k)))]),(89,[.i (.cells [I (Q k:Nat)])]),(92,[.i (.elt 0 (Q k) 0 (jr (sx m k)))]),(93,[.fz 14,.fz 15]),(106,[.fz 16]),(119,[.fz 17]),(10014,[.i .bY]),(10015,[.i .bY]),(123,[.i (.op (B (!decide (kw (sx m k) (f m k)=sx m k))))]),(128,[.i (.op (B (!decide (iJ (sx m k) (f m k)=f m k))))]),(133,[.i (.cells [I (Q k:Nat)])]),(10136,[.i (.Xo 0 (Q k) 0 (jr (sx m k)))]),(140,[.i (.cells [I (R k:Nat)])]),(10143,[.i (.Xo 0 (R k) 0 (jr (f m k)))])]})]})]) ?_
 repeat' first|apply aN|apply aM|apply aL|apply ax|apply ad|(intro hq;(try simp only[nL]at hq);(try contradiction))
 all_goals try first|exact fo _|exact⟨jC.gT (u:=5) rfl rfl⟩|exact⟨af,mR af⟩|exact⟨af,rI _ af⟩|exact⟨af,A _ _ af⟩|exact(hz _ _ bB bB bB bB bB).elim|exact fi _
 all_goals first|(have q:=hS _ _ bB bB bB bB bB;obtain⟨qa,r1,r2,q2,s1,s2,s3,⟨N,l⟩,E1,E2⟩:=q;have cx:=N;have cy:=l;unfold sJ at cx cy;first|exact⟨⟨by omega,by omega⟩⟩|exact⟨qa⟩|exact⟨⟨by omega,r1⟩⟩|exact⟨⟨rfl,by omega,s1⟩⟩|exact⟨⟨rfl,by omega,s2⟩⟩|exact⟨⟨rfl,by omega,s2,rfl,rfl,rfl,bn 2⟩⟩|exact⟨⟨rfl,by omega,s3,rfl,rfl,rfl,bn 2⟩⟩|exact⟨⟨rfl,rfl,E1⟩⟩|exact⟨⟨bB,w1 _ _ _ _ N l rfl rfl⟩⟩|exact⟨⟨by simp_all,w2 _ _ _ _ N l rfl rfl⟩⟩|exact⟨⟨rfl,by simp,rfl⟩⟩)|skip
 all_goals try (obtain⟨f0,f1,o1,M,zd,g,P,c1⟩:=W.down;clear W A hS hz;refine Ob.mk ?_;first|omega|(refine⟨rfl,?_⟩;grind)|grind)
theorem Zu {t:be}(h:t.OK){p:List Nat}(hg:yI t.ms.length p)(a:List Int):Ev an 184 [.agg t.ao,ints (dt p),ints a] (B (BP t (tV a) p)):=by
 have hm:=h.zf;have h4:=h.FJ;have y:=hg.le;have c:=hg.len;have hc:=xi (D4 hm hg)
 obtain⟨r,q⟩: ∃r,BP t (tV a) p=r:=⟨_,zz⟩;rw[q];unfold BP at q;rw[zr]at q
 have m:=λk:Nat=>Ux (p:=p) (by omega) k
 have j:=λk:Nat=>QA h (l:=xE p k) (by have:=bs (λi=>aP p i==k) (a6 p.length);unfold xE;rw[b7]at this;omega) (λi hi=>by rw[<-c];exact(kf.1 hi).1)
 obtain⟨A,a0,a1,v⟩:=ud (λu=>xm t (xE p u)) (a6 (eW p));obtain⟨C,c0,c1,x⟩:=ud (oC t (tV a) p) (a6 t.dN.length)
 have n1: ∀k,k<eW p->nx (a6 (eW p)) k=k:=λk hk=>by simp [nx,hk]
 have H: ∀k,k<t.dN.length->nx (a6 t.dN.length) k=k:=λk hk=>by simp [nx,hk]
 have J: ∀k,k<t.dN.length->oC t (tV a) p k=(a.any (·==(k:Int))||Hy p (nx t.dN k)):=λk hk=>xu (bP hk)
 have s: ∀k,k<t.dN.length->Ev an 289 [.agg (nx t.dN k).ao,ints (dt p)] (B (Hy p (nx t.dN k))):=λk hk=>by obtain⟨a0,a1,w,D,_⟩:=h.tie _ (dh hk);exact WU _ a0 (by omega) w (by omega)
 have hh:=λk:Nat=>acK a (k:Int);have g:=X7 h c
 have d:BO t p=true->Ev an 292 [.agg t.ao,ints (dt p)] (Kw (dH t p (eW p)))/\(dH t p (eW p)).length<=1000:=λe=>by have b:Ai t p:=λi hi o=>(xV.1 e i hi o).1;have:=(DO h hg b (bn (eW p))).1;exact⟨Se h hg b,by rw[this,gq];omega⟩
 have f:=λe=>EV (dH t p (eW p)) (d e).2
 simp only[b7]at a1 v c1 x
 generalize dH t p (eW p)=Y at *;generalize (a6 (eW p)).all _=F at *;generalize (a6 t.dN.length).all _=G at *
 clear h hg
 refine di akO.ok (kh [(11,[.ev hc]),(44,[.ev g]),(48,[.i (.ret (Kw Y))]),(49,[.i (.ret (B (bR Y)))])]) (lh [(0,{n:=eW p,E:=λk=>[(1,ints (dt p)),(2,ints a),(3,.pi t.ao),(7,I k)],I:=λk=>A k=true,K:=λk=>[(18,[.ev (m k)]),(19,[.ev (j k)])]}),(2,{n:=t.dN.length,E:=λk=>[(1,ints (dt p)),(2,ints a),(3,.pi t.ao),(8,I k)],I:=λk=>C k=true,K:=λk=>[(30,[.ev (hh k)]),(36,[.i (.cells (nx t.dN k).ao)]),(39,[.i (.ret (B (Hy p (nx t.dN k))))])]})]) ?_
 repeat' first|apply aN|apply aM|apply aL|apply ax|apply ad|(intro z;(try simp only[nL]at z);(try contradiction))
 all_goals first|exact⟨⟨by grind,s _ af⟩⟩|exact⟨⟨bB,(d bB).1⟩⟩|exact⟨⟨bB,f bB⟩⟩|exact gi _
theorem M6 {t:be}(h:t.OK)(a:List Int):Ev an 87 [.agg t.ao,ints a] (lists (db t (tV a))):=by
 have hm:=h.zf;have d:=Rk (t.ms.map fw.ao).length (by rw[ap];exact hm);rw[show fg (t.ms.map fw.ao).length=fg t.ms.length by rw[ap]]at d;have f:=pB hm;have b: ∀p∈fg t.ms.length,yI t.ms.length p:=λp j=>jc j;unfold db;generalize fg t.ms.length=G at *
 obtain⟨W,m,o,b2,q⟩: ∃W:Nat->List (List AV),W 0=[]/\(∀k,k<G.length->W (k+1)=if BP t (tV a) (nx G k)=true then W k++[[ints (dt (nx G k))]] else W k)/\(∀k,k<=G.length->(W k).length<=k)/\∀k,k<=G.length-> ¬k<G.length->W k=(G.filter (BP t (tV a))).map λc=>[ints (dt c)]:=
  ⟨λk=>((G.take k).filter (BP t (tV a))).map λc=>[ints (dt c)],zz,λk hk=>by dsimp only;rw[b1,bP hk,eM];split<;>simp_all,λk _=>by have:=bs (BP t (tV a)) (G.take k);rw[b9]at this;simp;omega,λk _ g=>by dsimp only;rw[a7 af]⟩
 have e: ∀k,k<G.length->Ev an 184 [.agg t.ao,ints (dt (nx G k)),ints a] (B (BP t (tV a) (nx G k))):=λk hk=>Zu h (b _ (dh hk)) a
 clear h b
 refine di S87.ok (kh [(11,[.ev d])]) (lh [(0,{n:=G.length,E:=λk=>[(1,ints a),(2,.pi t.ao),(5,lists G),(6,.aT 71 1 (W k)),(7,I k)],K:=λk=>[(21,[.i (.cells [ints (dt (nx G k))])]),(24,[.i (.ret (B (BP t (tV a) (nx G k))))]),(28,[.i (.cells [ints (dt (nx G k))])])]})]) ?_
 repeat' first|apply aN|apply aM|apply aL|apply ax|apply ad|(intro l;(try simp only[nL]at l);(try contradiction))
 all_goals first|exact ⟨e _ bB⟩|exact gi _
def cf (j:Nat):Nat:=[47,49,51,53,55,57,60,63,64,66].getD j 0
abbrev cfV (a:cQ)(j:Nat):AV:=.fn (.func (cf j)) [] [.pi a.ao]
abbrev agv (a:cQ):AV:=.sl 1 ((a6 10).map λj=>[cfV a j])
theorem acu {a:cQ}(w:a.wf): ∀j,j<10->(∀i,i<j->dA a i=0)->Ev an (cf j) [.pi a.ao] (I (dA a j))
 |0,_,_=>Zx w
 |1,_,_=>ZL w
 |2,_,_=>X6 w
 |3,_,_=>ZH w
 |4,_,_=>ZK w
 |5,_,_=>XF w
 |6,_,h=>by
  have ok:=EE w.ch (h 4 af);have b:=h 5 af;have he:(a.ix.length:Int)=a.ch.wo:=de λe=>by rw[yu e]at b;cases b
  have c:=(mu (n:=a.ch.wo.toNat) (m:=5) (by have:=ok.wo;omega)).2.2;exact ZM w.le (by have:=ok.wo;omega) (λx hx=>by obtain⟨_,⟨w0,w1⟩,_⟩:=ok.co x hx;omega)
 |7,_,_=>Zz w
 |8,_,_=>ZZ w
 |9,_,_=>WA w
 |n+10,h,_=>af
theorem acF {a:cQ}(h:k<10):0<=(k:Int)/\((a6 10).map λj=>[cfV a j])[(k:Int).toNat]? =some [cfV a k]:=⟨af,by simp [h]⟩
structure D0 (a:cQ)(k:Nat):Prop where
 f:aB (dA a) 10 0=aB (dA a) (10-k) k
 z: ∀i,i<k->dA a i=0
theorem D0.on {a:cQ}(h:D0 a k)(hk:k<10)(b:dA a k=0):D0 a (k+1):=
 ⟨JJ hk h.f b,λi hi=>if e:i=k then e▸b else h.z i af⟩
theorem D0.here {a:cQ}(h:D0 a k)(hk:k<10)(b:dA a k≠0):cF a=((k:Int)+1,dA a k):=by unfold cF;rw[yf hk h.f b,zj b]
theorem D0.fin {a:cQ}(h:D0 a k)(hk: ¬k<10)(b:k<=10):cF a=(0,0):=by unfold cF;rw[MF hk b h.f,zy zz]
set_option maxRecDepth 20000 in
theorem vJ {a:cQ}(w:a.wf):Ev an 21 [.agg a.ao] (.cG [I (cF a).1,I (cF a).2]):=by
 generalize hc:cF a=c;obtain⟨p,e⟩:=c;refine di S21.ok (kh []) (lh [(0,{n:=10,E:=λk=>[(18,agv a),(19,I 10),(20,I k)],I:=λk=>D0 a k,K:=λk=>[(23,[.i (.cells [cfV a k])]),(26,[.i (.ret (I (dA a k)))])]})]) ?_;repeat' first|apply aN|apply aM|apply aL|apply ax|apply ad|(intro d;(try simp at d);(try contradiction))
 all_goals try first|exact fo _|exact⟨acF af⟩|exact⟨acu w _ af (D0.z bB)⟩|exact⟨D0.on bB af bB⟩|exact⟨(⟨rfl,λi hi=>af⟩:D0 a 0)⟩|exact fi _
 rename_i k _ h f;cases hc.symm.trans (h.here af d);exact⟨zz,zz⟩;rename_i k _ h f;cases hc.symm.trans (h.here af d);exact⟨zz,zz⟩;rename_i k b h;cases hc.symm.trans (h.fin af b);exact⟨zz,zz⟩;rename_i k b h;cases hc.symm.trans (h.fin af b);exact⟨zz,zz⟩
instance:Inhabited EB:=⟨⟨0,0⟩⟩
theorem Cw [Inhabited G]{p:G->Bool}{l:List G}(hk:k<l.length)(h:bM p l 0=bM p (l.drop k) k)(a:p (nx l k)=true):(k:Int)=bM p l 0:=by rw[h,cb hk,bM,zy bD]
theorem M3 [Inhabited G]{p:G->Bool}{l:List G}(hk:k<l.length)(h:bM p l 0=bM p (l.drop k) k)(a:p (nx l k)=false):bM p l 0=bM p (l.drop (k+1)) ((k+1:Nat):Int):=by rw[h,cb hk,bM,zj bD];rfl
theorem GS {p:G->Bool}{l:List G}(hk: ¬k<l.length)(h:bM p l 0=bM p (l.drop k) k):(-1:Int)=bM p l 0:=by rw[h,ej af,bM]
theorem HE {α:Type}(p:α->Bool): ∀(l:List α) (k:Nat),decide (bM p l k>=0)=l.any p
 |[],_=>rfl
 |x::l,k=>by rw[bM,gx];split;rename_i h;rw[h];simp;rename_i h;rw[show ((k:Int)+1)=((k+1:Nat):Int)from af,HE p l (k+1)];simp [h]
theorem Ye (l:List Wd)(g:Nat)(a:List AV)(p:Wd->Bool)(c:l.length<=9223372036854775807)(h: ∀x∈l,Ev an g (bh x::a) (B (p x))):Ev an 70 [strs l,.fn (.func g) [] a] (I (bM p l 0)):=by
 refine di S70.ok (kh []) (lh [(0,{n:=l.length,E:=λk=>[(0,strs l),(1,.fn (.func g) [] a),(7,I l.length),(8,I k)],I:=λk=>bM p l 0=bM p (l.drop k) k,K:=λk=>[(14,[.i (.cells [bh (nx l k)])]),(16,[.i (.ret (B (p (nx l k))))])]})]) ?_;repeat' first|apply aN|apply aM|apply aL|apply ax|apply ad|(intro b;(try simp only[nL]at b);(try contradiction))
 all_goals try first|exact fo _|exact⟨h _ (dh bB)⟩|exact⟨rfl,Cw bB bB bB⟩|exact⟨M3 bB bB bB⟩|exact⟨rfl,GS bB bB⟩|exact fi _
theorem X4 (l:List EB)(g:Nat)(a:List AV)(p:EB->Bool)(c:l.length<=9223372036854775807)(h: ∀x∈l,Ev an g (.agg x.ao::a) (B (p x))):Ev an 358 [wJ l,.fn (.func g) [] a] (I (bM p l 0)):=by
 refine di ai5.ok (kh []) (lh [(0,{n:=l.length,E:=λk=>[(0,wJ l),(1,.fn (.func g) [] a),(7,I l.length),(8,I k)],I:=λk=>bM p l 0=bM p (l.drop k) k,K:=λk=>[(14,[.i (.cells (nx l k).ao)]),(16,[.i (.ret (B (p (nx l k))))])]})]) ?_;repeat' first|apply aN|apply aM|apply aL|apply ax|apply ad|(intro b;(try simp only[nL]at b);(try contradiction))
 all_goals try first|exact fo _|exact⟨h _ (dh bB)⟩|exact⟨rfl,Cw bB bB bB⟩|exact⟨M3 bB bB bB⟩|exact⟨rfl,GS bB bB⟩|exact fi _
abbrev dD (a:cQ)(w:AV):List AV:=a.ao++[w]
abbrev cU (b:Nat)(a:cQ)(w:AV):Nat×dp:=(b,.cells 66 (dD a w))
theorem SO (l:List Wd)(g:Nat)(a:List AV)(p:Wd->Bool)(b:l.length<=9223372036854775807)(h: ∀x∈l,Ev an g (bh x::a) (B (p x))):Ev an 30 [strs l,.fn (.func g) [] a] (B (l.any p)):=by have e:=HE p l 0;rw[<-e];exact iG S30.ok [(7,[.ev (Ye l g a p b h)])] []
theorem Vz (l:List EB)(g:Nat)(a:List AV)(p:EB->Bool)(b:l.length<=9223372036854775807)(h: ∀x∈l,Ev an g (.agg x.ao::a) (B (p x))):Ev an 266 [wJ l,.fn (.func g) [] a] (B (l.any p)):=by have e:=HE p l 0;rw[<-e];exact iG amx.ok [(7,[.ev (X4 l g a p b h)])] []
theorem K0 (l:List Wd)(hl:l.length<=9223372036854775807):Ev an 30 [strs l,.fn (.func 31) [] []] (B (!l.all dC)):=by have h:=SO l 31 [] (λs=> !dC s) af (λx _=>UL x);rwa [List.any_eq_not_all_not,show (λs=> !!dC s)=dC from funext λs=>ea _]at h
set_option maxRecDepth 20000 in
theorem Kx {a:cQ}(w:a.wf){l:List Wd}(hl:l.length<=9223372036854775807)(h:dU a l≠0):Ev an 10 [.agg a.ao,strs l] (.cG [.v (.pointer none),I (dU a l)]):=by have hc:=vJ w;unfold dU at h ⊢;generalize (cF a).1=c1 at hc;generalize (cF a).2=b at hc h;exact iG S10.ok [(10,[.ev hc]),(22,[.ev (K0 l hl)])] []
set_option maxRecDepth 20000 in
theorem XJ {a:cQ}(w:a.wf){l:List Wd}(hl:l.length<=1000000)(h:dU a l=0):B7 an 10 [.agg a.ao,strs l] [] (λb=>.cG [.po b 0,I 0]) (λb=>[cU b a (.v (.slice none 0 0))]):=by
 have hc:=vJ w;unfold dU at h;generalize (cF a).1=c1 at hc;generalize (cF a).2=d at hc h;refine B7.vc S10.ok (kh [(10,[.ev hc]),(22,[.ev (K0 l af)]),(25,[.sh])]) (lh []) ?_;repeat' first|apply aN|apply aM|apply aL|apply ax|apply ad|(intro c;(try simp at c);(try contradiction))
 all_goals try exact fi _
 exact⟨⟨c,az _,⟨aX⟩,⟨aG⟩,⟨zz⟩,⟨zz⟩,⟨zz,zz⟩,zq⟩⟩
def eb (e:Int):Prop:=0<=e/\e<=15
theorem xK {e:Int}(h:eb e):(Lit.int .i64 e).wf=true:=sZ (by have:=h.1;omega) (by have:=h.2;omega)
theorem gB {f:Nat->Int}(h: ∀i,eb (f i)): ∀m k,eb (aB f m k).2
 |0,_=>show eb 0 from⟨aG,aG⟩
 |m+1,k=>by rw[aB];split;exact gB h m _;exact h k
theorem Vq {f:Nat->Int}(h: ∀i,eb (f i))(n a:Nat):eb (dv f n a).2:=by unfold dv;split;exact pu;exact gB h _ _
section
variable (l:List Wd) (p:Part) (ps:List Part) (fs:List Form) (i:Nat) (s:Shelf) (f:Nat->Bool) (e:Int) (es:List qm) (d:ln) (c:mh) (m:gO) (t:be) (x:fw) (b:dy) (n:Int) (ls:List bc) (y:sr)
theorem fq:eb (cJ l):=by
 unfold cJ;repeat' split
 all_goals exact pu
theorem Vv:eb (mH p):=by
 unfold mH;repeat' split
 all_goals first|exact⟨aG,aG⟩|exact fq _
theorem Qu:eb (lE ps i):=by
 unfold lE;repeat' split
 all_goals first|exact⟨aG,aG⟩|exact(by apply Vv)
theorem U8:eb (iY fs i):=by
 unfold iY;repeat' split
 all_goals first|exact⟨aG,aG⟩|exact gB (λ_=>by apply Qu) _ _
theorem F8:eb (eh s).2.2:=by
 unfold eh;repeat' split
 all_goals first|exact⟨aG,aG⟩|exact gB (λ_=>by apply U8) _ _
theorem V1:eb (eJ f e es i):=by
 unfold eJ;repeat' split
 all_goals first|exact⟨aG,aG⟩|exact fq _
theorem Fy:eb (dF d).2.2:=by
 unfold dF;repeat' split
 all_goals first|exact⟨aG,aG⟩|exact gB (λ_=>by apply V1) _ _
theorem FD:eb (dT l i):=by
 unfold dT;repeat' split
 all_goals first|exact⟨aG,aG⟩|exact fq _
theorem YE:eb (tF c i):=by
 unfold tF;repeat' split
 all_goals first|exact⟨aG,aG⟩|exact fq _
theorem ZI:eb (tG c i):=by
 unfold tG;repeat' split
 all_goals first|exact⟨aG,aG⟩|exact fq _
theorem Gh:eb (eK c).2.2:=by
 unfold eK;repeat' split
 all_goals first|exact⟨aG,aG⟩|exact gB (λ_=>by apply FD) _ _|exact gB (λ_=>by apply YE) _ _|exact gB (λ_=>by apply ZI) _ _
theorem Z1:eb (tc m i):=by
 unfold tc;repeat' split
 all_goals first|exact⟨aG,aG⟩|exact fq _
theorem YB:eb (rj m i):=by
 unfold rj;repeat' split
 all_goals first|exact⟨aG,aG⟩|exact fq _
theorem YV:eb (tD m i):=by
 unfold tD;repeat' split
 all_goals first|exact⟨aG,aG⟩|exact fq _
theorem GB:eb (ei m).2.2:=by grind [ei,Vq,FD,Z1,YB,YV]
theorem FM (l:List Int):eb (ig m e l):=by
 unfold ig;repeat' split
 all_goals first|exact⟨aG,aG⟩|apply GB
theorem GN:eb (dP n ls i):=by
 unfold dP;repeat' split
 all_goals first|exact⟨aG,aG⟩|exact fq _
theorem Ma:eb (ez b i):=by
 unfold ez;repeat' split
 all_goals first|exact⟨aG,aG⟩|exact gB (λ_=>by apply GN) _ _
theorem KT:eb (dJ b i):=by
 unfold dJ;repeat' split
 all_goals first|exact⟨aG,aG⟩|exact fq _
theorem UR:eb (check b).2.2:=by
 unfold check;repeat' split
 all_goals first|exact⟨aG,aG⟩|exact gB (λ_=>by apply Ma) _ _|exact gB (λ_=>by apply KT) _ _
theorem Od:eb (nX t x n):=by
 unfold nX;repeat' split
 all_goals first|exact⟨aG,aG⟩|exact fq _
theorem XH:eb (DE t y):=by
 unfold DE;repeat' split
 all_goals first|exact⟨aG,aG⟩|exact fq _
theorem WM:eb (kq t i):=by
 unfold kq;repeat' split
 all_goals first|exact⟨aG,aG⟩|exact(by apply Od)
theorem V9:eb (kA t i):=by
 unfold kA;repeat' split
 all_goals first|exact⟨aG,aG⟩|exact(by apply XH)
theorem Aw:eb (gV t).2.2:=by
 unfold gV;repeat' split
 all_goals first|exact⟨aG,aG⟩|apply UR|exact gB (λ_=>by apply WM) _ _|exact gB (λ_=>by apply V9) _ _
theorem RA:eb (gP t).2.2:=by
 have h:=Aw t;unfold gP ja;repeat' split
 all_goals first|exact⟨aG,aG⟩|exact(show eb 0 from⟨aG,aG⟩)|exact h
theorem Y5 (a:cQ)(j:Nat):eb (dA a j):=by
 unfold dA;split;apply F8;apply Aw;apply Fy;apply GB;apply Gh
 ·split;exact pu;exact gB (λi=>by unfold Kj;(repeat' split);all_goals exact pu) _ _
 ·split;exact pu;exact gB (λi=>by unfold Lh;(repeat' split);all_goals first|exact⟨aG,aG⟩|apply fq) _ _
 split<;>exact pu;apply RA;apply FM;exact pu
theorem FE (a:cQ):eb (cF a).2:=by unfold cF;split;exact pu;exact gB (Y5 a) _ _
end
theorem nC {B:Nat}: ∀{l:List Wd},(∀w∈l,w.length<=B)->(pL l).length<=l.length*(B+1)
 |[],_=>by simp [pL]
 |[w],h=>by have:=h w aF;simp [pL];omega
 |w::v::l,h=>by have b:=h w aF;have c:=nC (l:=v::l) (λx hx=>h x (by simp [hx]));show (w++32::pL (v::l)).length<=_;rw[eP,b3,b3 (a:=w),Nat.add_mul];omega
theorem Ac {l:List Int}(hl:l.length<=1000)(h: ∀x∈l,-9223372036854775808<=x/\x<=9223372036854775807):Ev an 249 [ints l] (bh (nQ l)):=by
 apply Nw l af h;have:=nC (l:=l.map fX) (by
  intro w a
  obtain⟨x,hx,rfl⟩:=cD.1 a
  exact Lib.itoa_length_le x (h x hx).1 (h x hx).2)
 rw[ap]at this;omega
theorem PX {a:List Wd}{l:List Int}(hl:l.length<=1000)(h: ∀i∈l,0<=i/\i.toNat<a.length)(b: ∀w∈a,w.length<=16):Ev an 257 [strs a,ints l] (bh (wz a l)):=by apply P3 a l af h;have:=nC (B:=16) (l:=l.map λi=>a.getD i.toNat []) bD;rw[ap]at this;omega
structure cQ.OK (a:cQ):Prop where
 w:a.wf
 z:(cF a).2=0
theorem cQ.OK.e {a:cQ}(h:a.OK): ∀j,j<10->dA a j=0:=by have b:=h.z;unfold cF at b;split at b;rename_i c;exact λj d=>eN.1 c j d;grind
theorem zR {s:Wd}(h:eI s=true):s.length<=16:=by unfold eI at h;simp at h;omega
variable {a:cQ}
theorem cQ.OK.li (h:a.OK):a.li.OK:=Dv h.w.li (h.e 3 aG)
theorem cQ.OK.ch (h:a.OK):a.ch.OK:=EE h.w.ch (h.e 4 aG)
theorem cQ.OK.dr (h:a.OK):a.dr.OK:=Ls h.w.dr (h.e 2 aG)
theorem cQ.OK.sh (h:a.OK):DU a.sh:=zF.1 (h.e 0 aG)
theorem cQ.OK.held (h:a.OK):(rK a.li).2=0:=by have:ig a.li 0 []=0:=h.e 9 aG;unfold rK;rw[zj af]
theorem V8 (b:Nat)(c:AV)(hl:(a.sh.bi).length<=1000000):B7 an 143 [.po b 0] [cU b a c] (λ_=>strs (a.sh.bi.map (·.name))) (λ_=>[cU b a c]):=by
 refine B7.vc alQ.ok (kh [(8,[.ev (W4 a.sh.bi 238 [] (·.name) hl λx _=>R7 x)])]) (lh []) ?_;repeat' first|apply aN|apply aM|apply aL|apply ax|apply ad|(intro d;(try simp at d);(try contradiction))
 all_goals try exact fi _
 exact⟨⟨0,az _,⟨zz,zz⟩⟩⟩
theorem Rg (b:Nat)(c:AV)(hl:(a.ch.pe).length<=1000000):B7 an 144 [.po b 0] [cU b a c] (λ_=>strs (a.ch.pe)) (λ_=>[cU b a c]):=by
 apply B7.vc akg.ok (kh []) (lh []);repeat' first|apply aN|apply aM|apply aL|apply ax|apply ad|(intro d;(try simp at d);(try contradiction))
 all_goals try exact fi _
 exact⟨⟨0,az _,⟨zz,zz⟩⟩⟩
theorem QL (b:Nat)(c:AV)(hl:(a.dr.hs).length<=1000000):B7 an 145 [.po b 0] [cU b a c] (λ_=>strs (a.dr.hs.map (·.nm))) (λ_=>[cU b a c]):=by
 refine B7.vc ajC.ok (kh [(8,[.ev (Vj a.dr.hs 240 [] (·.nm) hl λx _=>LM x)])]) (lh []) ?_;repeat' first|apply aN|apply aM|apply aL|apply ax|apply ad|(intro d;(try simp at d);(try contradiction))
 all_goals try exact fi _
 exact⟨⟨0,az _,⟨zz,zz⟩⟩⟩
theorem PB (b:Nat)(c:AV)(hl:(a.li.su).length<=1000000):B7 an 146 [.po b 0] [cU b a c] (λ_=>strs (a.li.su.map (·.nm))) (λ_=>[cU b a c]):=by
 refine B7.vc aj3.ok (kh [(8,[.ev (TE a.li.su 242 [] (·.nm) hl λx _=>SF x)])]) (lh []) ?_;repeat' first|apply aN|apply aM|apply aL|apply ax|apply ad|(intro d;(try simp at d);(try contradiction))
 all_goals try exact fi _
 exact⟨⟨0,az _,⟨zz,zz⟩⟩⟩
theorem HM (b:Nat)(c:AV)(hl:(a.li.cl).length<=1000000):B7 an 147 [.po b 0] [cU b a c] (λ_=>strs (a.li.cl)) (λ_=>[cU b a c]):=by
 apply B7.vc aiB.ok (kh []) (lh []);repeat' first|apply aN|apply aM|apply aL|apply ax|apply ad|(intro d;(try simp at d);(try contradiction))
 all_goals try exact fi _
 exact⟨⟨0,az _,⟨zz,zz⟩⟩⟩
abbrev wI (b:Nat):av->Prop:=λh=> ∃cs,cs.length=27/\h=[(b,.cells 66 cs)]
theorem eV {b:Nat}{cs:List AV}{h:av}(e:h=[])(hc:cs.length=27): ∃g,wI b g/\g.Sublist (xo [(b,.cells 66 cs)] 0 0 h):=by subst e;exact⟨_,⟨cs,hc,zz⟩,az _⟩
theorem dR {b:Nat}{x:Nat×dp}{h:av}(e:wI b h): ∃g,wI b g/\g.Sublist (xo [x] 0 1 h):=⟨h,e,by simp [xo]⟩
theorem FN {b:Nat}{cs:List AV}{y:Nat×dp}{h:av}(e:h=[])(hc:cs.length=27): ∃g,wI b g/\g.Sublist (xo [(b,.cells 66 cs),y] 0 0 h):=by subst e;exact⟨_,⟨cs,hc,zz⟩,(ds _).cons_cons _⟩
def jx.is:jx->Bool
 | .inl _=>false
 | .inr _=>true
def jx.arc (a:cQ):jx->cQ
 | .inl _=>a
 | .inr x=>x.1
def jx.say:jx->Wd
 | .inl _=>[]
 | .inr x=>x.2
def jx.err:jx->Int
 | .inl e=>e
 | .inr _=>0
def ml (f:Nat)(a:cQ)(ws:List Wd)(n:List Int)(r:jx):Prop:= ∀b,FX an f [.po b 0,ints n] [cU b a (strs ws)] r.is (bh r.say) [cU b (r.arc a) (strs ws)] (xz r.err) (wI b)
section
theorem T5:eb 0:=pu
theorem eb2:eb 2:=pu
theorem eb4:eb 4:=pu
theorem eb7:eb 7:=pu
theorem eb8:eb 8:=pu
theorem eb9:eb 9:=pu
theorem P8 {l:List Wd}(h: ∀j,j<l.length->dT l j=0): ∀w∈l,w.length<=16:=by
 intro w b;obtain⟨j,a⟩:=b6.1 b;have:=h j (cc.1 a).1;unfold dT at this;rw[a]at this;simp only at this;apply zR;cases c:eI w with
 |true=>rfl
 |false=>grind
variable {a:cQ} (ok:a.OK)
include ok
theorem J1: ∀w∈a.li.su.map (·.nm),w.length<=16:=by
 have h:=ok.e 3 aG;simp only[dA]at h;unfold ei at h;repeat' split at h
 all_goals first|cases h|contradiction|skip
 all_goals try (rename_i f b g h4)
 have b:=(pb (eS.1 b)).2;intro w d;obtain⟨x,hx,rfl⟩:=cD.1 d;obtain⟨j,c⟩:=b6.1 hx;have:=b j (cc.1 c).1;unfold tc at this;rw[c]at this;simp only at this;apply zR;cases i:eI x.nm with
 |true=>rfl
 |false=>grind
theorem WQ: ∀w∈a.li.cl,w.length<=16:=by have h:=ok.e 3 aG;simp only[dA]at h;unfold ei at h;split at h;grind;rename_i b;exact P8 (pb (eS.1 b)).2
theorem OI:(rK a.li).1.length<=1000/\ ∀i∈(rK a.li).1,0<=i/\i.toNat<(a.li.su.map (·.nm)).length:=by have b:=ok.li.s5;unfold rK;split;grind;unfold E7;refine⟨?_,?_⟩;grind;grind
theorem Hm:(tB a.ch).2=0/\(tB a.ch).1.length<=1000/\ ∀x∈(tB a.ch).1,-9223372036854775808<=x/\x<=9223372036854775807:=by
 have j:ib a.ch []=0:=by have:=ok.e 4 aG;simp only[dA]at this;unfold ib;rw[zj af];rfl
 have g:=ok.ch.la;unfold tB;rw[zj af];refine⟨zz,?_⟩;have key: ∀(L:List Nat) (x:List pC×List Int),(∀n∈L,n<1000)->(∀v∈x.2,0<=v/\v<=1000)->(L.foldl qt x).2.length<=x.2.length+L.length/\ ∀v∈(L.foldl qt x).2,0<=v/\v<=1000:=by
  intro L;induction L with
  |nil=>grind
  |cons n L i=>
   intro x f hx;have h:=f n aF;have st:(qt x n).2.length<=x.2.length+1/\ ∀v∈(qt x n).2,0<=v/\v<=1000:=by
    have c:(x.2++[(n:Int)+1]).length<=x.2.length+1/\ ∀v∈x.2++[(n:Int)+1],0<=v/\v<=1000:=by
     refine⟨aF,λv hv=>?_⟩;rcases fj.1 hv with hv|hv
     exact hx v hv;simp at hv;omega
    unfold qt;split;split;exact⟨aF,hx⟩;exact c;exact c
   obtain⟨d,b⟩:=i (qt x n) (λm hm=>f m (by simp [hm])) st.2;rw[ff,b3];exact⟨af,b⟩
 obtain⟨d,b⟩:=key (a6 a.ch.la.toNat) (a.ch.co,[]) (λn h=>bD) (λv hv=>by cases hv);rw[b7]at d;refine⟨bD,λx hx=>?_⟩;have:=b x hx;omega
theorem xy:ja a.tw (kY a.tw)=0:=by have h:=ok.e 8 aG;simp only[dA]at h;unfold gP at h;split at h;assumption;exact h
theorem vz:a.tw.OK/\a.tw.ms.length<=5:=(jP ok.w.tw).1 (nt.1 (xy ok)).1
theorem Ej:(fQ a.tw).2=0:=by unfold fQ;rw[zy (xy ok)]
theorem DG: ∀x∈[(fQ a.tw).1.1,(fQ a.tw).1.2],-9223372036854775808<=x/\x<=9223372036854775807:=by
 have f:=(vz ok).2;have key: ∀(L:List (List Nat)) (x:Sp×Bool),(∀p∈L,eW p<=1000)->(0<=x.1.1/\x.1.1<=1000/\0<=x.1.2/\x.1.2<=1000)->
   let y:=(L.foldl (λ(x:Sp×Bool) p=>(rB x.1 (((eW p:Nat):Int),((eW p:Nat):Int)) x.2,false)) x).1
   0<=y.1/\y.1<=1000/\0<=y.2/\y.2<=1000:=by
  intro L
  induction L with
  |nil=>grind
  |cons p L e=>
   intro x b hx
   have c:=b p aF
   refine e _ (λq d=>b q (by simp [d])) ?_
   show 0<=(rB x.1 _ x.2).1/\(rB x.1 _ x.2).1<=1000/\0<=(rB x.1 _ x.2).2/\(rB x.1 _ x.2).2<=1000
   unfold rB
   split
   ·grind
   ·grind
 unfold fQ;rw[zy (xy ok)];have hk:=key (db a.tw iR) ((0,0),true) (λp c=>by
  have:=(jc (fk.1 c).1).le
  omega) aF
 intro x hx;simp at hx;change 0<=(Bo _ _).1/\(Bo _ _).1<=1000/\0<=(Bo _ _).2/\(Bo _ _).2<=1000 at hk;rcases hx with rfl|rfl<;>omega
omit ok in
theorem F1 (t:be)(w:t.wf):(0:Int)<=(gP t).2.1/\(gP t).2.1<=1000:=by unfold gP;split;rename_i h;have b:=((jP w).1 (nt.1 h).1).2;have h:=pB (n:=t.ms.length) af;have a:(db t iR).length<=(fg t.ms.length).length:=bs _ _;simp only;omega;grind
omit ok in
theorem Iu (d:ln)(h:Int):eb (jF d h).2:=by grind [jF,T5,eb9,eb4,eb7,eb2,Fy]
omit ok in
theorem JU {d:ln}{h:Int}(a:(jF d h).2=0)(hc:(dF d).2.2=0):0<=(jF d h).1/\(jF d h).1.toNat<d.cs.length:=by
 unfold jF at a ⊢;split at a;grind;split at a;cases a;split at a;cases a;rename_i g i b;rw[zj g,zj i,zj b];have e:=Jb d;obtain⟨t,L,f⟩:=List.exists_cons_of_ne_nil e;have hm:t∈(mL d).1:=by rw[f];simp
 have c:=sS (FY hm);rw[f]at b ⊢;simp only[gx,e9,not_or,ek,e6,beq_eq_false_iff_ne,Bool.or_eq_false_iff]at b ⊢;have j:=HA c h.toNat;rw[<-K3]at j;have:=b.1.2;omega
omit ok in
theorem SX {t:be}{e:Int}(h:eb e):eb (ja t e):=by
 unfold ja;repeat' split
 all_goals first|exact h|exact eb8|exact T5
omit ok in
theorem OD (t:be)(x:fw):eb (vh t x).2:=by grind [vh,uv,T5,SX,Aw,Od]
theorem Uf (x:fw):(vh a.tw x).1.length<=1000/\ ∀v∈(vh a.tw x).1,-9223372036854775808<=v/\v<=9223372036854775807:=by
 have c:=(vz ok).2;have key: ∀(s:Int) (n:Nat),∀v∈dx s n,0<=v/\v<n:=by
  intro s n;induction n with
  |zero=>intro v hv;simp [dx]at hv
  |succ n b=>
   intro v hv;rw[jd]at hv;rcases fj.1 hv with hv|hv
   have:=b v hv;omega;split at hv;simp at hv;omega;cases hv
 unfold vh;split;refine⟨by have:=oW (zP a.tw.ms.length (db (kB a.tw x) iR):Nat) a.tw.ms.length;simp only;omega,λv hv=>?_⟩;have:=key _ _ v hv;omega;grind
omit ok in
theorem SJ {e:Int}{l:List Wd}(h:eb e):eb (rZ e l):=by unfold rZ;split;exact fq _;exact h
omit ok in
theorem VZ (s:Shelf)(n:Int):eb (iw s n):=by grind [iw,T5,eb9,eb4,eb7,eb2,F8]
omit ok in
theorem E8 (s:Shelf)(n:Int)(l:List Wd):eb (gh s n l).2.2:=by
 unfold gh;repeat' split
 all_goals first|exact T5|exact eb9|exact eb4|exact eb7|exact eb2|exact SJ (VZ _ _)
theorem Jp (n:Int)(l:List Wd):(0:Int)<=(gh a.sh n l).2.1/\(gh a.sh n l).2.1<=1024:=by have c:=ok.sh;unfold gh;split;rename_i h;split;grind;rename_i m ms d;have:(nS (partsOf a.sh n) l).length<=1024:=(by unfold partsOf;split;rename_i f b;exact(N8 (c.bi f (bm b)).2 l).2;exact hf (bs _ _) aG);rw[d]at this;simp only;omega;grind
omit ok in
theorem Ou (m:gO)(i:Int):eb (qY m i).2:=by
 unfold qY;repeat' split
 all_goals first|exact T5|exact eb9|exact eb4|exact eb7|exact eb2|exact FM _ _ _
omit ok in
omit ok in
theorem Fh (c:mh)(l:List (Int×Int)):eb (ib c l):=by
 unfold ib;repeat' split
 all_goals first|exact T5|exact eb9|exact eb4|exact eb7|exact eb2|exact Gh _
omit ok in
theorem Jq (c:mh)(p:Int)(l:List Int):eb (qq c p l).2:=by
 unfold qq oc;repeat' split
 all_goals first|exact T5|exact eb9|exact eb4|exact eb7|exact eb2|exact Fh _ _
omit ok in
theorem N2 (c:mh)(p n:Int):eb (xf c p n).2:=by
 unfold xf;repeat' split
 all_goals first|exact T5|exact eb9|exact eb4|exact eb7|exact eb2|exact Fh _ _
end
theorem abW (hk:k<10)(c: ∀j,j<k->dA a j=0)(b:dA a k≠0):cF a=((k:Int)+1,dA a k):=by unfold cF;rw[GV hk c b,zj b]
theorem X8 (b: ∀j,j<10->dA a j=0):cF a=(0,0):=by unfold cF;rw[zy (eN.2 b)]
theorem agr (a:cQ):dA a 7=if ae 0 9999 [a.ca]=true then 7 else 0:=by show (if a.ca<0\/9999<a.ca then(7:Int)else 0)=_;unfold ae;simp
theorem ad3 (h:dA a 1=0):dA a 8=if ((db a.tw (tV [])).length:Int)=0 then 8 else 0:=by
 have h:kY a.tw=0:=h;show (gP a.tw).2.2=_;have e:tV []=iR:=rfl
 unfold gP;rw[h,e];unfold ja;cases db a.tw iR<;>simp;omega
theorem adJ (w:a.wf)(h:dA a 3=0):dA a 9=if ((TR a.li a.li.su.length).length:Int)=0 then 8 else 0:=by
 have h:(ei a.li).2.2=0:=h;show ig a.li 0 []=_;unfold ig;rw[Si (Dv w.li h),zj (λg=>g h),zj (by decide)];cases bu a.li (df a.li 0)<;>simp;omega
theorem WK (w:a.wf)(h4:dA a 4=0)(b:dA a 5=0):Zi a=dA a 6:=by
 have ok:=EE w.ch h4;have he:(a.ix.length:Int)=a.ch.wo:=de λe=>by rw[yu e]at b;cases b
 exact ac7 (by have:=ok.wo;omega) (λx hx=>by obtain⟨_,⟨w0,w1⟩,_⟩:=ok.co x hx;rw[show a.ix.length=a.ch.wo.toNat from by omega];omega)
theorem Ev.agj {P:Program}{f:FuncId}{ps d:List AV}{r:AV}(h:Ev P f ps r)(hs:mg d ps):Ev P f d r:=⟨h.1,λS w e b c a=>h.2 S w e b c (hs S e a)⟩
theorem LA (a:cQ)(w:a.wf):Ev an 36 [.agg a.ao] (.cG [I (cF a).1,I (cF a).2]):=by
 have G:(eh a.sh).2.2=dA a 0:=rfl;have H:(gV a.tw).2.2=dA a 1:=rfl;have J:(dF a.dr).2.2=dA a 2:=rfl;have M:(ei a.li).2.2=dA a 3:=rfl;have N:(eK a.ch).2.2=dA a 4:=rfl
 have P:=MW a.sh w.sh;have Q:=MP a.tw w.tw;have R:=MU a.dr w.dr;have S:=MJ a.li w.li;have T:=Nd a.ch w.ch;rw[G]at P;rw[H]at Q;rw[J]at R;rw[M]at S;rw[N]at T
 have d: ∀k,k<10->(∀j,j<k->dA a j=0)->dA a k≠0->(cF a).1=(k:Int)+1/\(cF a).2=dA a k:=λk l f m=>by rw[abW l f m];exact⟨zz,zz⟩
 have call:(∀j,j<10->dA a j=0)->(cF a).1=0/\(cF a).2=0:=λh=>by rw[X8 h];exact⟨zz,zz⟩
 generalize (cF a).1=t at *;generalize (cF a).2=u at *
 obtain⟨e,z⟩: ∃L,L=[dA a 0,dA a 1,dA a 2,dA a 3,dA a 4]:=⟨_,zz⟩;obtain⟨c,A⟩: ∃L,L=[dA a 5,Zi a]:=⟨_,zz⟩
 have hn:e.length=5:=by rw[z];rfl
 have hm:c.length=2:=by rw[A];rfl
 have hx: ∀k,k<5->nx e k=dA a k:=λk h=>by subst z;match k,h with|0,_=>rfl|1,_=>rfl|2,_=>rfl|3,_=>rfl|4,_=>rfl
 have hy:nx c 0=dA a 5/\nx c 1=Zi a:=by subst A;exact⟨zz,zz⟩
 clear G H J M N
 obtain⟨Z,b⟩: ∃Z:Nat->Prop, ∀n,Z n↔ ∀j,j<n->dA a j=0:=⟨λn=> ∀j,j<n->dA a j=0,λn=>ht⟩
 have o: ∀n,Z n->dA a n=0->Z (n+1):=λn l f=>(b _).2 λj y=>by rcases cd.1 y with h|rfl;exact(b n).1 l j h;exact f
 have z0:Z 0:=(b 0).2 λj y=>by omega
 have c1: ∀k,k<e.length->Z k-> ¬nx e k=0->t=(k:Int)+1/\u=nx e k:=λk h l f=>by rw[hx k (by omega)]at f ⊢;exact d k (by omega) ((b k).1 l) f
 have c2: ∀k,k<e.length->Z k->nx e k=0->Z (k+1):=λk h l f=>o k l (by rw[<-hx k (by omega)];exact f)
 have F: ∀k,k<=e.length-> ¬k<e.length->Z k->Z 5:=λk l f h=>by rwa [show k=5 from by omega]at h
 obtain⟨Y,s⟩: ∃Y:Nat->Prop, ∀n,Y n↔ ∀j,j<n->nx c j=0:=⟨λn=> ∀j,j<n->nx c j=0,λn=>ht⟩
 have y0:Y 0:=(s 0).2 λj y=>by omega
 have y1: ∀k,k<c.length->Y k->nx c k=0->Y (k+1):=λn q l f=>(s _).2 λj y=>by rcases cd.1 y with h|rfl;exact(s n).1 l j h;exact f
 have X:Z 5-> ∀k,k<c.length->Y k-> ¬nx c k=0->t=(k:Int)+6/\u=nx c k:=λr k l f m=>by
  match k,show k<2 by omega with
  |0,_=>rw[hy.1]at m ⊢;have:=d 5 (by omega) ((b 5).1 r) m;exact⟨by rw[this.1];rfl,this.2⟩
  |1,_=>rw[hy.2]at m ⊢;have q:dA a 5=0:=by rw[<-hy.1];exact(s 1).1 f 0 (by omega)
        rw[WK w ((b 5).1 r 4 (by omega)) q]at m ⊢;have:=d 6 (by omega) ((b 6).1 (o 5 r q)) m;exact⟨by rw[this.1];rfl,this.2⟩
 have y7:Z 5-> ∀k,k<=c.length-> ¬k<c.length->Y k->Z 7:=λr k l f m=>by
  have m:=(s k).1 m;have q:dA a 5=0:=by rw[<-hy.1];exact m 0 (by omega)
  have O:=m 1 (by omega);rw[hy.2,WK w ((b 5).1 r 4 (by omega)) q]at O;exact o 6 (o 5 r q) O
 have v:=agr a
 have v1:Z 7->ae 0 9999 [a.ca]=true->t=8/\u=7:=λh g=>by rw[zy g]at v;have:=d 7 (by omega) ((b 7).1 h) (by rw[v];decide);rw[v]at this;exact this
 have v2:Z 7->ae 0 9999 [a.ca]=false->Z 8:=λh g=>o 7 h (by rw[v,zj (by rw[g];decide)])
 have U:Z 8->((db a.tw (tV [])).length:Int)=0->t=9/\u=8:=λh g=>by have p:=ad3 ((b 8).1 h 1 (by omega));rw[zy g]at p;have:=d 8 (by omega) ((b 8).1 h) (by rw[p];decide);rw[p]at this;exact this
 have v4:Z 8-> ¬((db a.tw (tV [])).length:Int)=0->Z 9:=λh g=>o 8 h (by rw[ad3 ((b 8).1 h 1 (by omega)),zj g])
 have V:Z 9->((TR a.li a.li.su.length).length:Int)=0->t=10/\u=8:=λh g=>by have p:=adJ w ((b 9).1 h 3 (by omega));rw[zy g]at p;have:=d 9 (by omega) ((b 9).1 h) (by rw[p];decide);rw[p]at this;exact this
 have W:Z 9-> ¬((TR a.li a.li.su.length).length:Int)=0->t=0/\u=0:=λh g=>call ((b 10).1 (o 9 h (by rw[adJ w ((b 9).1 h 3 (by omega)),zj g])))
 have k9:=cO a.ca 0 9999;have kT:Z 5->Ev an 88 [.agg a.li.ao] (lists (TR a.li a.li.su.length)):=λh=>abV _ (Dv w.li ((b 5).1 h 3 (by omega)))
 have kU:Z 5->Ev an 87 [.agg a.tw.ao,ints []] (lists (db a.tw (tV []))):=λh=>M6 ((jP w.tw).1 ((b 5).1 h 1 (by omega))).1 []
 have k5:=abt a w;have k6:=abZ a w;have m0:e.map (λx=>[I x])=[[I (dA a 0)],[I (dA a 1)],[I (dA a 2)],[I (dA a 3)],[I (dA a 4)]]:=by rw[z];rfl
 have m2:c.map (λx=>[I x])=[[I (dA a 5)],[I (Zi a)]]:=by rw[A];rfl
 clear d call z A hx hy b s o v
 refine di S36.ok (kh [(1,[.i .bY]),(25,[.ev P]),(32,[.ev Q]),(39,[.ev R]),(46,[.ev S]),(53,[.ev T]),(81,[.ev k5]),(83,[.ev k6]),(104,[.ev k9]),(108,[.i (.ret (lists (db a.tw (tV []))))]),(113,[.i (.ret (lists (TR a.li a.li.su.length)))])]) (lh [(0,{n:=e.length,E:=λk=>[(1,.pi a.ao),(19,ints e),(20,I k)],I:=Z,K:=λk=>[(71,[.i (.cells [I (nx e k)])]),(78,[.i (.cells [I (nx e k)])])]}),(2,{n:=c.length,E:=λk=>[(1,.pi a.ao),(19,ints c),(21,I k)],I:=Y,K:=λk=>[(93,[.i (.cells [I (nx c k)])]),(100,[.i (.cells [I (nx c k)])])]})]) ?_
 repeat' first|apply aN|apply aM|apply aL|apply ax|apply ad|(intro hq;(try simp only[nL]at hq);(try contradiction))
 all_goals try first|exact fo _|exact fi _|exact⟨af,mR bB⟩|exact⟨rfl,m0.symm⟩|exact⟨rfl,m2.symm⟩|exact⟨rfl,(c1 _ bB bB bB).1.symm⟩|exact⟨rfl,(c1 _ bB bB bB).2.symm⟩|exact⟨c2 _ bB bB bB⟩|exact⟨y1 _ bB bB bB⟩|exact⟨rfl,(X (F _ bB bB bB) _ bB bB bB).1.symm⟩|exact⟨rfl,(X (F _ bB bB bB) _ bB bB bB).2.symm⟩
 all_goals (have s5:Z 5:=F _ bB bB bB;have C:Z 7:=y7 s5 _ bB bB bB)
 all_goals try first|exact⟨rfl,(v1 C bB).1.symm⟩|exact⟨rfl,(v1 C bB).2.symm⟩|exact⟨(kU s5).agj (mg.cons (mg.ky (mg.refl [])))⟩
 all_goals (have D:Z 8:=v2 C bB)
 all_goals try first|exact⟨rfl,(U D bB).1.symm⟩|exact⟨rfl,(U D bB).2.symm⟩
 all_goals (have B:Z 9:=v4 D bB)
 all_goals try first|exact⟨kT s5⟩|exact⟨rfl,(V B bB).1.symm⟩|exact⟨rfl,(V B bB).2.symm⟩|exact⟨rfl,(W B bB).1.symm⟩|exact⟨rfl,(W B bB).2.symm⟩
section
def fnK:Kd->Nat
 | .bi=>143
 | .mw=>144
 | .D7=>145
 | .oJ=>146
 |_=>147
def tyK:Kd->Nat
 | .num _=>253
 | .Bg _=>257
 | .fresh=>256
 |_=>251
def uK:Kd->Value
 | .num o=>.agg #[.bool o]
 | .Bg s=>.string ⟨s.toArray⟩
 | .fresh=>.agg #[]
 |k=>.agg #[.func (.func (fnK k)) #[] #[]]
abbrev zi (k:Kd):Value:=.iface (tyK k) (uK k)
def isC:Kd->Bool
 | .num _| .Bg _| .fresh=>false
 |_=>true
theorem fK.fn0 (f:Nat):fK (.agg [.v (.func (.func f) #[] #[])]) (.agg [.fn (.func f) [] []]):=by intro S v h;simp only[bf,aS]at h ⊢;obtain⟨cs,e,c,a,b,rfl,rfl⟩:=h;exact⟨cs,e,_,_,b,⟨[],[],zz,zz,zz⟩,zz⟩
variable {a:cQ} (ok:a.OK)
theorem HW {k:Kd}(hk:isC k=true){s:Wd}(hs:s≠[]):iZ a k s=if bM (λx=>x==s) (qf a k) 0<0 then some (0,4)else some (bM (λx=>x==s) (qf a k) 0,0):=by unfold iZ;rw[zj hs];cases k<;>first|rfl|cases hk
include ok
theorem Vd (k:Kd)(hk:isC k=true)(b:Nat)(ws:List Wd):B7 an (fnK k) [.po b 0] [cU b a (strs ws)] (λ_=>strs (qf a k)) (λ_=>[cU b a (strs ws)]):=by
 cases k with
 |bi=>exact V8 b (strs ws) (by have:=ok.sh.f4;omega)
 |mw=>exact Rg b (strs ws) (by have:=ok.ch.p3;omega)
 |D7=>exact QL b (strs ws) (by have:=ok.dr.h4;omega)
 |oJ=>exact PB b (strs ws) (by have:=ok.li.s5;omega)
 |iT=>exact HM b (strs ws) (by have:=ok.li.c4;omega)
 |_=>cases hk
theorem WB (k:Kd)(hk:isC k=true)(b:Nat)(ws:List Wd):B7 an 169 [.agg [.fn (.func (fnK k)) [] []],.po b 0] [cU b a (strs ws)] (λ_=>strs (qf a k)) (λ_=>[cU b a (strs ws)]):=by
 have h:=Vd ok k hk b ws;refine B7.vc ahL.ok (kh [(8,[.b 0 h])]) (lh []) ?_;repeat' first|apply aN|apply aM|apply aL|apply ax|apply ad|(intro c;(try simp at c);(try contradiction))
 all_goals try exact fi _
 exact⟨⟨0,az _,⟨zz,zz⟩⟩⟩
omit ok in
theorem Jj (s:Wd)(x:AV):Ev an 168 [bh s,x] (strs [s]):=iG ait.ok [] []
omit ok in
theorem kz {c d:Bool}(h:c=d):fK (B c) (B d):=by rw[h];exact bj _
omit ok in
theorem Xn (l:List Wd)(s:Wd):bM (λx=>s==x) l 0=bM (λx=>x==s) l 0:=by congr 1;funext x;rw[bI,beq_iff_eq,beq_iff_eq];exact eq_comm
omit ok in
theorem rh {s:Wd}(h:s≠[]):fK (B (!((bk s.toArray).toList==(bk #[]).toList))) (B true):=by
 have:(!((bk s.toArray).toList==(bk #[]).toList))=true:=by simpa using h
 rw[this];exact bj _
omit ok in
theorem YA:fK (B (!((bk #[]).toList==(bk #[]).toList))) (B false):=by grind [fK.refl]
def Pm (a:cQ)(b:Nat)(ws:List Wd)(k:Kd)(s:Wd)(r:Option (Int×Int)):Prop:=FX an 77 [.po b 0,.v (zi k),bh s] [cU b a (strs ws)] r.isSome (.cG [I (r.getD (0,0)).1,I (r.getD (0,0)).2]) [cU b a (strs ws)] (xz 6) (wI b)
theorem Au (b:Nat)(ws:List Wd)(k:Kd)(s:Wd)(hs:s.length<=1000):Pm a b ws k s (iZ a k s):=by
 have c:=λso=>cu so 6 zz aG;by_cases e:s=[]
 ·rw[show iZ a k s=none by unfold iZ;rw[zy e]];subst e;unfold Pm;refine cV S77.ok (kh [(13,[.u 0 (c false)])]) (lh []) ?_;repeat' first|apply aN|apply aM|apply aL|apply ax|apply ad|(intro d;(try simp at d);(try contradiction))
  all_goals try first|exact fo _|exact⟨YA⟩|exact⟨eV bB rfl⟩|exact fi _
 cases hc:isC k with
 |true=>
  have j:=WB ok k hc b ws;have hi:=GF (qf a k) s;rw[Xn]at hi;have p:=xx (λx=>x==s) (qf a k) 0 (ho _);rw[HW hc e];generalize bM (λx=>x==s) (qf a k) 0=i at hi p;unfold Pm;rw[show zi k= .iface 251 (.agg #[.func (.func (fnK k)) #[] #[]])by cases k<;>first|rfl|cases hc];by_cases uT:i<0
  ·rw[zy uT];refine cV S77.ok (kh [(13,[.u 0 (c true)]),(43,[.b 0 j]),(45,[.ev hi])]) (lh []) ?_;repeat' first|apply aN|apply aM|apply aL|apply ax|apply ad|(intro d;(try simp at d);(try contradiction))
   all_goals try first|exact fo _|exact⟨rh e⟩|exact⟨fK.fn0 _⟩|exact fi _
  rw[zj uT];refine cV S77.ok (kh [(13,[.u 0 (c true)]),(43,[.b 0 j]),(45,[.ev hi])]) (lh []) ?_;repeat' first|apply aN|apply aM|apply aL|apply ax|apply ad|(intro d;(try simp at d);(try contradiction))
  all_goals try first|exact fo _|exact⟨rh e⟩|exact⟨fK.fn0 _⟩|exact fi _
 |false=>
  have hd:=P9 s af;have m:=sP s;unfold Pm;cases k with
  |num o=>
   have j:iZ a (.num o) s=if o=true/\s=[45]then some (-1,0)else if tM s<0 then none else some (tM s,0):=by unfold iZ;rw[zj e]
   rw[j];clear j;generalize tM s=v at hd m;cases o with
   |false=>
    rw[zj aF];by_cases l:v<0
    ·rw[zy l];refine cV S77.ok (kh [(13,[.u 0 (c true)]),(19,[.ev hd]),(20,[.sT 8]),(21,[.i (.at 1)]),(28,[.u 0 (c false)])]) (lh []) ?_;repeat' first|apply aN|apply aM|apply aL|apply ax|apply ad|(intro d;(try simp at d);(try contradiction))
     all_goals try first|exact fo _|exact⟨rh e⟩|exact⟨kz (decide_eq_false af)⟩|exact⟨FN bB rfl⟩|exact fi _
    rw[zj l];refine cV S77.ok (kh [(13,[.u 0 (c true)]),(19,[.ev hd]),(20,[.sT 8]),(21,[.i (.at 1)]),(28,[.u 0 (c true)])]) (lh []) ?_;repeat' first|apply aN|apply aM|apply aL|apply ax|apply ad|(intro d;(try simp at d);(try contradiction))
    all_goals try first|exact fo _|exact⟨rh e⟩|exact⟨kz (decide_eq_true af)⟩|exact fi _
   |true=>
    by_cases g:s=[45]
    ·rw[zy ⟨zz,g⟩];subst g;refine cV S77.ok (kh [(13,[.u 0 (c true)]),(19,[.ev hd]),(20,[.sT 8]),(21,[.i (.at 1)])]) (lh []) ?_;repeat' first|apply aN|apply aM|apply aL|apply ax|apply ad|(intro d;(try simp at d);(try contradiction))
     all_goals try first|exact fo _|exact⟨rh e⟩|exact fi _
    rw[zj (λh=>g h.2)];by_cases l:v<0
    ·rw[zy l];refine cV S77.ok (kh [(13,[.u 0 (c true)]),(19,[.ev hd]),(20,[.sT 8]),(21,[.i (.at 1)]),(28,[.u 0 (c false)])]) (lh []) ?_;repeat' first|apply aN|apply aM|apply aL|apply ax|apply ad|(intro d;(try simp at d);(try contradiction))
     all_goals try first|exact fo _|exact⟨rh e⟩|exact⟨kz (decide_eq_false af)⟩|exact⟨FN bB rfl⟩|exact fi _
    rw[zj l];refine cV S77.ok (kh [(13,[.u 0 (c true)]),(19,[.ev hd]),(20,[.sT 8]),(21,[.i (.at 1)]),(28,[.u 0 (c true)])]) (lh []) ?_;repeat' first|apply aN|apply aM|apply aL|apply ax|apply ad|(intro d;(try simp at d);(try contradiction))
    all_goals try first|exact fo _|exact⟨rh e⟩|exact⟨kz (decide_eq_true af)⟩|exact fi _
  |Bg w=>
   have n:=nG [w] s;rw[show iZ a (.Bg w) s=if s=w then some (0,0)else none by unfold iZ;rw[zj e]];by_cases f:s=w
   ·rw[zy f];refine cV S77.ok (kh [(13,[.u 0 (c true)]),(34,[.ev (Jj w (.po b 0))]),(36,[.ev n]),(37,[.u 0 (c true)])]) (lh []) ?_;repeat' first|apply aN|apply aM|apply aL|apply ax|apply ad|(intro d;(try simp at d);(try contradiction))
    all_goals try first|exact fo _|exact⟨rh e⟩|exact⟨kz (by simp [f])⟩|exact fi _
   rw[zj f];refine cV S77.ok (kh [(13,[.u 0 (c true)]),(34,[.ev (Jj w (.po b 0))]),(36,[.ev n]),(37,[.u 0 (c false)])]) (lh []) ?_;repeat' first|apply aN|apply aM|apply aL|apply ax|apply ad|(intro d;(try simp at d);(try contradiction))
   all_goals try first|exact fo _|exact⟨rh e⟩|exact⟨kz (by simp [f])⟩|exact⟨eV bB rfl⟩|exact fi _
  |fresh=>
   rw[show iZ a .fresh s=some (0,0)by unfold iZ;rw[zj e]];refine cV S77.ok (kh [(13,[.u 0 (c true)])]) (lh []) ?_;repeat' first|apply aN|apply aM|apply aL|apply ax|apply ad|(intro d;(try simp at d);(try contradiction))
   all_goals try first|exact fo _|exact⟨rh e⟩|exact fi _
  |_=>cases hc
end
def dQ (s:Wd):Wd:=(e1 s [58]).2.1
def iI (s:Wd):Int:=c7 (dQ s) [62,35]
def BH (s:Wd):Wd:=((dQ s).take (iI s-1).toNat).drop 1
def Il (s:Wd):Bool:=(e1 s [58]).2.2&&decide (1<iI s)&&(dQ s).getD 0 0==32&&(dQ s).getD (iI s-1).toNat 0==32&&dC (BH s)
def si (l:List Wd):List Wd×Bool:=if l.all Il then(l.map BH,true)else([],false)
structure uW (l:List Wd)(k:Nat):Prop where
 h: ∀i,i<k->Il (nx l i)=true
theorem uW.zero {l:List Wd}:uW l 0:=⟨λi hi=>absurd hi (fr i)⟩
theorem uW.on {l:List Wd}(h:uW l k)(hk:Il (nx l k)=true):uW l (k+1):=⟨λi hi=>if e:i=k then e▸hk else h.h i af⟩
theorem O4 {l:List Wd}(hk:k<l.length)(h:Il (nx l k)=false):si l=([],false):=by unfold si;rw[List.all_eq_false.2 ⟨nx l k,dh hk,by rw[h];decide⟩];rfl
theorem Ip {l:List Wd}(hk: ¬k<l.length)(h:uW l k):si l=(l.map BH,true):=by unfold si;rw[bA.2 λx hx=>?_];rfl;obtain⟨i,hi,rfl⟩:=List.getElem_of_mem hx;have e:=bP hi;rw[List.getElem?_eq_getElem hi]at e;rw[hE e];exact h.h i af
theorem sV (cs:Wd): ∀l:Wd,c7 l cs<l.length
 |[]=>by simp [c7]
 |b::l=>by
  have:=sV cs l;simp only[c7,b3];repeat' split
  all_goals omega
theorem getD_at {l:Wd}{n:Nat}(h:n<l.length):(bk l.toArray).data.toList[n]? =some (l.getD n 0):=by simp [hD,h]
theorem Yh (s:Wd):(dQ s).length<=s.length:=by unfold dQ e1;split<;>simp
theorem ZS {p:UInt8->Bool}{s:Wd}(h:s.all p=true):(dQ s).all p=true:=by unfold dQ e1;split;exact bA.2 λx hx=>bA.1 h x (List.mem_of_mem_drop hx);rfl
theorem by0 {s:Wd}(h:1<iI s):decide (c7 (dQ s) [62,35]>1)=true/\(0:Int)<=0/\(bk (dQ s).toArray).data.toList[(0:Int).toNat]? =some ((dQ s).getD 0 0):=by have:=sV [62,35] (dQ s);exact⟨decide_eq_true h,ho _,getD_at (by unfold iI at h;show 0<_;omega)⟩
theorem YS {c:UInt8}(h:(c.toNat:Int)=32):((c.toNat:Int)==32)=true:=by rw[h];rfl
theorem by1 {s:Wd}{c:UInt8}(h:1<iI s)(a:(c.toNat:Int)=32):((c.toNat:Int)==32)=true/\0<=iI s-1/\(bk (dQ s).toArray).data.toList[(iI s-1).toNat]? =some ((dQ s).getD (iI s-1).toNat 0):=by have:=sV [62,35] (dQ s);exact⟨YS a,af,getD_at (by unfold iI at h ⊢;omega)⟩
theorem rg1 {s:Wd}{c:UInt8}(b:(dQ s).length<=1000000)(h:1<iI s)(a:(c.toNat:Int)=32):((c.toNat:Int)==32)=true/\ -9223372036854775808<=iI s-1/\iI s-1<=9223372036854775807:=by have:=sV [62,35] (dQ s);exact⟨YS a,af,by unfold iI;omega⟩
theorem sl1 {s:Wd}{c:UInt8}(h:1<iI s)(a:(c.toNat:Int)=32):((c.toNat:Int)==32)=true/\((0:Int)<=1/\0<=iI s-1)/\(some (1:Int).toNat).getD 0<=(some (iI s-1).toNat).getD (a8 ⟨(dQ s).toArray⟩)/\(some (iI s-1).toNat).getD (a8 ⟨(dQ s).toArray⟩)<=(a8 ⟨(dQ s).toArray⟩):=by have:=sV [62,35] (dQ s);refine⟨YS a,af,?_,?_⟩;show 1<=(iI s-1).toNat;omega;show (iI s-1).toNat<=(dQ s).length;unfold iI at h ⊢;omega
theorem rg2 {s:Wd}(a:(dQ s).length<=1000000)(h:1<iI s): -9223372036854775808<=iI s-1/\iI s-1<=9223372036854775807:=by have:=sV [62,35] (dQ s);exact⟨af,by unfold iI;omega⟩
theorem sl2 {s:Wd}(h:1<iI s):((0:Int)<=1/\0<=iI s-1)/\(some (1:Int).toNat).getD 0<=(some (iI s-1).toNat).getD (a8 ⟨(dQ s).toArray⟩)/\(some (iI s-1).toNat).getD (a8 ⟨(dQ s).toArray⟩)<=(a8 ⟨(dQ s).toArray⟩):=by have:=sV [62,35] (dQ s);refine⟨af,?_,?_⟩;show 1<=(iI s-1).toNat;omega;show (iI s-1).toNat<=(dQ s).length;unfold iI at h ⊢;omega
theorem U9 (s:Wd):AV.v (.string (cB ⟨(dQ s).toArray⟩ ((some (1:Int).toNat).getD 0) ((some (iI s-1).toNat).getD (a8 ⟨(dQ s).toArray⟩))))=bh (BH s):=Zq _ _ _
theorem XW {s:Wd}:fK (.v (.string (cB ⟨(dQ s).toArray⟩ ((some (1:Int).toNat).getD 0) ((some (iI s-1).toNat).getD (a8 ⟨(dQ s).toArray⟩))))) (bh (BH s)):=by rw[U9];exact bj _
theorem abK {p:AV}{T kk:Nat}{es a:List (List AV)}(b:p= .aT T kk a)(h:a=es):YK p (.aT T kk es):=by subst b;exact⟨zz,zz,h⟩
theorem ad7 {p:AV}{T kk:Nat}{es a:List (List AV)}(b:p= .aT T kk a)(h:a=es):YK p (.sl kk es):=by subst b;exact⟨zz,h⟩
theorem Eb {p:AV}{kk:Nat}{es:List (List AV)}(a:p= .nil)(h:es=[]):YK p (.sl kk es):=by subst a;exact⟨h⟩
theorem RR {p:AV}{b a:Bool}(c:p=B a)(h:a=b):YK p (B b):=by subst c;exact⟨h⟩
theorem acm {l:List Wd}(hk:k<l.length):(l.take k).map (λs=>[bh (BH s)])++[[AV.v (.string (cB ⟨(dQ (nx l k)).toArray⟩ ((some (1:Int).toNat).getD 0) ((some (iI (nx l k)-1).toNat).getD (a8 ⟨(dQ (nx l k)).toArray⟩))))]]=(l.take (k+1)).map (λs=>[bh (BH s)]):=by rw[U9,b1,bP hk];simp
theorem acZ {s:Wd}(c:(e1 s [58]).2.2=true)(d:1<iI s)(f:(((dQ s).getD 0 0).toNat:Int)=32)(h4:(((dQ s).getD (iI s-1).toNat 0).toNat:Int)=32)(e:dC (BH s)=true):Il s=true:=by have a:(dQ s).getD 0 0=32:=fu.1 (by show _=32;omega);have b:(dQ s).getD (iI s-1).toNat 0=32:=fu.1 (by show _=32;omega);unfold Il;rw[c,decide_eq_true d,a,b,e];rfl
theorem no1 {s:Wd}(h:(e1 s [58]).2.2=false):Il s=false:=by unfold Il;rw[h];rfl
theorem no2 {s:Wd}(h: ¬1<iI s):Il s=false:=by unfold Il;rw[decide_eq_false h];simp
theorem no3 {s:Wd}(h: ¬(((dQ s).getD 0 0).toNat:Int)=32):Il s=false:=by have a:((dQ s).getD 0 0==32)=false:=beq_eq_false_iff_ne.2 λe=>h (by rw[e];rfl);unfold Il;rw[a];simp
theorem no4 {s:Wd}(h: ¬(((dQ s).getD (iI s-1).toNat 0).toNat:Int)=32):Il s=false:=by have a:((dQ s).getD (iI s-1).toNat 0==32)=false:=beq_eq_false_iff_ne.2 λe=>h (by rw[e];rfl);unfold Il;rw[a];simp
theorem no5 {s:Wd}(h:dC (BH s)=false):Il s=false:=by unfold Il;rw[h];simp
theorem Cz {l:List Wd}(hk:k<l.length)(h:Il (nx l k)=false):(si l).1.map (λs=>[bh s])=[]:=by rw[O4 hk h];rfl
theorem CR {l:List Wd}(hk:k<l.length)(h:Il (nx l k)=false):false=(si l).2:=by rw[O4 hk h]
theorem YH {l:List Wd}(hk: ¬k<l.length)(h:uW l k):(l.take k).map (λs=>[bh (BH s)])=(si l).1.map (λs=>[bh s]):=by rw[Ip hk h,a7 af,gX];rfl
theorem aeO {l:List Wd}(hk: ¬k<l.length)(h:uW l k):true=(si l).2:=by rw[Ip hk h]
set_option maxRecDepth 20000 in
set_option maxHeartbeats 16000000 in
theorem Ox (l:List Wd)(g:l.length<=1000000)(d: ∀s∈l,s.length<=1000000/\s.all (λb=>decide (b.toNat<128))=true):Ev an 44 [strs l] (.cG [strs (si l).1,B (si l).2]):=by
 have c: ∀k,(nx l k).length<=1000000/\(nx l k).all (λb=>decide (b.toNat<128))=true:=λk=>by
  by_cases hk:k<l.length
  ·exact d _ (dh hk)
  ·simp [nx,hk];exact⟨hr _,λx hx=>nomatch hx⟩
 have a: ∀k,(nx l k).length<=1000000:=λk=>(c k).1;have h4: ∀k,(dQ (nx l k)).length<=1000000:=λk=>by have:=Yh (nx l k);have:=a k;omega
 have e: ∀k,(dQ (nx l k)).all (λb=>decide (b.toNat<128))=true:=λk=>ZS (c k).2;refine Ev.vc S44.ok (kh []) (lh [(0,{n:=l.length,E:=λk=>[(2,.aT 9 1 ((l.take k).map λs=>[bh (BH s)])),(10,strs l),(11,I l.length),(12,I k)],I:=λk=>uW l k,K:=λk=>[(14,[.i (.cells [bh (nx l k)])]),(18,[.ev (ac2 (nx l k) [58] (a k))]),(23,[.ev (J9 (dQ (nx l k)) (h4 k) (e k))]),(31,[.i (.byte ((dQ (nx l k)).getD 0 0))]),(38,[.i (.byte ((dQ (nx l k)).getD (iI (nx l k)-1).toNat 0))]),(46,[.ev (kZ (BH (nx l k)))])]})]) ?_;repeat' first|apply VW.st|apply VO.st|apply VD.st|apply VS.step|apply ad|(intro f;(try simp only[nL]at f);(try contradiction))
 all_goals try first|exact fo _|exact⟨rfl⟩|exact⟨fK.refl _⟩|exact⟨by assumption⟩|exact⟨decide_eq_true (by assumption)⟩|exact⟨decide_eq_false (by assumption)⟩|exact⟨YS (by assumption)⟩|exact⟨by0 (by assumption)⟩|exact⟨by1 (by assumption) (by assumption)⟩|exact⟨rg1 (h4 _) (by assumption) (by assumption)⟩|exact⟨sl1 (by assumption) (by assumption)⟩|exact⟨uW.zero⟩|exact⟨XW⟩|exact⟨rg2 (h4 _) (by assumption)⟩|exact⟨sl2 (by assumption)⟩|exact⟨uW.on (by assumption) (acZ (by assumption) (by assumption) (by assumption) (by assumption) (by assumption))⟩|exact abK rfl (acm (by assumption))|exact ad7 rfl (YH (by assumption) (by assumption))|exact RR rfl (aeO (by assumption) (by assumption))|exact Eb rfl (Cz (by assumption) (no1 (by assumption)))|exact RR rfl (CR (by assumption) (no1 (by assumption)))|exact Eb rfl (Cz (by assumption) (no2 (by assumption)))|exact RR rfl (CR (by assumption) (no2 (by assumption)))|exact Eb rfl (Cz (by assumption) (no3 (by assumption)))|exact RR rfl (CR (by assumption) (no3 (by assumption)))|exact Eb rfl (Cz (by assumption) (no4 (by assumption)))|exact RR rfl (CR (by assumption) (no4 (by assumption)))|exact Eb rfl (Cz (by assumption) (no5 (by assumption)))|exact RR rfl (CR (by assumption) (no5 (by assumption)))|exact fi _
 done
theorem Up (a:cQ)(w:a.wf):Ev an 12 [.agg a.ao] (B ((cF a).2==0)):=by
 have h:=LA a w;generalize (cF a).1=b at h;generalize (cF a).2=c at h ⊢
 exact Ev.gg S12.ok [(1,[.i .bY]),(7,[.ev h])] []
def Hp (a:cQ)(l:List Wd):Bool:=(cF a).2==0&&decide (l.length<=14)&&l.all dC
theorem RQ (a:cQ)(w:a.wf)(l:List Wd)(hl:l.length<=9223372036854775807)(hs: ∀s∈l,s.length<=9223372036854775807):Ev an 5 [.agg a.ao,strs l] (B (Hp a l)):=by
 have h:=Up a w;unfold Hp;generalize ((cF a).2==0)=F at h ⊢
 obtain⟨A,a0,a1,c⟩:=ud dC l;have b:=λk=>Ud (nx l k) (jz (p:=λs:Wd=>s.length<=9223372036854775807) hs aG k)
 exact Ev.gg S5.ok [(2,[.i .bY]),(8,[.ev h])] [(0,{n:=l.length,E:=λk=>[(1,strs l),(5,B (F&&decide (l.length<=14)&&A k)),(6,I k)],K:=λk=>[(24,[.i (.cells [bh (nx l k)])]),(26,[.ev (b k)])]})]
def ko (s:Wd):Wd:=s.dropWhile λc=>c.toNat !=58
theorem O1 (s:Wd): ∃Z:Nat->Prop,Z 0/\(∀k,k<s.length->Z k-> ¬((nx s k).toNat:Int)=58->Z (k+1))/\(∀k,k<s.length->Z k->((nx s k).toNat:Int)=58->ko s=s.drop k)/\ ∀k,k<=s.length-> ¬k<s.length->Z k->ko s=s.drop k:=
 ⟨λk=>ko s=(s.drop k).dropWhile λc=>c.toNat !=58,zz,λk h z g=>by
   show _=(s.drop (k+1)).dropWhile _;rw[z,drop_cons (bP h),ew,zy (by rw[bne_iff_ne];omega)],λk h z g=>by
   rw[z,drop_cons (bP h),ew,zj (by rw[bne_iff_ne];omega)],λk h g z=>by
   rw[z,drop_nil g];rfl⟩
theorem PD {l:List Wd}{i:Nat}(hi:i<l.length)(a:ko (nx l i)=(nx l i).drop k):(l.take i).map (λs=>[bh (ko s)])++[[AV.v (.string (cB ⟨(nx l i).toArray⟩ ((some ((k:Nat):Int).toNat).getD 0) ((none:Option Nat).getD (a8 ⟨(nx l i).toArray⟩))))]]=(l.take (i+1)).map λs=>[bh (ko s)]:=by
 rw[Zq,b1,bP hi,bx];congr 1;show _=[[bh (ko (nx l i))]];rw[a];show [[bh (List.drop k (List.take (nx l i).toArray.size (nx l i)))]]=_;simp
theorem afF {n:Nat}(h:k<n)(a:n<=9223372036854775807): -9223372036854775808<=(k:Int)+1/\(k:Int)+1<=9223372036854775807:=by omega
theorem KU (l:List Wd)(hl:l.length<=1000000)(hs: ∀s∈l,s.length<=9223372036854775807):Ev an 9 [strs l] (strs (l.map ko)):=by
 obtain⟨Z,a⟩: ∃Z:Nat->Nat->Prop, ∀i,Z i 0/\(∀k,k<(nx l i).length->Z i k-> ¬((nx (nx l i) k).toNat:Int)=58->Z i (k+1))/\(∀k,k<(nx l i).length->Z i k->((nx (nx l i) k).toNat:Int)=58->ko (nx l i)=(nx l i).drop k)/\ ∀k,k<=(nx l i).length-> ¬k<(nx l i).length->Z i k->ko (nx l i)=(nx l i).drop k:=⟨λi=>(O1 (nx l i)).choose,λi=>(O1 (nx l i)).choose_spec⟩
 have j:=λi=>(a i).1;have d:=λi=>(a i).2.1;have f:=λi=>(a i).2.2.1;have g:=λi=>(a i).2.2.2;clear a
 have b:=λi=>jz (p:=λs:Wd=>s.length<=9223372036854775807) hs aG i
 have e: ∀i,¬i<l.length->l.take i=l:=λi h=>a7 (by omega)
 rw[show strs (l.map ko)=.sl 1 (l.map λs=>[bh (ko s)]) from by unfold strs;rw[gX];rfl]
 refine eB (T:=9) (di S9.ok (kh []) (lh [(0,{n:=l.length,E:=λi=>[(0,strs l),(3,.aT 9 1 ((l.take i).map λs=>[bh (ko s)])),(4,I i)],K:=λi=>[(33,[.i (.cells [bh (nx l i)])])],L:=λi=>[(2,{n:=(nx l i).length,E:=λk=>[(0,strs l),(3,.aT 9 1 ((l.take i).map λs=>[bh (ko s)])),(4,I i),(5,I k)],I:=Z i,K:=λk=>[(15,[.i (.cells [bh (nx l i)])]),(22,[.i (.cells [bh (nx l i)])]),(25,[.i (.byte (nx (nx l i) k))])]})]})]) ?_)
 repeat' first|apply aN|apply aM|apply aL|apply ax|apply ad|(intro c;(try simp only[nL]at c);(try contradiction))
 all_goals first|exact fo _|exact fi _|exact⟨decide_eq_true (ec.2 bB),af,bP bB⟩|exact⟨afF (n:=(nx l _).length) bB (b _)⟩|exact⟨d _ _ bB bB bB⟩|exact⟨rfl,rfl,PD bB (f _ _ bB bB bB)⟩|exact⟨rfl,rfl,PD bB (g _ _ bB bB bB)⟩
section
variable {P:Program}{r:Option Nat}{N:Nat}{env:Env}{H:av}{D:List Nat}{dst:Option Nat}{K:Env->av->List Nat->Prop}
theorem aO.VY {x:Operand}{T A t:TypeId}{u zv:Value}(hx:bG env x= .v (.iface t u))(c:t≠A)(hA:Bv P A=true)(i:(P.info? A).bind (·.zero)=some zv)(k:K (cP env dst (.cG [.v zv,B false])) H D):
  aO P r N (.Cg x T A true) dst env H D K:=by
 have hd: ∃d,P.underlying A=some d/\ ∀m,d≠.interface m:=by unfold Bv at hA;split at hA;cases hA;grind;cases hA
 obtain⟨d,g,hd⟩:=hd;refine aO.pure zz aF (λo b C a w S L hs=>⟨.tuple #[zv,.bool false],?_,by
  simp only[bf]
  exact⟨[zv,.bool false],zz,by simp only[aS];exact⟨zv,_,zz,by simp [bf],.bool false,[],zz,by simp [bf],zz⟩⟩⟩) k
 have f:=hs.int hx;have h:=Ez i w;cases b with
 |Cg e=>cases d<;>first|exact absurd rfl (hd _)|simp [execOp,e,f,Instr.typeAssert,underlying,g,c,h]
end
def ID:Kd->Wd
 | .Bg s=>s
 |_=>[]
def isT:Kd->Bool
 | .Bg _=>true
 |_=>false
def KL:Option Kd->Value
 |none=>.nilIface
 |some k=>zi k
theorem Wn (k:Kd){x:Operand}{env:Env}{H:av}{t:Nat}(hx:bG env x= .v (zi k)): ∀(r:Option Nat) (N:Nat) (D:List Nat),Q1 an r N (.Cg x 157 257 true) (some t) env H D [(t,.cG [bh (ID k),B (isT k)])]:=by
 refine λr N D=>Q1.of λK h=>?_;have z:(an.info? 257).bind (·.zero)=some (.string ⟨#[]⟩):=aX;have c:Bv an 257=true:=aX;cases k with
 |Bg s=>exact CT (by unfold vsp;dsimp only;rw[hx];rfl) c h
 |num o=>exact aO.VY (show bG env x= .v (.iface 253 _)from hx) aG c z h
 |fresh=>exact aO.VY (show bG env x= .v (.iface 256 _)from hx) aG c z h
 |_=>exact aO.VY (show bG env x= .v (.iface 251 _)from hx) aG c z h
theorem PM (m:Option Kd){x:Operand}{env:Env}{H:av}{t:Nat}(hx:bG env x= .v (KL m)): ∀(r:Option Nat) (N:Nat) (D:List Nat),Q1 an r N (.pK false 157 x (.const .nilIface)) (some t) env H D [(t,B (!m.isSome))]:=by
 refine λr N D=>Q1.of λK h=>?_;have c:Ag an 157=true:=aX;cases m with
 |none=>exact CT (by unfold vsp;dsimp only;rw[hx];rfl) c h
 |some k=>exact CT (by unfold vsp;dsimp only;rw[hx];rfl) c h
instance:Inhabited Kd:=⟨.fresh⟩
abbrev bC.ao (b:Nat)(f:Nat->Nat)(x:bC):List AV:=[.sl 1 (x.ws.map λk=>[.v (zi k)]),.v (KL x.more),.fn (.func (f x.id)) [.po b 0] []]
def Hq (x:bC)(own:List Wd)(i:Nat):Bool:=match x.ws[i]? with|some (.Bg s)=>own[i]? ==some s|_=>true
theorem Hj {x:bC}{i:Nat}(h:i<x.ws.length)(a:i<g.length):Hq x g i=(!isT (nx x.ws i)||ID (nx x.ws i)==nx g i):=by unfold Hq;rw[bP h,bP a];cases nx x.ws i<;>first|rfl|(rw[bI];simp [isT,ID];exact eq_comm)
structure yD (x:bC)(own:List Wd)(k:Nat):Prop where
 h: ∀i,i<k->Hq x own i=true
theorem yD.on {x:bC}(h:yD x g k)(hk:Hq x g k=true):yD x g (k+1):=⟨λi hi=>if e:i=k then e▸hk else h.h i af⟩
theorem Eu (x:bC)(own:List Wd):eA x own=(decide (x.ws.length<=own.length)&&(decide (own.length=x.ws.length)||x.more.isSome)&&(a6 x.ws.length).all (Hq x own)):=rfl
theorem OR {x:bC}(a: ¬g.length<x.ws.length)(hk:k<x.ws.length)(b:Hq x g k=false):false=eA x g:=by grind [Eu]
theorem KF {x:bC}(h:g.length<x.ws.length):eA x g=false:=by unfold eA;rw[show decide (x.ws.length<=g.length)=false from decide_eq_false af];rfl
theorem Fm {x:bC}(h:x.ws.length<g.length)(hm:x.more.isSome=false):eA x g=false:=by unfold eA;rw[show decide (g.length=x.ws.length)=false from decide_eq_false af,hm];simp
theorem Jl {x:bC}(a: ¬g.length<x.ws.length)(h1:g.length=x.ws.length\/x.more.isSome=true)(h:yD x g k)(hk: ¬k<x.ws.length):true=eA x g:=by rw[Eu,bA.2 (λi hi=>h.h i bD),decide_eq_true (show x.ws.length<=g.length from af)];rcases h1 with h1|h1<;>simp [h1]
theorem yD.zero {x:bC}:yD x g 0:=⟨λi hi=>absurd hi (fr i)⟩
theorem Wk {x:bC}(c: ¬g.length<x.ws.length)(hk:k<x.ws.length)(b:isT (nx x.ws k)=true)(a: ¬(bk (ID (nx x.ws k)).toArray).toList=(bk (nx g k).toArray).toList):Hq x g k=false:=by rw[Hj hk af,b];simpa using a
theorem Tt {x:bC}(a: ¬g.length<x.ws.length)(hk:k<x.ws.length)(b:(bk (ID (nx x.ws k)).toArray).toList=(bk (nx g k).toArray).toList):Hq x g k=true:=by
 rw[Hj hk af];have:ID (nx x.ws k)=nx g k:=by simp_all
 rw[this];simp
theorem TQ {x:bC}(b: ¬g.length<x.ws.length)(hk:k<x.ws.length)(a:isT (nx x.ws k)=false):Hq x g k=true:=by rw[Hj hk af,a];rfl
set_option maxRecDepth 20000 in
set_option maxHeartbeats 4000000 in
theorem VK (b:Nat)(f:Nat->Nat)(x:bC)(own:List Wd)(hx:x.ws.length<=1000)(d:own.length<=1000):Ev an 76 [.agg (x.ao b f),strs own] (B (eA x own)):=by
 obtain⟨a,more,id⟩:=x;cases more with
 |none=>
  refine Ev.vc S76.ok (kh [(25,[.i (.op (B (!(none:Option Kd).isSome)))])]) (lh [(0,{n:=a.length,E:=λk=>[(1,strs own),(29,.sl 1 (a.map λk=>[.v (zi k)])),(30,I a.length),(31,I k)],I:=λk=>yD (⟨a,none,id⟩:bC) own k,K:=λk=>[(34,[.i (.cells [.v (zi (nx a k))])]),(38,[.i (.op (.cG [bh (ID (nx a k)),B (isT (nx a k))]))]),(46,[.i (.cells [bh (nx own k)])])]})]) ?_;repeat' first|apply VW.st|apply VO.st|apply VD.st|apply VS.step|apply ad|(intro c;(try simp only[nL]at c);(try contradiction))
  all_goals try first|exact fo _|exact⟨(KF (x:=(⟨a,none,id⟩:bC)) (by assumption)).symm⟩|exact⟨(Fm (x:=(⟨a,none,id⟩:bC)) (by assumption) rfl).symm⟩|exact⟨yD.zero⟩|exact⟨Wn _ rfl⟩|exact⟨decide_eq_true (by simp only[ap];omega),PM none rfl⟩|exact⟨by assumption,by omega,mR (by omega)⟩|exact⟨OR (x:=(⟨a,none,id⟩:bC)) (by assumption) (by assumption) (Wk (x:=(⟨a,none,id⟩:bC)) (by assumption) (by assumption) (by assumption) (by assumption))⟩|exact⟨yD.on (by assumption) (Tt (x:=(⟨a,none,id⟩:bC)) (by assumption) (by assumption) (by assumption))⟩|exact⟨yD.on (by assumption) (TQ (x:=(⟨a,none,id⟩:bC)) (by assumption) (by assumption) (by assumption))⟩|exact⟨Jl (x:=(⟨a,none,id⟩:bC)) (by assumption) (.inl (show own.length=a.length by omega)) (by assumption) (by assumption)⟩|exact fi _
  done
 |some m=>
  refine Ev.vc S76.ok (kh [(25,[.i (.op (B (!((some m):Option Kd).isSome)))])]) (lh [(0,{n:=a.length,E:=λk=>[(1,strs own),(29,.sl 1 (a.map λk=>[.v (zi k)])),(30,I a.length),(31,I k)],I:=λk=>yD (⟨a,(some m),id⟩:bC) own k,K:=λk=>[(34,[.i (.cells [.v (zi (nx a k))])]),(38,[.i (.op (.cG [bh (ID (nx a k)),B (isT (nx a k))]))]),(46,[.i (.cells [bh (nx own k)])])]})]) ?_;repeat' first|apply VW.st|apply VO.st|apply VD.st|apply VS.step|apply ad|(intro c;(try simp only[nL]at c);(try contradiction))
  all_goals try first|exact fo _|exact⟨(KF (x:=(⟨a,(some m),id⟩:bC)) (by assumption)).symm⟩|exact⟨(Fm (x:=(⟨a,(some m),id⟩:bC)) (by assumption) rfl).symm⟩|exact⟨yD.zero⟩|exact⟨Wn _ rfl⟩|exact⟨decide_eq_true (by simp only[ap];omega),PM (some m) rfl⟩|exact⟨by assumption,by omega,mR (by omega)⟩|exact⟨OR (x:=(⟨a,(some m),id⟩:bC)) (by assumption) (by assumption) (Wk (x:=(⟨a,(some m),id⟩:bC)) (by assumption) (by assumption) (by assumption) (by assumption))⟩|exact⟨yD.on (by assumption) (Tt (x:=(⟨a,(some m),id⟩:bC)) (by assumption) (by assumption) (by assumption))⟩|exact⟨yD.on (by assumption) (TQ (x:=(⟨a,(some m),id⟩:bC)) (by assumption) (by assumption) (by assumption))⟩|exact⟨Jl (x:=(⟨a,(some m),id⟩:bC)) (by assumption) (.inr rfl) (by assumption) (by assumption)⟩|exact fi _
  done
abbrev IC (w:Wd):Value:=.string ⟨w.toArray⟩
theorem kOK: ∃d,iQ an 9 (IsKey d)/\ ∀w:Wd,IsKey d (IC w):=by refine⟨_,iQ.plain Tryz.underlying9,λw=>?_⟩;trivial
abbrev bV (l:List (Wd×AV)):List (Value×AV):=l.map λx=>(IC x.1,x.2)
theorem pH {d:TypeDesc}(h: ∀w:Wd,IsKey d (IC w))(l:List (Wd×AV)): ∀e∈bV l,IsKey d e.1:=by intro e he;obtain⟨x,_,rfl⟩:=cD.1 he;exact h _
theorem BU {l:List (Wd×AV)}(h:(l.map (·.1)).contains w=false): ∀e∈bV l,e.1≠IC w:=bD
theorem Ok (l:List (Wd×AV))(w:Wd): ∃ks,iQ an 9 ks/\ks (IC w)/\ ∀e∈bV l,ks e.1:=by obtain⟨d,b,a⟩:=kOK;exact⟨_,b,a w,pH a l⟩
theorem Ts {l:List (Wd×AV)}{x y:Operand}{env:Env}{H:av}{n g t:Nat}(hx:bG env x= .mo g)(c:H[n]? =some (g,.map (bV l)))(hy:bG env y=bh w)(h:(l.map (·.1)).contains w=false):
  ∀(r:Option Nat) (N:Nat) (D:List Nat),Q1 an r N (.lookup 152 x y false 9 151 [.slice none 0 0]) (some t) env H D [(t,.nil)]:=by refine λr N D=>Q1.of λK k=>?_;obtain⟨d,b,a⟩:=kOK;exact aO.oS b (zv:=.slice none 0 0) aX hx c (by rw[hy];rfl) (a w) (pH a l) (.none (BU h)) k
theorem Uq {l:List (Wd×AV)}{j:Nat}{p:AV}{x y:Operand}{env:Env}{H:av}{n g t:Nat}(hx:bG env x= .mo g)(c:H[n]? =some (g,.map (bV l)))(hy:bG env y=bh w)(h:l[j]? =some (w,p)):
  ∀(r:Option Nat) (N:Nat) (D:List Nat),Q1 an r N (.lookup 152 x y false 9 151 [.slice none 0 0]) (some t) env H D [(t,p)]:=by refine λr N D=>Q1.of λK k=>?_;obtain⟨d,b,a⟩:=kOK;exact aO.oS b (zv:=.slice none 0 0) aX hx c (by rw[hy];rfl) (a w) (pH a l) (.some (j:=j) (by simp [h])) k
abbrev BC (m:Option Kd)(fn a:Nat)(ws:List Kd):List AV:=[.sl 1 (ws.map λk=>[.v (zi k)]),.v (KL m),.fn (.func fn) [.po a 0] []]
theorem lD (c g:Nat)(l:List (Wd×AV))(w:Wd)(m:Option Kd)(fn:Nat)(d:Nat)(ws:List Kd)(h:(l.map (·.1)).contains w=false):
  Ji an 148 [bh w,.v (KL m),.fn (.func fn) [.po d 0] [],.sl 1 (ws.map λk=>[.v (zi k)]),.po c 0] [(c,.cells 152 [.mo g]),(g,.map (bV l))]
   (λ_ _=>.cG []) (λb cap=>[(c,.cells 152 [.mo g]),(g,.map (bV l++[(IC w,.so b 1 cap)])),(b,.arr 160 3 cap [BC m fn d ws])]):=by
 cases m with
 |none=>
  refine Ji.vc al5.ok (kh [(13,[.i (.op .nil)]),(60000,[.sT 19,.up 1 none])]) (lh []) ?_;repeat' first|apply aN|apply aM|apply aL|apply ax|apply ad|(intro a;(try simp at a);(try contradiction))
  all_goals try first|exact fo _|exact⟨Ts (n:=1) rfl rfl rfl h⟩|exact⟨rfl,Ok l w,BU h,rfl⟩|exact⟨⟨_,_,az _,⟨aX⟩,⟨aG⟩,⟨rfl⟩,trivial⟩⟩|exact fi _
  done
 |some k=>
  refine Ji.vc al5.ok (kh [(13,[.i (.op .nil)]),(60000,[.sT 19,.up 1 none])]) (lh []) ?_;repeat' first|apply aN|apply aM|apply aL|apply ax|apply ad|(intro a;(try simp at a);(try contradiction))
  all_goals try first|exact fo _|exact⟨Ts (n:=1) rfl rfl rfl h⟩|exact⟨rfl,Ok l w,BU h,rfl⟩|exact⟨⟨_,_,az _,⟨aX⟩,⟨aG⟩,⟨rfl⟩,trivial⟩⟩|exact fi _
  done
theorem Me (c g:Nat)(l:List (Wd×AV))(w:Wd)(m:Option Kd)(fn:Nat)(f:Nat)(ws:List Kd)(j b cap:Nat)(es:List (List AV))(he:es.length<=1000)(h:l[j]? =some (w,.so b es.length cap)):
  Ji an 148 [bh w,.v (KL m),.fn (.func fn) [.po f 0] [],.sl 1 (ws.map λk=>[.v (zi k)]),.po c 0] [(c,.cells 152 [.mo g]),(g,.map (bV l)),(b,.arr 160 3 cap es)]
   (λ_ _=>.cG []) (λb cap=>[(c,.cells 152 [.mo g]),(g,.map ((bV l).set j (IC w,.so b (es++[BC m fn f ws]).length cap))),(b,.arr 160 3 cap (es++[BC m fn f ws]))]):=by
 have s:(bV l)[j]? =some (IC w,.so b es.length cap):=by simp [h]
 cases m with
 |none=>
  refine bH al5.ok (aU.DS zx ?_);refine gy.Eo (Hs:=λx=>bif x then[(c,.cells 152 [.mo g]),(g,.map (bV l))]else[(c,.cells 152 [.mo g]),(g,.map (bV l)),(b,.arr 160 3 cap es)]) zz
   (.xq [.at 0] aG zz zz zz zz zz <| .xq [] aG zz zz zz zq zq <| .xq [.at 0] aG zz zz zz zz zz <| .xq [] aG zz zz zz zq zq <|
     .cons [13,11,12] true false aG (λ_=>Uq (n:=1) zz zz zz h _ _ _) (λh=>by cases h) zz zz <|
     .xq [] aG zz zz zz zq zq <| .xq [] aG zz zz zz zq zq <| .xq [] aG zz zz zz zq zq <| .xq [] aG zz zz zz zq zq <|
     .xq [.bY] aG zz zz zz zz zz <|
     .chg (W:=[(13,.any),(19,.aT 160 3 (es++[BC none fn f ws]))]) [19,13,18] zz ⟨zz,aO.pre (bO.lC (i:=2) zz zz) (aO.append zz (.inl zz) ?_ ?_ ⟨by rw[eX];rfl,zz,zz⟩)⟩ zz zz <| .nil) aX aX aX aX (.inl (by show 10<11;decide)) ?_
  grind;grind;refine(gy.TZ _ _ _ _ _ _).mJ (t:=19) zz (λe=>absurd e (cA _ (e7 _ _))) λp a=>?_;refine(gy.TZ _ _ _ _ _ _).oj (cM (eu (l₁:=[_]))) ?_;obtain⟨d,r,o⟩:=kOK;refine gy.op zz aX aX (aO.jH (n:=1) r zz zz zz (o w) (pH o l) (.some s) zz zz ?_);exact gy.end aX ⟨.inl zz,_,.cG [],_,zz,.many aG zq,⟨p,a,zz,zz⟩,az _⟩
 |some k=>
  refine bH al5.ok (aU.DS zx ?_);refine gy.Eo (Hs:=λx=>bif x then[(c,.cells 152 [.mo g]),(g,.map (bV l))]else[(c,.cells 152 [.mo g]),(g,.map (bV l)),(b,.arr 160 3 cap es)]) (q:=10) zz
   (.xq [.at 0] aG zz zz zz zz zz <| .xq [] aG zz zz zz zq zq <| .xq [.at 0] aG zz zz zz zz zz <| .xq [] aG zz zz zz zq zq <|
     .cons [13,11,12] true false aG (λ_=>Uq (n:=1) zz zz zz h _ _ _) (λh=>by cases h) zz zz <|
     .xq [] aG zz zz zz zq zq <| .xq [] aG zz zz zz zq zq <| .xq [] aG zz zz zz zq zq <| .xq [] aG zz zz zz zq zq <|
     .xq [.bY] aG zz zz zz zz zz <|
     .chg (W:=[(13,.any),(19,.aT 160 3 (es++[BC (some k) fn f ws]))]) [19,13,18] zz ⟨zz,aO.pre (bO.lC (i:=2) (t:=13) zz zz) (aO.append (ys:=[BC (some k) fn f ws]) zz (.inl zz) ?_ ?_ ⟨by rw[eX];rfl,zz,zz⟩)⟩ zz zz <| .nil) aX aX aX aX (.inl (by show 10<11;decide)) ?_
  grind;grind;refine(gy.TZ _ _ _ _ _ _).mJ (t:=19) zz (λe=>absurd e (cA _ (e7 _ _))) λp a=>?_;refine(gy.TZ _ _ _ _ _ _).oj (cM (eu (l₁:=[_]))) ?_;obtain⟨d,r,o⟩:=kOK;refine gy.op zz aX aX (aO.jH (n:=1) r zz zz zz (o w) (pH o l) (.some s) zz zz ?_);exact gy.end aX ⟨.inl zz,_,.cG [],_,zz,.many aG zq,⟨p,a,zz,zz⟩,az _⟩
def lq (i:Nat):Nat:=[149,150,151,152,153,154,155,156,157,158,159,160,161,162,163,164,165,166].getD i 0
abbrev sq (b:Nat):List (Wd×AV):=wP.map λx=>(x.1,.sl 3 (x.2.map (bC.ao b lq)))
theorem qj (b:Nat):Ev an 73 [.po b 0] (.mi (bV (sq b))):=by
 refine di S73.ok (kh [(10,[.sh]),(20,[.sw]),(10010,[.i (.iL 1)]),(19,[.mk]),(2,[.fm 1 174]),(31,[.ba 0 (λx y _ _=>lD x y ((sq b).take 0) aam (some .fresh) (lq 0) b [.bi,.mw] zz)]),(40,[.fM 2 1 0,.ba 0 (λx y _ _=>lD x y ((sq b).take 1) aaz (some .fresh) (lq 1) b [.mw] zz)]),(49,[.fM 2 1 1,.ba 0 (λx y _ _=>lD x y ((sq b).take 2) aab none (lq 2) b [.mw,.num false] zz)]),(58,[.fM 2 1 2,.ba 0 (λx y _ _=>lD x y ((sq b).take 3) aec none (lq 3) b [.mw,.num false] zz)]),(67,[.fM 2 1 3,.ba 0 (λx y _ _=>lD x y ((sq b).take 4) aaT (some (.num true)) (lq 4) b [.fresh] zz)]),(74,[.fM 2 1 4,.ba 0 (λx y _ _=>lD x y ((sq b).take 5) aac none (lq 5) b [.D7] zz)]),(89,[.fM 2 1 5,.ba 0 (λx y _ _=>lD x y ((sq b).take 6) IF none (lq 6) b [.num false,.num true,.num false,.num false,.num true] zz)]),(98,[.fM 2 1 6,.ba 0 (λx y _ _=>lD x y ((sq b).take 7) K6 none (lq 7) b [.num false,.num false] zz)]),(107,[.fM 2 1 7,.ba 0 (λx y _ _=>lD x y ((sq b).take 8) HP none (lq 8) b [.num false,.num false] zz)]),(117,[.fM 2 1 8,.ba 0 (λx y _ _=>lD x y ((sq b).take 9) AR none (lq 9) b [.oJ,.Bg wIs,.iT] zz)]),(127,[.ba 0 (λx y z c=>Me x y ((sq b).take 9++[(AR,.so z 1 c)]) AR none (lq 10) b [.oJ,.Bg ZQ,.iT] 9 z c [BC none (lq 9) b [.oJ,.Bg wIs,.iT]] aF zz)]),(137,[.ba 0 (λx y z c=>Me x y ((sq b).take 9++[(AR,.so z 2 c)]) AR none (lq 11) b [.oJ,.Bg K6,.oJ] 9 z c [BC none (lq 9) b [.oJ,.Bg wIs,.iT],BC none (lq 10) b [.oJ,.Bg ZQ,.iT]] aF zz)]),(147,[.ba 0 (λx y z c=>Me x y ((sq b).take 9++[(AR,.so z 3 c)]) AR none (lq 12) b [.oJ,.Bg HP,.oJ] 9 z c [BC none (lq 9) b [.oJ,.Bg wIs,.iT],BC none (lq 10) b [.oJ,.Bg ZQ,.iT],BC none (lq 11) b [.oJ,.Bg K6,.oJ]] aF zz)]),(154,[.fM 2 1 9,.ba 0 (λx y _ _=>lD x y ((sq b).take 10) aas none (lq 13) b [.num false] zz)]),(161,[.fM 2 1 10,.ba 0 (λx y _ _=>lD x y ((sq b).take 11) ad2 none (lq 14) b [.oJ] zz)]),(165,[.fM 2 1 11,.ba 0 (λx y _ _=>lD x y ((sq b).take 12) aaA none (lq 15) b [] zz)]),(169,[.fM 2 1 12,.ba 0 (λx y _ _=>lD x y ((sq b).take 13) aat none (lq 16) b [] zz)]),(173,[.fM 2 1 13,.ba 0 (λx y _ _=>lD x y ((sq b).take 14) JO none (lq 17) b [] zz)]),(174,[.fM 2 1 14])]) (lh []) ?_;repeat' first|apply aN|apply aM|apply aL|apply ax|apply ad|(intro a;(try simp at a);(try contradiction))
 all_goals try first|exact fo _|exact⟨rfl⟩|exact⟨bj _⟩|exact⟨iP _⟩|exact fi _
 done
abbrev ZV:List AV:=b8 27 .any
abbrev pq (b b2 c b5 d:Nat)(cs a:List AV)(r:Wd)(e:Int):av:=
 [(b,.cells 66 cs),(b2,.cells 59 [.po b 0]),(c,.cells 9 [bh r]),(b5,.cells 50 [I e]),(d,.cells 66 a)]
theorem TA {x:Int}{T:TypeId}{y:Operand}{env:Env}{H:av}{t:Nat}(hy:bG env y= .v (aeX x)): ∀(r:Option Nat) (N:Nat) (D:List Nat),Q1 an r N (.Cg y T 149 false) (some t) env H D [(t,.agg [I x])]:=by intro r N D;have c:Bv an 149=true:=aX;exact Q1.of λK h=>CT (by unfold vsp;dsimp only;rw[hy];rfl) c h
theorem R5 (b2 a b5 b:Nat)(H:av):EvD an 71 [.po b 0,.po b2 0,.po a 0,.po b5 0] H .returning .returning (·=H):=by
 refine EvD.intro S71.ok (VW.h (K:=kh []) (L:=lh []) (i:=0) ?_);repeat' first|apply VO.cons|apply VO.nil|apply VW.seq|apply VW.ops|apply VW.ite|apply VW.skip|apply ad|(intro c;try contradiction)
 all_goals first|exact .inl rfl|exact rfl|(apply O5.mk;kernel_rfl)|exact⟨_,rfl,az _⟩
theorem Sf (b b2 c b5 d:Nat)(r:Wd)(e x:Int)(a:cQ)(ws:List Wd):EvD an 71 [.po d 0,.po b2 0,.po c 0,.po b5 0] (pq b b2 c b5 d ZV (dD a (strs ws)) r e) (.panicking (xz x)) (lk (.panicking (xz x))).2 (·=pq b b2 c b5 d (dD a (strs ws)) (dD a (strs ws)) [] x):=by
 refine EvD.intro S71.ok (VW.h (K:=kh [(8,[.i (.at 1)]),(9,[.i (.at 4)]),(10010,[.i (.iL 0)])]) (L:=lh []) (i:=0) ?_);repeat' first|apply VO.cons|apply VO.nil|apply VW.seq|apply VW.ops|apply VW.ite|apply VW.skip|apply ad|(intro f;try contradiction)
 all_goals try first|exact .inl rfl|exact rfl|exact⟨rfl⟩|(apply O5.mk;kernel_rfl)|exact⟨_,rfl,az _⟩|(apply Ob.mk;exact pf _)
 refine⟨aU.DS zx ?_⟩;refine gy.Eo (Hs:=λy=>bif y then pq b b2 c b5 d (dD a (strs ws)) (dD a (strs ws)) [] e else pq b b2 c b5 d (dD a (strs ws)) (dD a (strs ws)) r e) zz
  (.xq [] aG zz zz zz zq zq <| .cons [12,11] true true aG (λ_=>TA (x:=x) zz _ _ _) (λ_=>TA (x:=x) zz _ _ _) zz zz <| .xq [] aG zz zz zz zq zq <|
    .chg (W:=[]) [2] zz ⟨zz,bz (i:=2) (b:=c) zz zz zz zz zz zz (bn 1) ⟨zz,zz,zz⟩⟩ zz zz <| .nil) aX aX aX aX bD<|gy.op zz aX aX (bz (i:=3) (b:=b5) zz zz zz zz zz zz (bn 1) ?_);exact gy.end aX ⟨.inl zz,zz,_,zz,az _⟩
section
theorem xA (b:Nat)(w:Wd){x y:Operand}{env:Env}{H:av}{t:Nat}(hx:bG env x= .mi (bV (sq b)))(hy:bG env y=bh w):
  ∀(r:Option Nat) (N:Nat) (D:List Nat),Q1 an r N (.lookup 152 x y false 9 151 [.slice none 0 0]) (some t) env H D [(t,.sl 3 ((bQ w).map (bC.ao b lq)))]:=by
 refine λr N D=>Q1.of λK k=>?_;obtain⟨d,c,a⟩:=kOK;have z:(an.info? 151).bind (·.zero)=some (.slice none 0 0):=aX;cases h:wP.find? (λx=>x.1==w)with
 |none=>
  have hd:bQ w=[]:=by unfold bQ;rw[h]
  rw[hd]at k;refine aO.oj (aO.HX c z hx (by rw[hy];rfl) (a w) (pH a _) (.none (BU ?_)) ⟨_,_,_,bO.ky 3 (bN _ _ _),?_⟩);grind;show K (eC (eC env t _) t (.sl 3 [])) H D;rw[eX];exact k
 |some x=>
  have hd:bQ w=x.2:=by unfold bQ;rw[h]
  rw[hd]at k;have f:x.1=w:=bD;obtain⟨j,e⟩:=b6.1 (List.mem_of_find?_eq_some h);refine aO.HX c z hx (by rw[hy];rfl) (a w) (pH a _) (.some (j:=j) (by simp [e,f])) k
theorem pQ (b:Nat)(x:bC)(own:List Wd)(hx:x.ws.length<=1000)(a:own.length<=1000):Ev an 75 [.agg (x.ao b lq),.pi [strs own]] (B (eA x own)):=by refine ar S75.ok<|bE [.bY] zz ⟨⟨zz,by rcases x with⟨_,_|_,_⟩<;>rfl⟩,zq⟩<|bE [.ret (B (eA x own))] zz ⟨VK b lq x own hx a,zq⟩<|ab (aD ?_);rfl
theorem sG (b:Nat)(l:List bC)(g:Nat)(a:List AV)(p:bC->Bool)(h: ∀x∈l,Ev an g (.agg (x.ao b lq)::a) (B (p x))):Ev an 74 [.sl 3 (l.map (bC.ao b lq)),.fn (.func g) [] a] (I (bM p l 0)):=by refine vH S74.ok (bC.ao b lq) 3 l _ _ zz (λk x hx C Q K=>?_);refine bE [.cells (x.ao b lq),.ret (B (p x))] zz ⟨⟨af,by simp [hx]⟩,h x (bm hx),zq⟩<|ag ?_ K;exact eL
variable (a:cQ) (x:bC) (own:List Wd)
def uh (i:Nat):Option (Int×Int):=iZ a (iS x i) (nx own i)
def gd (k:Nat):List Int:=(a6 k).map λi=>((uh a x own i).getD (0,0)).1
def ft:Nat->Int
 |0=>0
 |k+1=>if ((uh a x own k).getD (0,0)).2=0 then ft k else((uh a x own k).getD (0,0)).2
theorem OP (k:Nat):gd a x own (k+1)=gd a x own k++[((uh a x own k).getD (0,0)).1]:=by unfold gd;rw[cr,bx];rfl
theorem K7: ∀(l:List Wd) (k:Nat),k<=own.length->own.drop k=l->(∀i,i<k->(uh a x own i).isSome=true)->
  Ak a x l k (ft a x own k) (gd a x own k)=if ∀i,i<own.length->(uh a x own i).isSome=true then some (gd a x own own.length,ft a x own own.length)else none
 |[],k,g,h,hk=>by
  have hl:own.length<=k:=List.drop_eq_nil_iff.1 h
  have:k=own.length:=af
  subst this
  rw[Ak,zy hk]
 |s::l,k,g,h,hk=>by
  have hl:k<own.length:=by
   rcases Nat.lt_or_ge k own.length with h1|h1
   ·exact h1
   ·rw[ej h1]at h;cases h
  rw[cb hl]at h
  have hs:nx own k=s:=by
   have:own[k]=s:=(gM h).1
   rw[<-this];simp [nx,hl]
  have j:uh a x own k=iZ a (iS x k) s:=by unfold uh;rw[hs]
  rw[Ak,<-j]
  cases e:uh a x own k with
  |none=>
   rw[zj (λhh=>by have:=hh k hl;rw[e]at this;cases this)]
  |some v=>
   obtain⟨n,f⟩:=v
   have c:gd a x own (k+1)=gd a x own k++[n]:=by rw[OP,e];rfl
   have d:ft a x own (k+1)=if f=0 then ft a x own k else f:=by rw[ft,e];rfl
   have b:=K7 l (k+1) hl (gM h).2 (λi hi=>by
    by_cases h1:i=k
    ·subst h1;rw[e];rfl
    ·exact hk i af)
   rw[c,d]at b
   exact b
theorem Tu:Ak a x own 0 0 []=if ∀i,i<own.length->(uh a x own i).isSome=true then some (gd a x own own.length,ft a x own own.length)else none:=
 K7 a x own own 0 (hr _) zz (λi hi=>af)
theorem vP: ∀k,ft a x own k=0-> ∀i,i<k->((uh a x own i).getD (0,0)).2=0
 |0,_,i,hi=>af
 |k+1,h,i,hi=>by rw[ft]at h;split at h;rename_i b;by_cases e:i=k;rw[e];exact b;exact vP k h i af;rename_i b;exact absurd h b
theorem EZ {s:Wd}(h:dC s=false):iq a s= .inl 6:=by unfold iq;rw[zy h]
theorem J5 {s w0:Wd}(h:dC s=true)(c:br 32 s=w0::own)(b:(bQ w0).find? (λx=>eA x own)=none):iq a s= .inl 6:=by unfold iq;rw[zj (by rw[h];decide),c];simp only[ek,ey,fv,b]
theorem pZ {s w0:Wd}(h:dC s=true)(c:br 32 s=w0::own)(b:(bQ w0).find? (λx=>eA x own)=some x):
  iq a s=if ∀i,i<own.length->(uh a x own i).isSome=true then(if ft a x own own.length≠0 then .inl (ft a x own own.length)else Bj a (w0::own) (gd a x own own.length) x.id)else .inl 6:=by unfold iq;rw[zj (by rw[h];decide),c];simp only[ek,ey,fv,b];rw[Tu];split;grind;grind
end
def H8 (a:cQ)(c:List Wd)(s:Wd)(b:Nat)(res:AV)(h:av):Prop:=match iq a s with
 | .inl e=>res= .cG [bh [],I e]/\h=[cU b a (strs c)]
 | .inr x=>res= .cG [bh x.2,I 0]/\h=[cU b x.1 (strs (br 32 s))]
def wH (a:cQ)(c:List Wd)(s:Wd)(b b2 d b5 g:Nat):dl:=λe env H D=>match e with
 | .normal| .ret=>Ob (D=[]/\env 4= .po d 0/\env 5= .po b5 0/\ ∃f r,H=pq b b2 d b5 g (dD f (strs (br 32 s))) (dD a (strs c)) r 0/\iq a s= .inr (f,r))
 | .panic ch=>Ob (D=[]/\env 4= .po d 0/\env 5= .po b5 0/\ ∃e cs r h,ch=xz e/\cs.length=27/\H=pq b b2 d b5 g cs (dD a (strs c)) r h/\iq a s= .inl e)
 |_=>False
theorem Oe: ∀cs:List AV,fp fK cs (b8 cs.length .any)
 |[]=>trivial
 |_::cs=>⟨λ_ _ _=>by simp only[bf],Oe cs⟩
theorem T0 {d:List Wd}{s:Wd}{b g:Nat}{e:Exit}{env:Env}{H:av}{D:List Nat}(h:wH a d s b W g Z k e env H D):
  ∃c H' l,bO env H D c H' l/\adj an [.cell 4 9,.cell 5 50] (H8 a d s b) 71 [.po k 0,.po W 0,.po g 0,.po Z 0] e c H' l:=by
 have fin: ∀{e:Exit},L8 e=some .returning->(D=[]/\env 4= .po g 0/\env 5= .po Z 0/\ ∃m r,H=pq b W g Z k (dD m (strs (br 32 s))) (dD a (strs d)) r 0/\iq a s= .inr (m,r))->
   ∃c H' l,bO env H D c H' l/\adj an [.cell 4 9,.cell 5 50] (H8 a d s b) 71 [.po k 0,.po W 0,.po g 0,.po Z 0] e c H' l:=by
  rintro e he ⟨rfl,h4,o,m,r,rfl,f⟩
  refine⟨env,_,[],bO.refl _ _ _,zz,.returning,he,_,[],_,(fb (fe _)).symm,R5 W g Z k _,zz,?_⟩
  rintro _ rfl
  refine⟨.cG [bh r,I 0],[cU b m (strs (br 32 s))],.many aG ⟨.dY (n:=none) h4 (i:=2) zz aX zz,.dY (n:=none) o (i:=3) zz aX zz,zq⟩,?_,(ds _).cons_cons _⟩
  unfold H8;rw[f];exact gJ
 cases e with
 |normal=>exact fin zz h.h
 |ret=>exact fin zz h.h
 |panic ch=>obtain⟨rfl,h4,o,e,cs,r,p,rfl,St,rfl,f⟩:=h.h;refine⟨env,pq b W g Z k ZV (dD a (strs d)) r p,[],cW (j:=0) ZV zz (by rw[show ZV=b8 cs.length .any by rw[St]];exact Oe cs),zz,.panicking (xz e),zz,_,[],_,(fb (fe _)).symm,Sf b W g Z k r p e a d,zz,?_⟩;rintro _ rfl;refine⟨.cG [bh [],I e],[cU b a (strs d)],.many aG ⟨.dY (n:=none) h4 (i:=2) zz aX zz,.dY (n:=none) o (i:=3) zz aX zz,zq⟩,?_,(ds _).cons_cons _⟩;unfold H8;rw[f];exact gJ
 |_=>exact h.elim
section
variable {a:cQ} (ws0:List Wd) (s:Wd) (b:Nat)
def HN:bZ:=match L34 with
 | .seq _ (.seq _ (.seq _ c))=>c
 |_=>.skip
abbrev EO (s:Wd)(b b2 a b5 c:Nat):List (Nat×AV):=[(0,.po b 0),(1,bh s),(2,.po b2 0),(4,.po a 0),(5,.po b5 0),(6,.po c 0)]
theorem Rf (h: ∀b2 c b5 d,aU an none 96 HN (wH a ws0 s b b2 c b5 d) (el (EO s b b2 c b5 d)) (pq b b2 c b5 d (dD a (strs ws0)) (dD a (strs ws0)) [] 0) []):
  iM an 34 [.po b 0,bh s] [cU b a (strs ws0)] (H8 a ws0 s b):=by
 refine iM.defer S34.ok<|fc [(2,[.sh]),(4,[.sh]),(5,[.sh])] [] ?_
 repeat' first|apply aN|apply aM|apply aL|apply ax|apply ad|(intro e;(try simp at e);(try contradiction))
 all_goals try exact fi _
 rename_i b2 c;revert e;intro b5;refine⟨?_⟩;refine fc [(18,[.i (.at 1)]),(20,[.i (.at 0)]),(6,[.sh]),(10006,[.i (.iL 4)])] [] ?_;repeat' first|apply aN|apply aM|apply aL|apply ax|apply ad|(intro e;(try simp at e);(try contradiction))
 all_goals try exact fi _
 revert e;intro d;refine⟨⟨zz,zz,?_⟩⟩;apply iF (EO s b b2 c b5 d);exact aU.A3 (h b2 c b5 d) (λ_ _ _ _ h=>T0 h)
end
end Go.Px
