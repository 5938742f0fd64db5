/- Part 10 of the proof of a statement of this seat (a logic of pure contracts; the functions; their contracts). No conditions. -/
import Derived.Test.YtbpalbakembgiaaGreatDoorA9
import Derived.Lib.ItoaLen
set_option linter.all false
open And renaming intro->ad
open Bool renaming eq_iff_iff->bI,not_not->ea,and_eq_true->e5,not_eq_true->e6,true_and->fD
open Decidable renaming byContradiction->de
open Function renaming comp_def->eT
open Go.IntKind renaming i64->hp
open Go.Lib renaming indexAny->c7
open Go.Proofs.Tryz renaming prog->an
open Iff renaming rfl->ht
open Int renaming eq_ofNat_of_zero_le->dn,ofNat_lt->ec,toNat_natCast->eU,ofNat_inj->gm,le_refl->ho
open List renaming length_map->ap,range->a6,take_of_length_le->a7,length_filter_le->bs,map_append->bx,all_eq_true->bA,take_add_one->b1,length_cons->b3,mem_iff_getElem?->b6,length_range->b7,length_take->b9,getElem?_eq_some_iff->cc,range_succ->cr,mem_map->cD,getElem?_eq_none->cR,mem_range->c8,foldl_append->dk,nil_sublist->ds,length_nil->en,length_replicate->er,drop_succ_cons->ey,filter_append->eM,length_append->eP,flatMap_cons->e2,getElem?_map->e3,mem_flatMap->e8,foldl_cons->ff,mem_filter->fk,map_take->gQ,any_map->gR,getD->hD
open Nat renaming le_refl->bn,pow_le_pow_right->bt,testBit_lt_two_pow->b4,lt_succ_iff_lt_or_eq->cd,not_lt_zero->fr,testBit_or->fx,le_trans->hf,pow_succ->hj
open PLift renaming up->e4
set_option maxRecDepth 100000
set_option maxHeartbeats 40000000
namespace Go.Px
variable {k W Z:Nat}{g:List Wd}{w:Wd}{h:cQ}{j:List Nat}{o:Operand}{q:Int}{v:bC}{z:be}{A:List Sp}{E:Env}{G:Type}
open Go.Proofs
def O8 (m:gO)(q:List Nat)(n:Nat):Bool:=(a6 n).all λk=> !qy m k||soR (nx m.wo k) (dt q)
theorem aeM (m:gO)(q:List Nat)(k:Nat):O8 m q (k+1)=(O8 m q k&&(!qy m k||soR (nx m.wo k) (dt q))):=by unfold O8;rw[cr,List.all_append];simp
def Po (m:gO)(i:Nat)(p:List Nat)(n:Nat):List (List Nat):=((a6 n).filter λc:Nat=>AB (nx m.su i).fo c&&O8 m (p++[c]) m.wo.length).map λc=>p++[c]
theorem aeF (m:gO)(i:Nat)(p:List Nat)(k:Nat):Po m i p (k+1)=Po m i p k++if (AB (nx m.su i).fo k&&O8 m (p++[k]) m.wo.length)=true then [p++[k]] else []:=by unfold Po;rw[cr,eM,bx];congr 1;simp only[List.filter_cons,List.filter_nil];split<;>rfl
theorem Oy (m:gO)(i:Nat)(p:List Nat)(n:Nat):(Po m i p n).length<=n:=by unfold Po;rw[ap];have:=bs (λc:Nat=>AB (nx m.su i).fo c&&O8 m (p++[c]) m.wo.length) (a6 n);rwa [b7]at this
abbrev XT (m:gO)(i:Nat)(p:List Nat):List (List Nat):=Po m i p m.cl.length
def TR (m:gO):Nat->List (List Nat)
 |0=>[[]]
 |i+1=>(TR m i).flatMap (XT m i)
theorem Ps (m:gO)(h:m.cl.length<=4)(i:Nat)(p:List Nat):(XT m i p).length<=4:=hf (Oy m i p _) h
theorem TN (m:gO)(h:m.cl.length<=4): ∀i,(TR m i).length<=4^i
 |0=>by simp [TR]
 |i+1=>by have:=xM (l:=TR m i) λx _=>Ps m h i x;have:=TN m h i;simp only[TR,hj];omega
theorem abf {m:gO} : ∀{i:Nat} {p:List Nat},p∈TR m i->p.length=i
 |0,p,h=>by simp [TR] at h;rw[h];rfl
 |i+1,p,h=>by simp only[TR,e8,XT,Po,cD]at h;obtain⟨q,a,c,_,rfl⟩:=h;simp [abf a]
theorem XC {β:Type}[Inhabited G](f:G->List β)(l:List G): ∃A:Nat->List β,A 0=[]/\(∀k,k<=l.length-> ¬k<l.length->A k=l.flatMap f)/\(∀k,k<l.length->A (k+1)=A k++f (nx l k))/\ ∀k,A k=(l.take k).flatMap f:=⟨λk=>(l.take k).flatMap f,zz,λk _ h=>by show (l.take k).flatMap f=_;rw[a7 af],λk h=>by show (l.take (k+1)).flatMap f=_;rw[b1,bP h,List.flatMap_append];simp,λk=>rfl⟩
set_option maxHeartbeats 40000000 in
theorem abV (m:gO)(ok:m.OK):Ev an 88 [.agg m.ao] (lists (TR m m.su.length)):=by
 have c4:=ok.c4;have s5:=ok.s5;have w6:=ok.w6
 refine Ev.freeze (T:=71) ?_;refine Ev.intro S88.ok ?_;refine bE [.bY] zz ⟨⟨zz,zz⟩,zq⟩ ?_;refine bE [.aT] zz ⟨zz,zq⟩ ?_;refine aU.oj (bO.Va (t:=3) [[ints []]] zz ⟨⟨.nil 1,zq⟩,zq⟩) ?_;refine aU.seq (aU.seq ?_);refine cZ zz ?_;refine cj True (el [(3,.aT 71 1 ((TR m m.su.length).map λc=>[ints (dt c)]))]) [] [] ?_ ?_
 ·refine gf (λi:Nat=>i<=m.su.length) (λi=>el [(1,.pi m.ao),(3,.aT 71 1 ((TR m i).map λc=>[ints (dt c)])),(4,I i)]) (λi=>m.su.length-i) 0 (by omega) eL ?_
  intro i hi;refine aU.seq (aU.seq ?_);refine cZ zz ?_;refine aU.ite zz (λhc=>?_) (λhc=>?_)
  ·simp only[ap,decide_eq_true_eq,ec]at hc;have e:=TN m c4 i;have o:4^i<=256:=bt (n:=4) aG (show i<=4 from af);have b:=λp (h:p∈TR m i)=>abf h;have a:TR m (i+1)=(TR m i).flatMap (XT m i):=rfl;generalize TR m i=C at e b a;refine aU.skip ?_;refine aU.oj (bO.gp (t:=3) zz) ?_;refine dw True (el [(1,.pi m.ao),(3,.aT 71 1 ((TR m (i+1)).map λc=>[ints (dt c)])),(4,I i)]) [] [] ?_ ?_
   ·rw[a];obtain⟨A,a0,a1,u,d⟩:=XC (XT m i) C;have al: ∀k,k<=C.length->(A k).length<=1024:=λk hk=>by rw[d];have:=xM (l:=C.take k) λx _=>Ps m c4 i x;rw[b9]at this;omega
    have y:=ok.su _ (dh hc);have g:(2:Int)^m.cl.length<=16:=by have:=bt (n:=2) aG c4;exact_mod_cast this
    have f:=λc:Nat=>λ(h:c<=4)=>TW (nx m.su i).fo c af (by omega) af
    have hs:=λw q=>adf (nx m.wo w) (dt q) (jz (p:=λw:rc=>0<=w.su) (λx h=>(ok.wo x h).2.2.1) aG w) (jz (p:=λw:rc=>0<=w.of) (λx h=>(ok.wo x h).2.2.2.2.1) aG w)
    have hk: ∀k,k<C.length->(nx C k).length=i:=λk h=>b _ (dh h)
    have s0: ∀p,Po m i p 0=[]:=λp=>rfl;have z: ∀q,O8 m q 0=true:=λp=>rfl
    have s1:=aeF m i;have s: ∀p k w,w<=m.wo.length-> ¬w<m.wo.length->(AB (nx m.su i).fo (k:Nat)&&O8 m (p++[k]) w)=false->Po m i p (k+1)=Po m i p k:=λp k w v g j=>by rw[s1,<-show w=m.wo.length from af,j];simp
    have D:=aeM m;have F:=Oy m i
    refine fc [] [(2,{n:=C.length,E:=λk=>[(1,.pi m.ao),(3,lists C),(4,I i),(5,.aT 71 1 ((A k).map λc=>[ints (dt c)])),(6,I k)],L:=λk=>[(4,{n:=m.cl.length,E:=λc=>[(1,.pi m.ao),(3,lists C),(4,I i),(5,.aT 71 1 ((A k++Po m i (nx C k) c).map λc=>[ints (dt c)])),(6,I k),(7,I c)],K:=λc=>[(32,[.i .aT]),(37,[.i .bY]),(35,[.i (.cells [ints (dt (nx C k))])]),(41,[.fz 8]),(44,[.i (.cells (nx m.su i).ao)]),(48,[.i (.ret (B (AB (nx m.su i).fo c)))])],L:=λc=>[(6,{n:=m.wo.length,E:=λw=>[(1,.pi m.ao),(3,lists C),(4,I i),(5,.aT 71 1 ((A k++Po m i (nx C k) c).map λc=>[ints (dt c)])),(6,I k),(7,I c),(8,ints (dt (nx C k++[c]))),(9,B (AB (nx m.su i).fo c&&O8 m (nx C k++[c]) w)),(10,I w)],K:=λw=>[(60,[.i (.ret (B (qy m w)))]),(66,[.i (.cells (nx m.wo w).ao)]),(69,[.ev (hs w (nx C k++[c]))])]})]})]})] ?_
    repeat' first|apply aN|apply aM|apply aL|apply ax|apply ad|(intro r;(try simp only[nL]at r);(try contradiction))
    all_goals try first|exact fo _|exact⟨f _ af⟩|exact⟨bB,acq m af bB⟩|exact fi _|exact⟨(),trivial,bO.el ⟨rfl,by rw[<-a1 _ bB bB];rfl,zz,zq⟩⟩
    all_goals (refine Ob.mk ?_;clear hs f e b a d;first|(refine⟨rfl,?_⟩;first|(rw[s _ _ _ bB bB bB];rfl)|grind)|grind)
   ·intro _ _;refine fE zz ⟨by omega,zq⟩ ?_;exact⟨i+1,hc,by omega,eL⟩
  ·simp only[ap,decide_eq_false_iff_not,ec]at hc;have:i=m.su.length:=by omega
   subst this;exact aU.exit ⟨(),zq,eL⟩
 ·intro _ _;refine aJ zz ?_;exact aU.ret (gv (.inr zz) (.aT zz zz))
def caB (m:gO)(k:Nat):Bool:=match m.wo[k]? with|some w=>w.ca|none=>false
theorem IE (m:gO)(more k:Nat): ∀n,((a6 n).foldl (λs i=>match m.wo[i]? with|some w=>if w.ca=true then s ||| 2^i else s|none=>s) more).testBit k=(more.testBit k||(decide (k<n)&&caB m k))
 |0=>by simp
 |n+1=>by
  rw[cr,dk,ff,List.foldl_nil];have a:=IE m more k n
  generalize (a6 n).foldl _ more=s at a ⊢;unfold caB at a ⊢;by_cases e:k=n
  ·subst e;cases m.wo[k]? with
   |none=>simp at a ⊢;exact a
   |some w=>by_cases h:w.ca=true<;>simp [h,fx] at a ⊢<;>simp [a]
  ·have b:decide (k<n+1)=decide (k<n):=by rw[decide_eq_decide];omega
   rw[b,<-a];cases m.wo[n]? with
   |none=>rfl
   |some w=>by_cases h:w.ca=true<;>simp [h,fx,Nat.testBit_two_pow];intro h;exact absurd h.symm e
theorem Rj (m:gO){i:Nat}(h:i<m.wo.length):qJ m (df m 0) i=qy m i:=by
 have a: ∀k,(df m 0).testBit k=(decide (k<m.wo.length)&&caB m k):=λk=>(IE m 0 k _).trans (by simp)
 unfold qJ qy;rw[Bool.and_comm,a,bI];unfold caB
 simp only[bP h,h,decide_true,fD,e5,bA,c8]
 refine and_congr_right λ_=>⟨λH w b=>?_,λH k hk=>?_⟩
 ·obtain⟨k,hk⟩:=b6.1 b;have hl:=(cc.1 hk).1;have:=H k hl;rw[a] at this;unfold caB at this;rw[hk]at this;simp [hl] at this ⊢;exact this.symm
 ·rw[a];unfold caB;rw[bP hk];have:=H _ (dh hk);simp [hk] at this ⊢;exact this.symm
def soF (n:Nat)(f:Nat->Nat)(w:rc):Bool:=if (n:Int)<=w.su then true else if w.sa=0 then decide ((f w.su.toNat:Int)=w.of) else if w.sa=1 then decide ((f w.su.toNat:Int)≠w.of) else if (n:Int)<=w.of then true else if w.sa=2 then decide (f w.su.toNat=f w.of.toNat) else decide (f w.su.toNat≠f w.of.toNat)
theorem acw (q:List Nat)(j:Nat):nx (dt q) j=(aP q j:Int):=by unfold nx aP dt;rw[hD,e3];cases q[j]?<;>rfl
theorem Ph (w:rc)(q:List Nat):soR w (dt q)=soF q.length (aP q) w:=by unfold soR soF;simp only[acw,ap,gm,ne_eq]
theorem Wf {n:Nat}{f g:Nat->Nat}{w:rc}(hg:soF n g w=true)(h: ∀j,j<n->f j=g j)(c:0<=w.su)(d:0<=w.of)(i:0<=w.sa)(k:w.sa<=3):
 soF (n+1) f w=if 2<=w.sa then !(max w.su w.of==(n:Int)&& !ZW w.sa (f w.su.toNat) (f w.of.toNat))else !(w.su==(n:Int)&& !ZW w.sa (f w.su.toNat) w.of):=by
 have hs:w.sa=0\/w.sa=1\/w.sa=2\/w.sa=3:=by omega
 have a:=h w.su.toNat;have b:=h w.of.toNat;unfold soF at *;unfold ZW
 rcases hs with e|e|e|e<;>simp only[e]at hg ⊢<;>grind
theorem Et {α β:Type}{f g:α->List β}: ∀{l:List α},(∀x∈l,f x=g x)->l.flatMap f=l.flatMap g
 |[],_=>rfl
 |x::l,h=>by rw[e2,e2,h x (by simp),Et λy hy=>h y (by simp [hy])]
theorem Ut {m:gO}(ok:m.OK){p:List Nat}(c:Nat)(h:O8 m p m.wo.length=true):O8 m (p++[c]) m.wo.length=yA m (df m 0) (aP (p++[c])) p.length:=by
 have a: ∀j,j<p.length->aP (p++[c]) j=aP p j:=λj h=>by unfold aP;rw[List.getElem?_append_left h]
 unfold O8 yA at *;rw[bI];simp only[bA,c8]at h ⊢;refine forall_congr' λk=>forall_congr' λhk=>?_
 rw[<-bI];have h:=h k hk;have hx:=bP hk;have hm:=ok.wo _ (dh hk);have hc:=Rj m hk
 unfold Rl;rw[hx];simp only[hc];rw[Ph]at h ⊢;cases e:qy m k
 ·simp
 ·rw[e]at h;have hs:=Wf (n:=p.length) (f:=aP (p++[c])) (g:=aP p) (w:=nx m.wo k) (by simpa using h) a (by omega) (by omega) (by omega) (by omega)
  simp only[Bool.not_true,Bool.false_or,eP,b3,en,Nat.zero_add,hs,Bool.and_true]
theorem aao {m:gO}(ok:m.OK): ∀i,i<=m.su.length->TR m i=yz (wR m (df m 0)) i/\ ∀p∈TR m i,O8 m p m.wo.length=true
 |0,_=>⟨zz,λp h=>by
  have h:p=[]:=by simpa [TR] using h
  subst h;unfold O8;rw[bA];intro k hk;have hm:=ok.wo _ (dh (c8.1 hk));rw[Ph];unfold soF;have e:(([]:List Nat).length:Int)<=(nx m.wo k).su:=hm.2.2.1;rw[zy e];simp⟩
 |i+1,hi=>by
  obtain⟨b,d⟩:=aao ok i (by omega);have hs:=bP (show i<m.su.length from hi);have j:=ok.su _ (dh (show i<m.su.length from hi))
  have f: ∀c:Nat,AB (nx m.su i).fo c=JB m i c:=λc=>by
   unfold JB;rw[hs];obtain⟨n,g⟩:=dn (show 0<=(nx m.su i).fo by omega);unfold AB;simp only[g,eU,Nat.testBit_eq_decide_div_mod_eq];rw[decide_eq_decide];constructor<;>intro h<;>exact_mod_cast h
  refine⟨?_,λp a=>?_⟩
  ·show (TR m i).flatMap (XT m i)=(yz _ i).flatMap _;rw[<-b];refine Et λp a=>?_;unfold XT Po wR;congr 1;refine List.filter_congr λc _=>?_
   rw[Ut ok c (d p a),f,abf a]
  ·have a:p∈(TR m i).flatMap (XT m i):=a;rw[e8]at a;obtain⟨q,_,a⟩:=a;unfold XT Po at a;rw[cD]at a;obtain⟨c,hc,rfl⟩:=a;rw[fk]at hc;simp at hc;exact hc.2.2
theorem Si {m:gO}(ok:m.OK):TR m m.su.length=bu m (df m 0):=by rw[(aao ok _ (bn _)).1,Hl];rfl
theorem PS (ix l:List Wd): ∀k,k<=5->(mv ix l k).2=2^k/\ ∃n:Nat,(mv ix l k).1=n/\n<2^k/\ ∀i,n.testBit i=(decide (i<k)&&l.contains (nx ix i))
 |0,_=>⟨zz,0,zz,by decide,λi=>by simp⟩
 |k+1,h=>by
  obtain⟨d,n,e,f,h4⟩:=PS ix l k (by omega);have m:2^(k+1)<=32:=bt (n:=2) aG h;have j:2^(k+1)=2*2^k:=by rw[hj];omega
  have b:(mv ix l (k+1)).2=hp.wrap (2*(mv ix l k).2):=rfl;have a:(mv ix l (k+1)).1=if 0<=bM (λx=>x==nx ix k) l 0 then hp.wrap ((mv ix l k).1+(mv ix l k).2) else (mv ix l k).1:=rfl
  rw[d]at a b;rw[e]at a;have hc:((2:Int)^k)=((2^k:Nat):Int):=by simp
  rw[hc,fh (by omega) (by omega)]at b;rw[hc,fh (by omega) (by omega)]at a;simp only[Oo]at a;refine⟨by rw[b,Int.pow_succ,hc];omega,?_⟩
  have hk:n.testBit k=false:=b4 f
  by_cases c:l.contains (nx ix k)=true
  ·rw[zy c]at a;refine⟨2^k+n,by rw[a];omega,by omega,λi=>?_⟩
   rcases Nat.lt_trichotomy i k with g|rfl|g
   ·rw[Nat.testBit_two_pow_add_gt g,h4];simp [g,show i<k+1 from by omega]
   ·rw[Nat.testBit_two_pow_add_eq,hk];simp only[c,Bool.not_false,show i<i+1 from by omega,decide_true,fD]
   ·rw[b4 (Nat.lt_of_lt_of_le (show 2^k+n<2^(k+1) by omega) (bt (n:=2) aG (show k+1<=i by omega)))];simp [show ¬i<k+1 from by omega]
  ·rw[zj c]at a;refine⟨n,a,by omega,λi=>?_⟩;rw[h4];by_cases g:i=k
   ·subst g;rw[e6]at c;rw[c];simp
   ·have:decide (i<k)=decide (i<k+1):=by rw[decide_eq_decide];omega
    rw[this]
theorem Xd {ix l:List Wd}(d:ix.length<=5){w:Int}(b:0<=w)(a:w<2^ix.length):(mv ix l ix.length).1=w↔Ep ix l=Ly w:=by
 obtain⟨_,n,c,f,h4⟩:=PS ix l ix.length d;obtain⟨v,rfl⟩:=dn b;have a:v<2^ix.length:=by exact_mod_cast a
 have e:Ep ix l=(a6 5).map λi=>n.testBit i:=by
  unfold Ep;refine List.map_congr_left λi _=>?_;rw[h4];by_cases g:i<ix.length
  ·rw[bP g];simp [g]
  ·rw[cR (by omega)];simp [g]
 rw[c,e];unfold Ly;rw[eU,gm];refine⟨λh=>by rw[h],λh=>Nat.eq_of_testBit_eq λi=>?_⟩
 by_cases g:i<5
 ·exact List.map_inj_left.1 h i (c8.2 g)
 ·have j:2^ix.length<=2^i:=bt (n:=2) aG (by omega);rw[b4 (by omega),b4 (by omega)]
theorem ac7 {a:cQ}(c:a.ix.length<=5)(b: ∀x∈a.ch.co,0<=x.wo/\x.wo<2^a.ix.length):Zi a=dA a 6:=by
 show _=(if a.le.length≠a.ch.co.length then(3:Int)else(aB (Lh a) a.le.length 0).2);unfold Zi;by_cases h:a.le.length=a.ch.co.length
 ·rw[zj (λg=>g h),zj (λg=>g h)];have key: ∀n k,k+n<=a.le.length->aB (leR a) n k=aB (Lh a) n k:=by
   intro n;induction n with
   |zero=>intro k _;rfl
   |succ n d=>
    intro k hk
    have hl:k<a.le.length:=by omega
    have hx:=b _ (dh (show k<a.ch.co.length by omega));have e:leR a k=Lh a k:=by rw[GX hl (by omega)];unfold leR;simp only[ne_eq,Xd c hx.1 hx.2]
    rw[aB,aB,e,d _ (by omega)]
  rw[key _ _ (by omega)]
 ·rw[zy h,zy h]
theorem QS {β:Type}(n:Int)(l:List G)(f:G->β)(h:l.length<=10):Ev an 178 [I n,I (l.map f).length] (B (!ae 0 (2^l.length-1) [n])):=by have h:=AN n l.length af af;rw[ap];exact h
instance:Inhabited Ss:=⟨⟨0,0⟩⟩
theorem Nd (c:mh)(t:c.wf):Ev an 84 [.agg c.ao] (.cG [I (eK c).1,I (eK c).2.1,I (eK c).2.2]):=by
 obtain⟨⟨u,v,w⟩,a⟩: ∃r,eK c=r:=⟨_,zz⟩;rw[a];unfold eK at a
 obtain⟨A,a0,a1,b,d⟩:=fO (dT c.pe) c.pe.length;obtain⟨C,c0,c1,e,f⟩:=fO (tF c) c.co.length;obtain⟨F,f0,f1,f2,f3⟩:=fO (tG c) c.ru.length
 generalize aB (dT c.pe) c.pe.length 0=p at *;generalize aB (tF c) c.co.length 0=q at *;generalize aB (tG c) c.ru.length 0=s at *
 have n1: ∀k,k<c.pe.length->dT c.pe k=_:=λk h=>Fo h
 have j: ∀k,k<c.co.length->tF c k=if ae 1 c.la [(nx c.co k).nu]=true then 7 else if 0<k/\(nx c.co k).nu<=(nx c.co (k-1)).nu then 2 else if (ae 0 (2^c.wo.toNat-1) [(nx c.co k).wo]||ae 0 (2^c.fa.toNat-1) [(nx c.co k).fa]||ae 0 (2^c.pe.length-1) [(nx c.co k).ma])=true then 4 else 0:=λk h=>by unfold tF;rw[bP h,bP (show k-1<c.co.length from af)];simp
 have l: ∀k,k<c.ru.length->tG c k=_:=λk h=>by unfold tG;rw[bP h]
 have m: ∀k,Ev an 171 [bh (nx c.pe k),.sl 1 ((c.pe.map λs=>[bh s]).take k)] (I (dL (nx c.pe k) (c.pe.take k))):=λk=>by rw[<-gQ];exact Dy _ (jz t.pe aG k) _
 have W:=e4 (ad a (ad a1 (ad b (ad d (ad c1 (ad e (ad f (ad f1 (ad f2 (ad f3 (ad n1 (ad j l))))))))))));clear a a1 b d c1 e f f1 f2 f3 n1 j l
 refine di S84.ok (kh [(1,[.i .bY]),(13,[.ev (cO c.wo 1 5)]),(18,[.ev (cO c.fa 1 6)]),(24,[.ev (cO c.la 0 30)])])
  (lh [(0,{n:=c.pe.length,E:=λk=>[(1,.pi c.ao),(5,I k)],I:=A,K:=λk=>[(41,[.i (.cells [bh (nx c.pe k)])]),(47,[.ev (m k)])]}),
   (2,{n:=c.co.length,E:=λk=>[(1,.pi c.ao),(7,I k)],I:=C,K:=λk=>[(66,[.i (.cells (nx c.co k).ao)]),(68,[.fz 8]),(72,[.ev (cO (nx c.co k).nu 1 c.la)]),(70075,[.g 77 (decide (0<k)) true]),(84,[.i (.cells (nx c.co (k-1)).ao)]),(94,[.i (.ret (B (!ae 0 (2^c.wo.toNat-1) [(nx c.co k).wo])))]),(101,[.i (.ret (B (!ae 0 (2^c.fa.toNat-1) [(nx c.co k).fa])))]),(110,[.i (.ret (B (!ae 0 (2^c.pe.length-1) [(nx c.co k).ma])))])]}),
   (4,{n:=c.ru.length,E:=λk=>[(1,.pi c.ao),(9,I k)],I:=F,K:=λk=>[(128,[.i (.cells (nx c.ru k).ao)]),(130,[.fz 10]),(134,[.i (.ret (B (!ae 0 (2^c.fa.toNat-1) [(nx c.ru k).Li])))]),(142,[.ev (cO (nx c.ru k).th 0 (c.fa-1))])]})]) ?_
 repeat' first|apply aN|apply aM|apply aL|apply ax|apply ad|(intro o;(try simp only[nL]at o);(try contradiction))
 all_goals try first|exact fo _|exact⟨beq_iff_eq.2 bB⟩|exact⟨beq_eq_false_iff_ne.2 bB⟩|exact fi _|exact⟨AN _ _ (by grind [ae]) (by grind [ae])⟩|exact⟨by rw[ea];assumption,AN _ _ (by grind [ae]) (by grind [ae])⟩|exact⟨by rw[ea];assumption,QS _ _ _ af⟩|exact⟨by rw[ea];assumption,by grind [ae],by grind [ae]⟩|exact⟨decide_eq_true af,af,by rw[Int.pred_toNat];exact mR af⟩
 all_goals (obtain⟨a,a1,b,d,c1,e,f,f1,f2,f3,n1,j,l⟩:=W.down;clear W;refine Ob.mk ?_;first|(refine⟨rfl,?_⟩;grind)|(dsimp only;grind))
theorem MJ (m:gO)(l:m.wf):Ev an 83 [.agg m.ao] (.cG [I (ei m).1,I (ei m).2.1,I (ei m).2.2]):=by
 obtain⟨⟨y,z,B⟩,a⟩: ∃r,ei m=r:=⟨_,zz⟩;rw[a];unfold ei dv at a
 obtain⟨A,a0,a1,b,c⟩:=fO (dT m.cl) m.cl.length;obtain⟨C,c0,c1,d,e⟩:=fO (tc m) m.su.length;obtain⟨F,f0,f1,f2,f3⟩:=fO (rj m) m.wo.length;obtain⟨G,w,g1,g2,f⟩:=fO (tD m) m.pa.length
 generalize aB (dT m.cl) m.cl.length 0=p at *;generalize aB (tc m) m.su.length 0=q at *;generalize aB (rj m) m.wo.length 0=s at *;generalize aB (tD m) m.pa.length 0=t at *
 have n1: ∀k,k<m.cl.length->dT m.cl k=_:=λk h=>Fo h
 have j: ∀k,k<m.su.length->tc m k=if dL (nx m.su k).nm ((m.su.take k).map (·.nm))≠0 then dL (nx m.su k).nm ((m.su.take k).map (·.nm)) else if (ae 1 99 [(nx m.su k).pe]||ae 1 (2^m.cl.length-1) [(nx m.su k).fo])=true then 7 else 0:=λk h=>by unfold tc dL;rw[bP h,gR];simp only[eT];cases eI (nx m.su k).nm<;>simp;split<;>simp
 have n4: ∀k,k<m.pa.length->tD m k=if (ae 0 ((m.su.length:Int)-1) [(nx m.pa k).su]||ae 0 ((m.cl.length:Int)-1) [(nx m.pa k).cl])=true then 4 else 0:=λk h=>by unfold tD;rw[bP h]
 have o: ∀k,Ev an 171 [bh (nx m.cl k),.sl 1 ((m.cl.map λs=>[bh s]).take k)] (I (dL (nx m.cl k) (m.cl.take k))):=λk=>by rw[<-gQ];exact Dy _ (jz l.cl aG k) _
 have W:=e4 (ad a (ad a1 (ad b (ad c (ad c1 (ad d (ad e (ad f1 (ad f2 (ad f3 (ad g1 (ad g2 (ad f (ad n1 (ad j n4)))))))))))))));clear a a1 b c c1 d e f1 f2 f3 g1 g2 f n1 j n4
 refine di S83.ok (kh [(1,[.i .bY])])
  (lh [(0,{n:=m.cl.length,E:=λk=>[(1,.pi m.ao),(5,I k)],I:=A,K:=λk=>[(27,[.i (.cells [bh (nx m.cl k)])]),(33,[.ev (o k)])]}),
   (2,{n:=m.su.length,E:=λk=>[(1,.pi m.ao),(7,.aT 9 1 ((m.su.take k).map λx=>[bh x.nm])),(8,I k)],I:=C,K:=λk=>[(49,[.pk 7]),(52,[.i (.cells (nx m.su k).ao)]),(56,[.bo (tT (·.nm) (m.su.take k) (nx m.su k).nm (jz (p:=λx:kW=>x.nm.length<=9223372036854775807) l.su aG k))]),(61,[.i (.cells (nx m.su k).ao)]),(65,[.i (.own 7)]),(70066,[.g 68 (dL (nx m.su k).nm ((m.su.take k).map (·.nm))==0) true,.g 77 (ae 1 99 [(nx m.su k).pe]) false]),(72,[.i (.cells (nx m.su k).ao)]),(75,[.ev (cO (nx m.su k).pe 1 99)]),(81,[.i (.cells (nx m.su k).ao)]),(87,[.i (.ret (I (2^m.cl.length-1)))]),(88,[.ev (cO (nx m.su k).fo 1 (2^m.cl.length-1))])]}),
   (4,{n:=m.wo.length,E:=λk=>[(1,.pi m.ao),(10,I k)],I:=F,K:=λk=>[(109,[.i (.ret (I (rj m k)))])]}),
   (6,{n:=m.pa.length,E:=λk=>[(1,.pi m.ao),(12,I k)],I:=G,K:=λk=>[(70125,[.g 137 (ae 0 ((m.su.length:Int)-1) [(nx m.pa k).su]) false]),(128,[.i (.cells (nx m.pa k).ao)]),(135,[.ev (cO (nx m.pa k).su 0 ((m.su.map kW.ao).length-1))]),(141,[.i (.cells (nx m.pa k).ao)]),(148,[.ev (cO (nx m.pa k).cl 0 ((m.cl.map λs=>[bh s]).length-1))])]})]) ?_
 repeat' first|apply aN|apply aM|apply aL|apply ax|apply ad|(intro v;(try simp only[nL]at v);(try contradiction))
 all_goals try first|exact fo _|exact⟨jC.gT (u:=7) rfl rfl⟩|exact⟨by simp_all,ab0 akj.ok _ _ af⟩|exact⟨cO _ _ _,mg.refl _⟩|exact⟨by simp_all,cO _ _ _,mg.refl _⟩|exact⟨Vk af af af bB⟩|exact⟨beq_iff_eq.2 bB⟩|exact⟨beq_eq_false_iff_ne.2 bB⟩|exact fi _
 all_goals (obtain⟨a,a1,b,c,c1,d,e,f1,f2,f3,g1,g2,f,n1,j,n4⟩:=W.down;clear W;refine Ob.mk ?_;first|(refine⟨rfl,?_⟩;grind)|(dsimp only;grind))
theorem MU (d:ln)(R:d.wf):Ev an 82 [.agg d.ao] (.cG [I (dF d).1,I (dF d).2.1,I (dF d).2.2]):=by
 obtain⟨⟨m,o,s⟩,a⟩: ∃r,dF d=r:=⟨_,zz⟩;rw[a];unfold dF at a
 obtain⟨A,a0,a1,z,v⟩:=fO (eJ (mV d) 0 d.cs) d.cs.length;obtain⟨C,c0,c1,B,O⟩:=fO (eJ (mX d) (-1) d.hs) d.hs.length
 generalize aB (eJ (mV d) 0 d.cs) d.cs.length 0=p at *;generalize aB (eJ (mX d) (-1) d.hs) d.hs.length 0=q at *
 have f1: ∀k,k<d.cs.length->_:=λk h=>N9 (long:=mV d) (least:=0) h;have f2: ∀k,k<d.hs.length->_:=λk h=>N9 (long:=mX d) (least:=-1) h
 have g1: ∀n,mV d n=((n:Int)!=d.st):=λ_=>rfl;have g2: ∀n,mX d n=ae d.le d.st [(n:Int)]:=λ_=>rfl;simp only[g1,g2]at f1 f2;clear g1 g2
 obtain⟨U,P⟩: ∃U,U=eJ (mV d) 0 d.cs:=⟨_,zz⟩;obtain⟨V,Q⟩: ∃V,V=eJ (mX d) (-1) d.hs:=⟨_,zz⟩;rw[<-P]at a1 z f1;rw[<-Q]at c1 B f2;clear P Q
 have H: ∀k,k<d.cs.length->dL (nx d.cs k).nm ((d.cs.take k).map (·.nm))≠0->U k=dL (nx d.cs k).nm ((d.cs.take k).map (·.nm)):=λk h e=>by rw[f1 k h,zy e]
 have J: ∀k,k<d.cs.length->dL (nx d.cs k).nm ((d.cs.take k).map (·.nm))=0-> ¬((nx d.cs k).ed.length:Int)=d.st->U k=3:=λk h e g=>by rw[f1 k h,zj (λh=>h e),zy (by simpa using g)]
 have L: ∀k,k<d.cs.length->dL (nx d.cs k).nm ((d.cs.take k).map (·.nm))=0->((nx d.cs k).ed.length:Int)=d.st->U k=if ae 0 9 (nx d.cs k).ed=true then 7 else 0:=λk h e g=>by rw[f1 k h,zj (λh=>h e),zj (by simpa using g)]
 have v1: ∀k,k<d.hs.length->dL (nx d.hs k).nm ((d.hs.take k).map (·.nm))≠0->V k=dL (nx d.hs k).nm ((d.hs.take k).map (·.nm)):=λk h e=>by rw[f2 k h,zy e]
 have M: ∀k,k<d.hs.length->dL (nx d.hs k).nm ((d.hs.take k).map (·.nm))=0->ae d.le d.st [((nx d.hs k).ed.length:Int)]=true->V k=3:=λk h e g=>by rw[f2 k h,zj (λh=>h e),zy g]
 have N: ∀k,k<d.hs.length->dL (nx d.hs k).nm ((d.hs.take k).map (·.nm))=0->ae d.le d.st [((nx d.hs k).ed.length:Int)]=false->V k=if ae (-1) 9 (nx d.hs k).ed=true then 7 else 0:=λk h e g=>by rw[f2 k h,zj (λh=>h e),zj (by rw[g];decide)]
 have a:(if (ae 1 6 [d.st]||ae 1 d.st [d.le]||ae 0 9 [d.we])=true then ((1:Int),(0:Int),(7:Int)) else if 4<d.cs.length then (2,0,3) else if p.2≠0 then (2,p.1,p.2) else if 4<d.hs.length then (3,0,3) else if q.2≠0 then (3,q.1,q.2) else (0,0,0))=(m,o,s):=a
 have t1:(ae 1 6 [d.st]||ae 1 d.st [d.le]||ae 0 9 [d.we])=true->m=1/\o=0/\s=7:=λh=>by rw[zy h]at a;cases a;exact⟨zz,zz,zz⟩
 obtain⟨F,y⟩: ∃F,F=(ae 1 6 [d.st]||ae 1 d.st [d.le]||ae 0 9 [d.we]):=⟨_,zz⟩;rw[<-y]at a t1
 have t2:F=false->4<d.cs.length->m=2/\o=0/\s=3:=by grind
 have t3: ∀k,F=false-> ¬4<d.cs.length->k<d.cs.length->A k->U k≠0->m=2/\o=(k:Int)/\s=U k:=λk l b c f h4=>by have:=z k c f h4;rw[l,zj aG,zj b,this,zy h4]at a;cases a;exact⟨zz,zz,zz⟩
 have t4: ∀k,F=false-> ¬4<d.cs.length->k<=d.cs.length-> ¬k<d.cs.length->A k->4<d.hs.length->m=3/\o=0/\s=3:=λk l b c f h4 t=>by have:=v k c f h4;rw[l,zj aG,zj b,this,zj aG,zy t]at a;cases a;exact⟨zz,zz,zz⟩
 have t5: ∀k,F=false-> ¬4<d.cs.length->k<=d.cs.length-> ¬k<d.cs.length->A k-> ¬4<d.hs.length-> ∀j,j<d.hs.length->C j->V j≠0->m=3/\o=(j:Int)/\s=V j:=λk l b c f h4 t j D G w=>by have e:=v k c f h4;have g:=B j D G w;rw[l,zj aG,zj b,e,zj aG,zj t,g,zy w]at a;cases a;exact⟨zz,zz,zz⟩
 have t6: ∀k,F=false-> ¬4<d.cs.length->k<=d.cs.length-> ¬k<d.cs.length->A k-> ¬4<d.hs.length-> ∀j,j<=d.hs.length-> ¬j<d.hs.length->C j->m=0/\o=0/\s=0:=λk l b c f h4 t j D G w=>by have e:=v k c f h4;have g:=O j D G w;rw[l,zj aG,zj b,e,zj aG,zj t,g,zj aG]at a;cases a;exact⟨zz,zz,zz⟩
 clear a z v B O f1 f2
 have W:=e4 (ad y (ad a1 (ad c1 (ad H (ad J (ad L (ad v1 (ad M (ad N (ad t1 (ad t2 (ad t3 (ad t4 (ad t5 t6))))))))))))));clear y a1 c1 H J L v1 M N t1 t2 t3 t4 t5 t6
 refine di S82.ok (kh [(1,[.i .bY]),(12,[.ev (cO d.st 1 6)]),(19,[.ev (cO d.le 1 d.st)]),(25,[.ev (cO d.we 0 9)])])
  (lh [(0,{n:=d.cs.length,E:=λk=>[(1,.pi d.ao),(5,.aT 9 1 ((d.cs.take k).map λx=>[bh x.nm])),(6,I k)],I:=A,K:=λk=>[(39,[.pk 5]),(42,[.i (.cells (nx d.cs k).ao)]),(46,[.bo (tT (·.nm) (d.cs.take k) (nx d.cs k).nm (jz (p:=λx:qm=>x.nm.length<=9223372036854775807) R.cs aG k))]),(51,[.i (.cells (nx d.cs k).ao)]),(55,[.i (.own 5)]),(70056,[.g 58 (dL (nx d.cs k).nm ((d.cs.take k).map (·.nm))==0) true]),(62,[.i (.cells (nx d.cs k).ao)]),(76,[.i (.cells (nx d.cs k).ao)]),(79,[.ev (El (nx d.cs k).ed 0)])]}),
   (2,{n:=d.hs.length,E:=λk=>[(1,.pi d.ao),(5,.aT 9 1 ((d.hs.take k).map λx=>[bh x.nm])),(8,I k)],I:=C,K:=λk=>[(97,[.pk 5]),(100,[.i (.cells (nx d.hs k).ao)]),(104,[.bo (tT (·.nm) (d.hs.take k) (nx d.hs k).nm (jz (p:=λx:qm=>x.nm.length<=9223372036854775807) R.hs aG k))]),(109,[.i (.cells (nx d.hs k).ao)]),(113,[.i (.own 5)]),(70114,[.g 116 (dL (nx d.hs k).nm ((d.hs.take k).map (·.nm))==0) true]),(120,[.i (.cells (nx d.hs k).ao)]),(128,[.ev (cO ((nx d.hs k).ed.map λx=>[I x]).length d.le d.st)]),(137,[.i (.cells (nx d.hs k).ao)]),(140,[.ev (El (nx d.hs k).ed (-1))])]})]) ?_
 repeat' first|apply aN|apply aM|apply aL|apply ax|apply ad|(intro S;(try simp only[nL]at S);(try contradiction))
 all_goals try first|exact fo _|exact⟨jC.gT (u:=5) rfl rfl⟩|exact⟨beq_iff_eq.2 bB⟩|exact⟨beq_eq_false_iff_ne.2 bB⟩|exact⟨by simp_all,cO _ _ _,mg.refl _⟩|exact fi _
 all_goals (obtain⟨y,a1,c1,H,J,L,v1,M,N,t1,t2,t3,t4,t5,t6⟩:=W.down;clear W;refine Ob.mk ?_;first|(refine⟨rfl,?_⟩;grind)|(dsimp only;grind))
instance:Inhabited Part:=⟨⟨[],0,0⟩⟩
theorem GV {f:Nat->Int}{n:Nat}(hk:k<n)(a: ∀j,j<k->f j=0)(b:f k≠0):aB f n 0=((k:Int),f k):=by
 have key: ∀i,i<=k->aB f n 0=aB f (n-i) i:=by
  intro i;induction i with
  |zero=>intro _;rfl
  |succ i c=>intro hi;exact JJ (by omega) (c (by omega)) (a i (by omega))
 exact yf hk (key k (bn k)) b
def vF (e:Int)(ps:List Part):Nat->Int
 |0=>e
 |j+1=>mH (nx ps j)
theorem Xc {a:List Form}(hk:k<a.length){e:Int}(he:e=if dL (nx a k).name ((a.take k).map (·.name))=0/\5<(nx a k).parts.length then 3 else dL (nx a k).name ((a.take k).map (·.name))): ∀j,j<=(nx a k).parts.length->(∀i,i<j->vF e (nx a k).parts i=0)->(vF e (nx a k).parts j≠0\/ ¬j<(nx a k).parts.length)->iY a k=vF e (nx a k).parts j:=by
 have m:iY a k=if dL (nx a k).name ((a.take k).map (·.name))=0 then if 5<(nx a k).parts.length then 3 else (aB (lE (nx a k).parts) (nx a k).parts.length 0).2 else dL (nx a k).name ((a.take k).map (·.name)):=by unfold iY dL;rw[bP hk,gR];simp only[eT];cases eI (nx a k).name;simp;grind
 generalize (nx a k).parts=ps at *;generalize dL (nx a k).name ((a.take k).map (·.name))=E at *
 have f: ∀i,i<ps.length->lE ps i=mH (nx ps i):=λi h=>by unfold lE;rw[bP h]
 intro j q n o;cases j with
 |zero=>
  show _=e;by_cases c:E=0
  ·rw[m,zy c];by_cases d:5<ps.length
   ·rw[zy d,he,zy ⟨c,d⟩]
   ·have b:e=0:=by rw[he,zj (λh=>d h.2)];exact c
    rw[zj d,b];rcases o with h|h;exact absurd b h;rw[show ps.length=0 by omega];rfl
  ·rw[m,zj c,he,zj (λh=>c h.1)]
 |succ j=>
  have b:e=0:=n 0 (by omega);have c:E=0/\ ¬5<ps.length:=by rw[he]at b;split at b;cases b;rename_i h;exact⟨b,λg=>h ⟨b,g⟩⟩
  have p: ∀i,i<j->lE ps i=0:=λi hi=>by rw[f i (by omega)];exact n (i+1) (by omega)
  rw[m,zy c.1,zj c.2];show _=mH (nx ps j);by_cases l:mH (nx ps j)=0
  ·rw[l];rcases o with h|h;exact absurd l h;exact eN.2 λi hi=>by
    by_cases g:i=j
    ·rw[g,f j (by omega)];exact l
    ·exact p i (by omega)
  ·rw[GV (k:=j) (by omega) p (by rw[f j (by omega)];exact l),f j (by omega)]
theorem MW (s:Shelf)(F:s.wf):Ev an 80 [.agg s.ao] (.cG [I (eh s).1,I (eh s).2.1,I (eh s).2.2]):=by
 obtain⟨⟨N,O,P⟩,l⟩: ∃r,eh s=r:=⟨_,zz⟩;rw[l];unfold eh at l
 obtain⟨A,a0,a1,m,o⟩:=fO (iY s.bi) s.bi.length;generalize aB (iY s.bi) s.bi.length 0=p at *
 obtain⟨e,he⟩: ∃e:Nat->Int, ∀k,e k=if dL (nx s.bi k).name ((s.bi.take k).map (·.name))=0/\5<(nx s.bi k).parts.length then 3 else dL (nx s.bi k).name ((s.bi.take k).map (·.name)):=⟨_,λ_=>rfl⟩
 obtain⟨V,b⟩: ∃V:Nat->Nat->Int, ∀k j,V k j=vF (e k) (nx s.bi k).parts j:=⟨_,λ_ _=>rfl⟩
 obtain⟨Y,c⟩: ∃Y:Nat->Nat->Prop, ∀k j,Y k j↔ ∀i,i<j->V k i=0:=⟨_,λ_ _=>ht⟩
 have v0: ∀k,V k 0=e k:=λk=>b k 0;have v1: ∀k j,V k (j+1)=mH (nx (nx s.bi k).parts j):=λk j=>b k (j+1)
 have z: ∀k,Y k 0:=λk=>(c k 0).2 λi h=>by omega
 have B: ∀k j,Y k j->V k j=0->Y k (j+1):=λk j h g=>(c k _).2 λi hi=>by rcases cd.1 hi with f|rfl;exact(c k j).1 h i f;exact g
 have C: ∀k j,k<s.bi.length->j<=(nx s.bi k).parts.length->Y k j->V k j≠0->iY s.bi k=V k j:=λk j f t v h4=>by have:=Xc f (he k) j t (λi hi=>by rw[<-b];exact(c k j).1 v i hi) (.inl (by rw[<-b];exact h4));rw[this,b]
 have D: ∀k j,k<s.bi.length->j<=(nx s.bi k).parts.length-> ¬j<(nx s.bi k).parts.length->Y k j->iY s.bi k=V k j:=λk j f t G v=>by have:=Xc f (he k) j t (λi hi=>by rw[<-b];exact(c k j).1 v i hi) (.inr G);rw[this,b]
 have M: ∀k j,Y k j->V k j=0->(nx s.bi k).parts.length<=5:=λk j h g=>by
  have d:V k 0=0:=by cases j with
   |zero=>exact g
   |succ j=>exact(c k _).1 h 0 (by omega)
  rw[v0,he]at d;by_cases q:dL (nx s.bi k).name ((s.bi.take k).map (·.name))=0
  ·by_cases J:5<(nx s.bi k).parts.length
   ·rw[zy ⟨q,J⟩]at d;cases d
   ·omega
  ·rw[zj λh=>q h.1]at d;exact absurd d q
 clear b c
 have W:=e4 (ad l (ad a1 (ad m (ad o (ad he (ad v0 (ad v1 (ad z (ad B (ad C D))))))))));clear l a1 m o he v0 v1 z B C D
 refine di S80.ok (kh [(1,[.i .bY]),(12,[.ev (cO s.w 8 30)])])
  (lh [(0,{n:=s.bi.length,E:=λk=>[(1,.pi s.ao),(5,.aT 9 1 ((s.bi.take k).map λx=>[bh x.name])),(6,I k)],I:=A,K:=λk=>[(28,[.i (.cells (nx s.bi k).ao)]),(30,[.fz 7,.pk 5]),(33,[.bo (tT (·.name) (s.bi.take k) (nx s.bi k).name (jz (p:=λx:Form=>x.name.length<=9223372036854775807) (λa h=>(F.bi a h).name) aG k))]),(38,[.i (.own 5)])],L:=λk=>[(2,{n:=(nx s.bi k).parts.length,E:=λj=>[(1,.pi s.ao),(5,.aT 9 1 ((s.bi.take (k+1)).map λx=>[bh x.name])),(6,I k),(7,.pi (nx s.bi k).ao),(8,I (V k j)),(9,I j)],I:=Y k,K:=λj=>[(61,[.i (.cells (nx (nx s.bi k).parts j).ao)]),(63,[.ev (WE (nx (nx s.bi k).parts j) (jz (jz (p:=λx:Form=> ∀y∈x.parts,y.wf) (λa h=>(F.bi a h).parts) (λx h=>by cases h) k) ⟨λx h=>(by cases h),aG,aG,aG,aG⟩ j))])]})]})]) ?_
 repeat' first|apply aN|apply aM|apply aL|apply ax|apply ad|(intro H;(try simp only[nL]at H);(try contradiction))
 all_goals try first|exact fo _|exact⟨af,mR af⟩|exact⟨jC.gT (u:=5) rfl rfl⟩|exact⟨beq_iff_eq.2 bB⟩|exact⟨beq_eq_false_iff_ne.2 bB⟩|exact⟨af⟩|exact⟨by have:=M _ _ bB bB;omega⟩|exact⟨rfl⟩|exact⟨⟨rfl,rfl⟩⟩|exact⟨⟨rfl,rfl,rfl⟩⟩|exact⟨fK.refl _⟩|exact⟨jC.refl _⟩|exact⟨by decide⟩|exact⟨⟨rfl,rfl,rfl,bn 2⟩⟩|exact⟨⟨⟨rfl,rfl,rfl⟩,by simp only[ap,b9,b3,en];omega⟩⟩|exact⟨⟨rfl,rfl,(aap af).symm⟩⟩|exact⟨by rw[ap];exact decide_eq_true (ec.2 bB)⟩
 all_goals try exact⟨decide_eq_false (by rw[ap];omega)⟩
 all_goals (obtain⟨l,a1,m,o,he,v0,v1,z,B,C,D⟩:=W.down;clear W;refine Ob.mk ?_;first|(refine⟨rfl,?_⟩;grind)|(dsimp only;grind))
end Go.Px
