/- Part 5 of the proof of a statement of this seat (a logic of pure contracts; the functions; their contracts). No conditions. -/
import Derived.Test.YtbpalbakembgiaaGreatDoorA4
set_option linter.all false
open And renaming intro->ej
open Bool renaming false_eq_true->a6,or_eq_false_iff->bx,and_eq_true->cb,or_false->cA,eq_iff_iff->cB,or_eq_true->dk,not_eq_true->eP,true_and->hq
open Classical renaming byContradiction->hp
open Decidable renaming byContradiction->er
open Go.Lit renaming int->cD
open Go.Program renaming keyLits->hf
open Go.Proofs.Tryz renaming prog->ad,underlying236->en,underlying507->fj,underlying3->gM
open Go.Value renaming formed->hD,cells->hH,bool->hI
open Int renaming toNat_natCast->cr,le_refl->et,pow_pos->eu,eq_ofNat_of_zero_le->eS,natCast_inj->e0,ediv_nonneg->gQ,le_of_lt->ht,le_trans->hz,sub_zero->hB
open List renaming getElem?_eq_some_iff->an,mem_of_getElem?->ap,range->az,mem_append->a7,mem_singleton->a8,mem_iff_getElem?->bk,length_map->bl,mem_cons->bs,getElem?_map->bt,length_cons->bA,mem_map->bI,mem_range->b0,exists_mem_of_ne_nil->b1,foldl_append->b3,getElem?_cons_zero->b4,getElem?_set->b6,mem_filter->b7,range_succ->b8,mem_flatMap->cc,length_append->cd,ext_getElem?->cx,any_cons->c8,foldl_cons->dn,length_nil->ds,map_append->ea,any_nil->ec,replicate->ek,getElem?_eq_getElem->eM,length_eq_zero_iff->eT,filterMap_append->e2,length_singleton->e3,perm_append_comm->e4,reverse_reverse->e5,all_cons->e9,map_cons->fb,countP_append->fe,filter_append->ff,any_eq_false->fk,flatMap_cons->fr,map_set->fs,reverse_cons->fu,all_eq_true->fy,nodup_range->fD,not_mem_nil->ga,take_length->gm,append_nil->gR,map_take->hr
open List.Nodup renaming length_le_of_subset->c7
open List.Pairwise renaming filter->hE
open List.Perm renaming swap->hL
open List.Sublist renaming refl->ew
open List.cons renaming injEq->hJ,inj->hM
open Nat renaming pow_le_pow_right->bn,le_refl->b9,mul_le_mul_right->cy,add_mul->de,or_lt_two_pow->ey,eq_of_testBit_eq->e6,pow_lt_pow_right->e7,testBit_two_pow->e8,pow_succ->fv,zero_testBit->gx,testBit_or->ho,le_trans->hC,one_mul->hF
open Option renaming map_eq_some_iff->cR,getD_some->eU,map_some->gX
open Option.some renaming injEq->fx
open Prod renaming ext->hG
set_option maxRecDepth 20000
namespace Go.Px
variable {h o:List Int}{k N:Nat}{c:dy}{n:Int}{p:Nat->Bool}{q:List Nat}{x:bc}{e:List Int×Nat}{A:List aQ}{f:Type}{g:List bc}{r:bZ}{Q:dl}
open Go.Proofs
structure bc.wf (x:bc):Prop where
 c0:0<=x.c
 c1:x.c<256
 s0: -9223372036854775808<=x.s
 s1:x.s<=9223372036854775807
theorem yL (h:k<=61):(2:Int)^k<=2305843009213693952:=by have b:2^k<=2^61:=bn af h;have a:((2^k:Nat):Int)=(2:Int)^k:=aF;rw[<-a];omega
theorem P2 (l:List bc)(i:Nat)(x:bc)(hx:l[i]? =some x)(a:x.wf):Ev ad 308 [lr l,I i] (B (ae 97 122 [x.c])):=by refine ar akJ.ok<|aJ zz<|bE [.cells x.ao,.bY,.ret (B (ae 97 122 [x.c]))] zz ⟨⟨af,by simp [hx]⟩,fh (by have:=a.c0;omega) (by have:=a.c1;omega),zz,jX 97 122 [x.c],zq⟩<|ab (aD ?_);rfl
theorem Sn (l:List bc)(i:Nat)(x:bc)(hx:l[i]? =some x):Ev ad 309 [lr l,I i] (B (decide (cT (l.take i) x.c>=0))):=by have a:=(an.1 hx).1;refine ar ahp.ok<|aJ zz<|xe [] [.cells x.ao,.yt [lr (l.take i),U x.c] (I (cT (l.take i) x.c))] zz ⟨⟨⟨zq,af⟩,aF,by simp;omega⟩,⟨af,by simp [hx]⟩,⟨yy _ _,gN (by show [AV.sl 3 ((l.map bc.ao).take i),U x.c]=_;rw[lr,hr])⟩,zq⟩<|ab (aD ?_);rfl
theorem Rn (l:List bc)(i:Nat)(x:bc)(n:Int)(hx:l[i]? =some x)(a:0<=n)(c:n<62):Ev ad 310 [lr l,I i,.pi [I n]] (B (ae 0 (2^n.toNat-1) [x.s])):=by
 have d:(2:Int)^n.toNat<9223372036854775808:=by have:=yL (k:=n.toNat) af;omega
 have b:(0:Int)<2^n.toNat:=eu af;have e:(1:Int)*2^n.toNat-1=2^n.toNat-1:=af;refine ar aiI.ok<|aJ zz<|xe [] [.cells x.ao,.bY,.ret (B (ae 0 (1*2^n.toNat-1) [x.s]))] zz ⟨⟨af,a,af,af⟩,fR,⟨af,by simp [hx]⟩,zz,jX 0 (1*2^n.toNat-1) [x.s],zq⟩<|ab (aD ?_);rw[<-e];rfl
theorem Qs (l:List bc)(i:Nat)(x:bc)(hx:l[i]? =some x):Ev ad 311 [lr l,I i] (B (x.s==0&& !x.q)):=by
 refine ar akX.ok<|aJ zz ?_;by_cases h:x.s=0
 refine vS [(11,true)] [.cells x.ao,.cells x.ao] zz (by simp [hx,h])<|ab (aD ?_);show B _=B _;simp [h]
 refine vS [(11,false)] [.cells x.ao] zz (by simp [hx,h])<|ab (aD ?_);show B _=B _;simp [h]
def NP (n:Int):List (List AV):=[[I 6,.fn (.func 308) [] []],[I 5,.fn (.func 309) [] []],[I 7,.fn (.func 310) [] [.pi [I n]]],[I 2,.fn (.func 311) [] []]]
theorem Ve (n:Int):Ev ad 212 [I n] (.sl 2 (NP n)):=by refine ar aiT.ok<|bE [.bY] zz aK<|bE [.bY] zz cI<|ab (aD ?_);rfl
def dP (n:Int)(ls:List bc)(i:Nat):Int:=match ls[i]? with
 |none=>0
 |some x=>if ae 97 122 [x.c]=true then 6 else if decide (cT (ls.take i) x.c>=0)=true then 5 else if ae 0 (2^n.toNat-1) [x.s]=true then 7 else if (x.s==0&& !x.q)=true then 2 else 0
def Dh (n:Int)(ls:List bc)(i:Nat)(x:bc):Nat->Prop
 |0=>True
 |1=>ae 97 122 [x.c]=false
 |2=>ae 97 122 [x.c]=false/\decide (cT (ls.take i) x.c>=0)=false
 |3=>ae 97 122 [x.c]=false/\decide (cT (ls.take i) x.c>=0)=false/\ae 0 (2^n.toNat-1) [x.s]=false
 |_=>ae 97 122 [x.c]=false/\decide (cT (ls.take i) x.c>=0)=false/\ae 0 (2^n.toNat-1) [x.s]=false/\(x.s==0&& !x.q)=false
theorem LS (b:dy)(a:iB)(i:Nat)(x:bc)(hx:a.ls[i]? =some x)(m:x.wf)(g:0<=b.n)(f:b.n<62):Ev ad 211 [I i,.agg x.ao,.pi b.ao,.pi a.ao] (I (dP b.n a.ls i)):=by
 refine ar aiR.ok<|bE [.bY] zz aK<|aa<|bE [.ret (.sl 2 (NP b.n))] zz ⟨Ve b.n,zq⟩<|cj (Dh b.n a.ls i x 4) (el []) [] [] ?_ ?_
 ·refine gf (λk:Nat=>k<=4/\Dh b.n a.ls i x k) (λk=>el [(0,I i),(3,.pi a.ao),(11,.sl 2 (NP b.n)),(12,I 4),(13,I k)]) (λk=>4-k) 0 bL
   eL ?_
  rintro k ⟨hk,e⟩;refine aJ zz<|aa (aj zz (λhc=>?_) (λhc=>?_))
  ·simp at hc;have l:k<4:=af;refine ak (aa (ay ?_));obtain rfl|rfl|rfl|rfl:k=0\/k=1\/k=2\/k=3:=af
   ·refine bE [.cells [I 6,.fn (.func 308) [] []],.aT] zz ⟨⟨af,zz⟩,zz,⟨zz,zz,zz,aG⟩,zq⟩<|ag (aq (t:=8) zz)<|aa<|kn [.ret (B (ae 97 122 [x.c]))] zz ⟨P2 a.ls i x hx m,zq⟩<|aj zz (λd=>?_) (λd=>?_)
    ·refine aJ zz<|ab (aD ?_);show I _=I _;simp only[dP,hx,Dh]at e ⊢;first|(simp [d];done)|simp [e,d]
    ·refine ak<|fE zz bL ?_;exact⟨0+1,⟨af,by simp only[Dh]at e ⊢;first|(simp [d];done)|simp [e,d]⟩,af,eL⟩
   ·refine bE [.cells [I 5,.fn (.func 309) [] []],.aT] zz ⟨⟨af,zz⟩,zz,⟨zz,zz,zz,aG⟩,zq⟩<|ag (aq (t:=8) zz)<|aa<|kn [.ret (B (decide (cT (a.ls.take i) x.c>=0)))] zz ⟨Sn a.ls i x hx,zq⟩<|aj zz (λd=>?_) (λd=>?_)
    ·refine aJ zz<|ab (aD ?_);show I _=I _;simp only[dP,hx,Dh]at e ⊢;first|(simp [d];done)|simp [e,d]
    ·refine ak<|fE zz bL ?_;exact⟨1+1,⟨af,by simp only[Dh]at e ⊢;first|(simp [d];done)|simp [e,d]⟩,af,eL⟩
   ·refine bE [.cells [I 7,.fn (.func 310) [] [.pi [I b.n]]],.aT] zz ⟨⟨af,zz⟩,zz,⟨zz,zz,zz,aG⟩,zq⟩<|ag (aq (t:=8) zz)<|aa<|kn [.ret (B (ae 0 (2^b.n.toNat-1) [x.s]))] zz ⟨Rn a.ls i x b.n hx g f,zq⟩<|aj zz (λd=>?_) (λd=>?_)
    ·refine aJ zz<|ab (aD ?_);show I _=I _;simp only[dP,hx,Dh]at e ⊢;first|(simp [d];done)|simp [e,d]
    ·refine ak<|fE zz bL ?_;exact⟨2+1,⟨af,by simp only[Dh]at e ⊢;first|(simp [d];done)|simp [e,d]⟩,af,eL⟩
   ·refine bE [.cells [I 2,.fn (.func 311) [] []],.aT] zz ⟨⟨af,zz⟩,zz,⟨zz,zz,zz,aG⟩,zq⟩<|ag (aq (t:=8) zz)<|aa<|kn [.ret (B (x.s==0&& !x.q))] zz ⟨Qs a.ls i x hx,zq⟩<|aj zz (λd=>?_) (λd=>?_)
    ·refine aJ zz<|ab (aD ?_);show I _=I _;simp only[dP,hx,Dh]at e ⊢;first|(simp [d];done)|simp [e,d]
    ·refine ak<|fE zz bL ?_;exact⟨3+1,⟨af,by simp only[Dh]at e ⊢;first|(simp [d];done)|simp [e,d]⟩,af,eL⟩
  simp only[decide_eq_false_iff_not]at hc;have:k=4:=af;subst this;exact aE ⟨(),e,au zq⟩
 intro _ e;refine aJ zz<|ab (aD ?_);simp only[dP,hx,Dh]at e ⊢;obtain⟨f,h,j,h4⟩:=e;rw[f,h,j,h4];rfl
theorem Nf (x a:iB):Ev ad 209 [.agg x.ao,.pi a.ao] (B (x.name==a.name)):=by refine ar aji.ok<|bE [.bY] zz aK<|aJ zz<|ab (aD ?_);show B _=B _;simp
structure iB.wf (a:iB):Prop where
 name:a.name.length<=9223372036854775807
 ls: ∀x∈a.ls,x.wf
structure cL.wf (s:cL):Prop where
 a0: -9223372036854775808<=s.a
 a1:s.a<=9223372036854775807
 t:s.t.length<=9223372036854775807
structure dy.wf (b:dy):Prop where
 n0: -9223372036854775808<=b.n
 n1:b.n<=9223372036854775807
 al: ∀a∈b.al,a.wf
 ss: ∀s∈b.ss,s.wf
def ez (b:dy)(i:Nat):Int:=match b.al[i]? with
 |none=>0
 |some a=>if eI a.name=true then(if (b.al.take i).any (λx=>x.name==a.name)=true then 5 else if ae 1 6 [(a.ls.length:Int)]=true then 3 else(aB (dP b.n a.ls) a.ls.length 0).2)else 6
theorem RG (b:dy)(i:Nat)(a:iB)(ha:b.al[i]? =some a)(c:a.wf)(d:0<=b.n)(e:b.n<62):Ev ad 207 [I i,.agg a.ao,.pi b.ao] (I (ez b i)):=by
 have f:=(an.1 ha).1;refine ar ahf.ok<|bE [.bY] zz aK<|dw (ez b i=(aB (dP b.n a.ls) a.ls.length 0).2) (el [(2,.pi b.ao),(4,.pi a.ao)]) [] [] ?_ ?_
 refine bE [.ret (B (eI a.name))] zz ⟨vM a.name c.name,zq⟩<|aj zz (λhc=>?_) (λhc=>?_)
 simp at hc;refine aJ zz<|ab (aD ?_);show I _=I _;simp [ez,ha,hc]
 simp at hc;refine bE [.yt [aaX (b.al.take i),.fn (.func 209) [] [.pi a.ao]] (B ((b.al.take i).any (λx=>x.name==a.name)))] zz ⟨⟨⟨zq,af⟩,aF,by simp;omega⟩,⟨HJ _ _ _ _ (λx _=>Nf x a),gN (by show [AV.sl 2 ((b.al.map iB.ao).take i),.fn (.func 209) [] [.pi a.ao]]=_;rw[<-hr])⟩,zq⟩<|aj zz (λhd=>?_) (λhd=>?_)
 refine aJ zz<|ab (aD ?_);show I _=I _;simp only[ez,ha,hc,hd,if_true]
 refine bE [.bY,.ret (B (ae 1 6 [((a.ls.map bc.ao).length:Int)]))] zz ⟨zz,jX 1 6 [((a.ls.map bc.ao).length:Int)],zq⟩<|aj zz (λhe=>?_) (λhe=>?_)<;>rw[bl]at he
 refine aJ zz<|ab (aD ?_);show I _=I _;simp only[ez,ha,hc,hd,he,if_true,if_false,a6]
 refine ak ⟨(),?_,eL⟩;simp only[ez,ha,hc,hd,he,if_true,if_false,a6]
 intro _ he;refine bE [.ret (.cG [I (aB (dP b.n a.ls) a.ls.length 0).1,I (aB (dP b.n a.ls) a.ls.length 0).2])] zz ⟨JG a.ls _ _ _ (λk x hx=>LS b a k x hx (c.ls x (ap hx)) d e),zq⟩<|aJ zz<|ab (aD ?_);rw[he];rfl
def dJ (b:dy)(i:Nat):Int:=match b.ss[i]? with
 |none=>0
 |some s=>if ae 0 ((b.al.length:Int)-1) [s.a]=true then 4 else if ae 1 5 [(s.t.length:Int)]=true then 3 else match b.al[s.a.toNat]? with
  |none=>0
  |some a=>if s.t.all (λc=>decide (0<=cT a.ls c.toNat))=true then 0 else 6
theorem Qf (b:dy)(i:Nat)(s:cL)(hs:b.ss[i]? =some s)(l:s.wf)(j:b.al.length<100):Ev ad 214 [I i,.agg s.ao,.pi b.ao] (I (dJ b i)):=by
 apply ar alT.ok;have m:=l.t;refine bE [.bY] zz aK<|dw (∃a,0<=s.a/\b.al[s.a.toNat]? =some a/\dJ b i=if s.t.all (λc=>decide (0<=cT a.ls c.toNat))=true then 0 else 6) (el [(2,.pi b.ao),(4,.pi s.ao)]) [] [] ?_ ?_
 refine bE [.bY,.ret (B (ae 0 (((b.al.map iB.ao).length:Int)-1) [s.a]))] zz ⟨by simp;omega,zz,jX 0 (((b.al.map iB.ao).length:Int)-1) [s.a],zq⟩<|aj zz (λhc=>?_) (λhc=>?_)<;>rw[bl]at hc
 refine aJ zz<|ab (aD ?_);show I _=I _;simp only[dJ,hs,hc,if_true]
 refine bE [.bY,.ret (B (ae 1 5 [(s.t.length:Int)]))] zz ⟨zz,jX 1 5 [(s.t.length:Int)],zq⟩<|aj zz (λhd=>?_) (λhd=>?_)
 refine aJ zz<|ab (aD ?_);show I _=I _;simp only[dJ,hs,hc,hd,if_true,if_false,a6]
 have f:=hc;simp only[ae,c8,ec,cA,bx,decide_eq_false_iff_not]at f;have g:s.a.toNat<b.al.length:=af;obtain⟨a,ha⟩:=bq g;refine ak ⟨(),⟨a,af,ha,?_⟩,eL⟩;simp only[dJ,hs,hc,hd,ha,if_false,a6]
 rintro _ ⟨a,d,ha,he⟩;refine aa<|aJ zz<|cj (dJ b i=0) (el []) [] [] ?_ ?_;refine gf (λk:Nat=>k<=s.t.length/\(s.t.all (λc=>decide (0<=cT a.ls c.toNat))=(s.t.drop k).all (λc=>decide (0<=cT a.ls c.toNat)))) (λk=>el [(2,.pi b.ao),(4,.pi s.ao),(24,I s.t.length),(25,I k)]) (λk=>s.t.length-k) 0 nN
  eL ?_
 rintro k ⟨hk,hi⟩;refine aJ zz<|aa (aj zz (λhc=>?_) (λhc=>?_));simp at hc;obtain⟨c,hx⟩:=bq hc;rw[drop_cons hx,e9]at hi;refine ak (aa (ay ?_));refine aJ zz<|aa<|tI [] [.cells a.ao,.byte c,.ret (I (cT a.ls c.toNat))] zz ⟨⟨d,by simp [ha]⟩,⟨af,by simpa using hx⟩,yy a.ls c.toNat,zq⟩<|aj zz (λe=>?_) (λe=>?_)
 simp at e;refine aJ zz<|ab (aD ?_);have:decide (0<=cT a.ls c.toNat)=false:=by simp;omega
 rw[he,hi,this];rfl
 simp at e;refine ak<|fE zz bL ?_;have:decide (0<=cT a.ls c.toNat)=true:=by simp;omega
 exact⟨k+1,⟨hc,by rw[hi,this];rfl⟩,af,eL⟩
 simp only[nL]at hc;refine aE ⟨(),?_,au zq⟩;rw[he,hi,drop_nil hc];rfl
 intro _ h;refine aJ zz<|ab (aD ?_);rw[h];rfl
def check (b:dy):Int×Int×Int:=
 if ae 1 4 [b.n]=true then(1,0,7)else if ae 1 3 [(b.al.length:Int)]=true then(2,0,3)else
 if (aB (ez b) b.al.length 0).2=0 then
  (if 5<b.ss.length then(3,0,3)else if (aB (dJ b) b.ss.length 0).2=0 then(0,0,0)else(3,(aB (dJ b) b.ss.length 0).1,(aB (dJ b) b.ss.length 0).2))
 else(2,(aB (ez b) b.al.length 0).1,(aB (ez b) b.al.length 0).2)
theorem K4 (b:dy)(g:b.wf):Ev ad 104 [.agg b.ao] (.cG [I (check b).1,I (check b).2.1,I (check b).2.2]):=by
 refine ar ajE.ok<|bE [.bY] zz aK ?_;have res: ∀{env:Env} {H:av} {p q r:Int},check b=(p,q,r)->env 2=I p->env 3=I q->env 4=I r->qn ad [.tmp 2,.tmp 3,.tmp 4] (.cG [I (check b).1,I (check b).2.1,I (check b).2.2]) .ret env H []:=by intro env H p q r h i j h4;rw[h];exact gv (.inr zz) (.many aG ⟨.tmp i zz,.tmp j zz,.tmp h4 zz,zq⟩)
 refine dw (ae 1 4 [b.n]=false/\ae 1 3 [(b.al.length:Int)]=false) (el [(1,.pi b.ao)]) [] [] ?_ ?_;refine bE [.bY,.ret (B (ae 1 4 [b.n]))] zz ⟨zz,jX 1 4 [b.n],zq⟩<|aj zz (λhc=>?_) (λhc=>?_)
 apply aJ zz;exact ab (res (by simp only[check,hc,if_true]) zz zz zz);refine bE [.bY,.ret (B (ae 1 3 [((b.al.map iB.ao).length:Int)]))] zz ⟨zz,jX 1 3 [((b.al.map iB.ao).length:Int)],zq⟩<|aj zz (λhd=>?_) (λhd=>?_)<;>rw[bl]at hd
 apply aJ zz;exact ab (res (by simp only[check,hc,hd,if_true,if_false,a6]) zz zz zz);exact ak ⟨(),⟨hc,hd⟩,eL⟩
 rintro _ ⟨hc,hd⟩;have d:=hc;have e:=hd;simp only[ae,c8,ec,cA,bx,decide_eq_false_iff_not]at d e;refine bE [.ret (.cG [I (aB (ez b) b.al.length 0).1,I (aB (ez b) b.al.length 0).2])] zz ⟨IL b.al _ _ _ (λk a ha=>RG b k a ha (g.al a (ap ha)) af af),zq⟩<|dw ((aB (ez b) b.al.length 0).2=0/\ ¬5<b.ss.length) (el [(1,.pi b.ao)]) [] [] ?_ ?_;refine aJ zz<|aj zz (λhe=>?_) (λhe=>?_)
 simp at he;apply aJ zz;exact ab (res (r:=(aB (ez b) b.al.length 0).2) (by simp only[check,hc,hd,he,if_false,a6]) zz zz zz);simp only[bne_eq_false_iff_eq]at he;refine aJ zz<|aj zz (λc=>?_) (λc=>?_)
 simp only[nL]at c;have f:5<b.ss.length:=af;refine aJ zz ?_;exact ab (res (p:=3) (q:=0) (r:=3) (by simp only[check,hc,hd,he,f,if_true,if_false,a6]) zz zz zz);simp only[nL]at c;exact ak ⟨(),⟨he,af⟩,eL⟩
 rintro _ ⟨he,c⟩;refine bE [.ret (.cG [I (aB (dJ b) b.ss.length 0).1,I (aB (dJ b) b.ss.length 0).2])] zz ⟨Ir b.ss _ _ _ (λk s hs=>Qf b k s hs (g.ss s (ap hs)) af),zq⟩<|aa (aa ?_);refine cZ zz<|aj zz (λhg=>?_) (λhg=>?_);simp only[nL]at hg;refine aJ zz ?_;exact ab (res (p:=3) (q:=(aB (dJ b) b.ss.length 0).1) (r:=(aB (dJ b) b.ss.length 0).2) (by simp only[check,hc,hd,he,c,hg,if_true,if_false,a6]) zz zz zz);simp only[bne_eq_false_iff_eq]at hg;refine ak<|aJ zz ?_;exact ab (res (p:=0) (q:=0) (r:=0) (by simp only[check,hc,hd,he,c,hg,if_true,if_false,a6]) zz zz zz)
abbrev bp (b:dy)(m:AV):AV:=.pi (b.ao++[m])
structure Ny (b:dy)(i:Nat)(s:cL)(a:iB)(xs:List bc):Prop where
 hs:b.ss[i]? =some s
 a0:0<=s.a
 ha:b.al[s.a.toNat]? =some a
 len:xs.length=s.t.length
 at_: ∀(k:Nat) (c:UInt8),s.t[k]? =some c->0<=cT a.ls c.toNat/\ ∃x,a.ls[(cT a.ls c.toNat).toNat]? =some x/\xs[k]? =some x
 snd: ∀x∈xs,0<=x.s/\x.s<9223372036854775808
 t5:s.t.length<=5
section
variable {b:dy}{i:Nat}{s:cL}{a:iB}{xs:List bc}
theorem Ny.get (h:Ny b i s a xs)(hx:xs[k]? =some x): ∃c,s.t[k]? =some c/\0<=cT a.ls c.toNat/\a.ls[(cT a.ls c.toNat).toNat]? =some x:=by
 have hk:k<s.t.length:=by rw[<-h.len];exact(an.1 hx).1
 obtain⟨c,hc⟩:=bq hk;obtain⟨e,g,f,d⟩:=h.at_ k c hc;rw[hx]at d;cases d;exact⟨c,hc,e,f⟩
theorem ab7 (ok:Ny b i s a xs)(hx:xs[k]? =some x)(m:AV)(n:Int)(g:0<=n)(d:n<64):Ev ad 439 [bp b m,I i,I k,I n] (B (da x.s n)):=by obtain⟨c,hc,e,f⟩:=ok.get hx;obtain⟨s0,s1⟩:=ok.snd x (ap hx);refine ar ajk.ok<|aJ zz<|bE [.cells s.ao,.aT] zz ⟨⟨af,by simp [ok.hs]⟩,zz,⟨zz,zz,zz,aG⟩,zq⟩<|ag (aq (t:=9) zz)<|xe [] [.cells a.ao] zz ⟨⟨ok.a0,by simp [ok.ha]⟩,zq⟩<|bE [.byte c,.ret (I (cT a.ls c.toNat)),.cells x.ao,.ret (B (da x.s n))] zz ⟨⟨af,bD⟩,yy a.ls c.toNat,⟨e,by simp [f]⟩,SM x n s0 s1 g d,zq⟩<|ab (aD ?_);rfl
theorem FH (ok:Ny b i s a xs)(hx:xs[k]? =some x)(m:AV):Ev ad 441 [bp b m,I i,I k] (B x.q):=by obtain⟨c,hc,d,e⟩:=ok.get hx;refine ar alJ.ok<|aJ zz<|bE [.cells s.ao,.aT] zz ⟨⟨af,by simp [ok.hs]⟩,zz,⟨zz,zz,zz,aG⟩,zq⟩<|ag (aq (t:=7) zz)<|xe [] [.cells a.ao] zz ⟨⟨ok.a0,by simp [ok.ha]⟩,zq⟩<|bE [.byte c,.ret (I (cT a.ls c.toNat)),.cells x.ao] zz ⟨⟨af,bD⟩,yy a.ls c.toNat,⟨d,by simp [e]⟩,zq⟩<|ab (aD ?_);rfl
end
abbrev St (h:List Int):List Value:=[.int .i64 h.length,.int .i64 (h.getD 0 0),.int .i64 (h.getD 1 0),.int .i64 (h.getD 2 0),.int .i64 (h.getD 3 0),.int .i64 (h.getD 4 0)]
abbrev gr (h:List Int):List AV:=(St h).map .v
def dZ (n:Nat):List bc->List Int->List (List Int)
 |[],h=>[h]
 |x::xs,h=>(if x.q=true then dZ n xs h else[])++((az n).filter (λ(k:Nat)=>da x.s k)).flatMap (λ(k:Nat)=>dZ n xs (h++[(k:Int)]))
def tK (h:List Int):Prop:=h.length<=5/\ ∀v∈h,0<=v/\v<64
def aeJ (b:dy)(i:Nat)(m:AV)(y:AV)(b5:Nat):AV:=.fn (.func 440) [] [.pi [bp b m],.pi [I i],.pi [y],.po b5 0,.pi [.fn (.func 439) [bp b m] []]]
def yK (b:dy)(i:Nat)(m:AV)(y:AV)(b5:Nat):Nat×dp:=(b5,.cells 540 [aeJ b i m y b5])
theorem LX (b:dy)(i:Nat)(m:AV):Ev ad 437 [bp b m,I i] (.fn (.func 438) [] [.pi [bp b m],.pi [I i]]):=by refine ar ahC.ok<|bE [.bY,.bY] zz eE<|aJ zz<|ab (aD ?_);rfl
theorem rR (n:Nat): ∀(xs:List bc) (h g:List Int),g∈dZ n xs h->g.length<=h.length+xs.length
 |[],h,g,hg=>by simp [dZ]at hg;subst hg;simp
 |x::xs,h,g,hg=>by
  simp only[dZ,a7,cc]at hg;rcases hg with hg|⟨k,_,hg⟩
  split at hg;have:=rR n xs h g hg;simp;omega;cases hg;have:=rR n xs _ g hg;simp at this ⊢;omega
theorem MD (h:List Int)(n:Int)(hl:h.length<5):bU (gr h) (0+1+((h.length:Int).toNat)*1) [I n]=I h.length::(gr (h++[n])).tail:=by
 match h,hl with
 |[],_=>rfl
 |[_],_=>rfl
 |[_,_],_=>rfl
 |[_,_,_],_=>rfl
 |[_,_,_,_],_=>rfl
abbrev PT (b:dy)(i:Nat)(m:AV)(y:Fn)(b5 k:Nat)(h:List Int):List (Nat×AV):=
 [(0,I k),(2,.pi [bp b m]),(3,.pi [I i]),(4,.pi [.fn y [] []]),(5,.po b5 0),(6,.pi [.fn (.func 439) [bp b m] []]),(8,.pi (gr h))]
section
variable {X:Type} (T:X->av) (step:X->List Int->X) (y:Fn) (b:dy) (i:Nat) (s:cL) (a:iB) (xs0:List bc) (m:AV)
theorem Xx (ok:Ny b i s a xs0)(L:0<=b.n)(M:b.n<60)(hy: ∀x h,tK h->Sr ad y [] [.agg (gr h)] (T x) (λr Ho=>r=B true/\Ho=T (step x h)))(b5:Nat):
  ∀(xs:List bc) (k:Nat) (h:List Int) (x:X),xs0.drop k=xs->k<=s.t.length->h.length<=k->(∀v∈h,0<=v/\v<64)->
   iM ad 440 [I k,.agg (gr h),.pi [bp b m],.pi [I i],.pi [.fn y [] []],.po b5 0,.pi [.fn (.func 439) [bp b m] []]] (yK b i m (.fn y [] []) b5::T x)
    (λr Ho=>r=B true/\Ho=yK b i m (.fn y [] []) b5::T ((dZ b.n.toNat xs h).foldl step x)):=by
 intro xs;have N:=ok.t5;induction xs with
 |nil=>
  intro k h x hd hk hh C;have F:k=s.t.length:=by have:=congrArg List.length hd;simp [ok.len]at this;omega
  refine bH aiS.ok<|bE [.bY] zz aK<|aU.scope (aa (aa ?_))
  refine tI [] [.cells s.ao] zz ⟨⟨af,by simp [ok.hs]⟩,zq⟩<|aj zz (λhc=>?_) (λhc=>?_)
  refine aa (aA ?_);refine lY 2 zz zz<|aR (cM (e4 (l₁:=[yK b i m (.fn y [] []) b5])))<|ah (cq zz (hy x h ⟨af,C⟩) zz zz (aW _) zz ?_)
  rintro res d ⟨rfl,rfl⟩;refine aR (cM (e4))<|gk zz<|ab ⟨.inr zz,_,_,_,zz,.one (.tmp zz zz),⟨zz,?_⟩,ew _⟩;rfl
  exfalso;subst F;have hc:((s.t.length:Int)==(s.t.length:Int))=false:=hc;simp at hc
 |cons z xs H=>
  intro k h x hd hk hh C;have A:xs0[k]? =some z:=by have:=congrArg (λl=>l[0]?) hd;simpa using this
  have p:xs0.drop (k+1)=xs:=by have:=drop_cons A;rw[hd]at this;exact(hM this).2.symm
  have K:k<s.t.length:=by rw[<-ok.len];exact(an.1 A).1
  refine bH aiS.ok<|bE [.bY] zz aK<|aU.scope (aa (aa ?_))
  refine tI [] [.cells s.ao] zz ⟨⟨af,by simp [ok.hs]⟩,zq⟩<|aj zz (λhc=>?_) (λhc=>?_)
  exfalso;have hc:((k:Int)==(s.t.length:Int))=true:=hc;simp at hc;omega;refine ak<|eZ True (el (PT b i m y b5 k h)) (yK b i m (.fn y [] []) b5::T ((if z.q=true then dZ b.n.toNat xs h else[]).foldl step x)) [] ?_ ?_
  cases c:z.q with
  |true=>
   refine aa (aA ?_);refine xnG [(31,true)] [.ret (B z.q),.at 0] 9 zz zz ⟨FH ok A m,⟨c,zz⟩,c,⟨c,af⟩,c,zq⟩<|aY.Vg (by show B z.q=B true;rw[c])<|cq (H0:=[]) zz (H (k+1) h x p af af C) zz zz (aW _) aF ?_
   rintro res d ⟨rfl,rfl⟩;refine xdG [(31,true)] [] zz ⟨c,c,zq⟩<|aH zz zz ?_;refine⟨(),zq,ai (aw ?_) eL⟩;simp
  |false=>
   refine aa<|kD [(31,false)] [.ret (B z.q)] zz ⟨FH ok A m,c,c,c,c,c,c,c,zq⟩<|aH zz zz ?_
   refine⟨(),zq,ai (aw ?_) eL⟩;simp
  refine λ_ _=>aa (aU.label (aa (aa ?_)));apply cZ zz;generalize G:(if z.q=true then dZ b.n.toNat xs h else[]).foldl step x=J;have u: ∀j:Nat,((az (j+1)).filter (λ(k:Nat)=>da z.s k)).flatMap (λ(k:Nat)=>dZ b.n.toNat xs (h++[(k:Int)]))=
    ((az j).filter (λ(k:Nat)=>da z.s k)).flatMap (λ(k:Nat)=>dZ b.n.toNat xs (h++[(k:Int)]))++(if da z.s j=true then dZ b.n.toNat xs (h++[(j:Int)])else[]):=by
   intro j
   rw[b8,ff,List.flatMap_append]
   congr 1
   cases hg:da z.s j<;>simp [hg]
  refine cj True (el []) (yK b i m (.fn y [] []) b5::T ((dZ b.n.toNat (z::xs) h).foldl step x)) [] ?_ ?_;refine bJ (λj:Nat=>j<=b.n.toNat) (λj=>el ((43,I b.n)::(44,I j)::PT b i m y b5 k h))
   (λj=>yK b i m (.fn y [] []) b5::T ((((az j).filter (λ(k:Nat)=>da z.s k)).flatMap (λ(k:Nat)=>dZ b.n.toNat xs (h++[(k:Int)]))).foldl step J)) (λ_=>[]) (λj=>b.n.toNat-j) 0 af
   eL ?_
  intro j O;generalize g:(((az j).filter (λ(k:Nat)=>da z.s k)).flatMap (λ(k:Nat)=>dZ b.n.toNat xs (h++[(k:Int)]))).foldl step J=D;refine aJ zz<|aa (aj zz (λhc=>?_) (λhc=>?_))
  simp at hc;have w:j<b.n.toNat:=af;refine ak (aa (ay ?_));refine aJ zz<|aa (aa ?_)
  refine kn [.ret (B (da z.s j))] zz ⟨ab7 ok A m j af af,zq⟩<|aj zz (λo=>?_) (λo=>?_)
  simp at o;refine aE<|fE zz bL ?_
  refine⟨j+1,w,af,ai (aw ?_) eL⟩;rw[u,o,<-g];simp
  simp at o;refine ak<|bE [.aT] zz eQ<|bW (t:=11) zz (λf=>?_)
  refine aa (aA ?_);refine Rz 5 zz zz ⟨⟨af,by simp;omega⟩,zq⟩<|ah (bz (i:=0) zz zz zz zz zz zz (by show 0+1+((h.length:Int).toNat)*1+1<=6;omega) ?_)
  refine aR (aw (H':=(f,.cells 507 (I h.length::(gr (h++[(j:Int)])).tail))::yK b i m (.fn y [] []) b5::T D) ?_) ?_;rw[<-MD h j af];rfl;refine gk zz<|aa (aA ?_)
  refine mO [.at 0] 4 zz zz ⟨zz,⟨af,af⟩,zq⟩<|ah (bz (i:=0) zz zz zz zz zz zz aF ?_)
  refine aR (aw (H':=(f,.cells 507 (gr (h++[(j:Int)])))::yK b i m (.fn y [] []) b5::T D) ?_) ?_;have e:(((h++[(j:Int)]).length:Nat):Int)=(h.length:Int)+1:=aF;show (f,dp.cells 507 (I ((h.length:Int)+1)::(gr (h++[(j:Int)])).tail))::_=_;rw[<-e];rfl;refine aR (bO.jw (i:=0) 11 zz zz)<|gk zz<|aa (aA ?_)
  refine mO [.at 0] 4 zz zz ⟨zz,af,zq⟩<|ah (cq (Hin:=yK b i m (.fn y [] []) b5::T D) (H0:=[]) zz (H (k+1) (h++[(j:Int)]) D p af (by simp;omega) (λv hm=>by
   rcases a7.1 hm with hm|hm
   ·exact C v hm
   ·simp only[a8]at hm;omega)) zz zz (aW _) aF ?_)
  rintro res d ⟨rfl,rfl⟩;refine gk zz<|aH zz zz<|fE zz bL ?_;refine⟨j+1,w,af,ai (aw ?_) eL⟩;rw[u,o,b3,g];simp
  simp only[decide_eq_false_iff_not]at hc;have E:j=b.n.toNat:=af;refine aE ⟨(),zq,ai (aw ?_) (au zq)⟩;subst E;rw[<-g,<-G,<-b3];rfl
  intro _ _;refine aJ zz<|ab ⟨.inr zz,_,_,_,zz,.one (.tmp zz zz),gJ,ew _⟩
theorem KB (ok:Ny b i s a xs0)(c:0<=b.n)(d:b.n<60)(hy: ∀x h,tK h->Sr ad y [] [.agg (gr h)] (T x) (λr Ho=>r=B true/\Ho=T (step x h)))(x:X):
  iM ad 438 [.fn y [] [],.pi [bp b m],.pi [I i]] (T x) (λ_ Ho=>Ho=T ((dZ b.n.toNat xs0 []).foldl step x)):=by
 refine bH amr.ok<|bE [.bY] zz aK<|bE [.aT] zz eQ<|ag (aq (t:=4) zz)<|aa (aA (ah (aO.alloc zz (λb5=>?_))))
 refine gk zz<|aa (aA ?_)
 refine lY 1 zz zz<|ah (bz (i:=0) zz zz zz zz zz zz aG ?_)
 refine gk zz<|aA<|mO [.at 0] 2 zz zz cI<|ah (cq (H0:=[]) zz (Xx T step y b i s a xs0 m ok c d hy b5 xs0 0 [] x zz af aF aF) zz zz (aW _) (by simp;rfl) ?_)
 rintro res e ⟨rfl,rfl⟩;apply gk zz;refine⟨.inl zz,_,.cG [],_,zz,.many aG zq,zz,?_⟩;simp only[gR];exact List.sublist_cons_self _ _
end
theorem hK:iQ ad 507 (bS ad 5 507):=iQ.wide (m:=5) aG aX aX aX
theorem ad1 (c0 c1 b c c4 d:Int)(g:(cD .i64 c0).wf=true)(h:(cD .i64 c1).wf=true)(i:(cD .i64 b).wf=true)(j:(cD .i64 c).wf=true)(h4:(cD .i64 c4).wf=true)(k:(cD .i64 d).wf=true):
  bS ad 5 507 (.agg #[.int .i64 c0,.int .i64 c1,.int .i64 b,.int .i64 c,.int .i64 c4,.int .i64 d]):=by have a:ad.cellsOf 507=6:=aX;have e:ad.cellsOf 236=5:=aX;have f:ad.cellsOf 3=1:=aX;refine⟨?_,[.int .i64 c0,.int .i64 c1,.int .i64 b,.int .i64 c,.int .i64 c4,.int .i64 d],?_⟩;simp [hD,fj,a];simp [hH,hf,fj,en,gM,a,e,f,g,h,i,j,h4,k,b8]
abbrev mC (h:List Int):Value:=.agg #[.int .i64 h.length,.int .i64 (h.getD 0 0),.int .i64 (h.getD 1 0),.int .i64 (h.getD 2 0),.int .i64 (h.getD 3 0),.int .i64 (h.getD 4 0)]
theorem oE (b:0<=n)(c:n<64):(cD .i64 n).wf=true:=by have a:IntKind.i64.min= -9223372036854775808:=rfl;simp [Lit.wf];omega
theorem tK.get (hh:tK h)(k:Nat):0<=h.getD k 0/\h.getD k 0<64:=by
 rw[List.getD_eq_getElem?_getD];cases he:h[k]? with
 |none=>simp
 |some v=>simpa using hh.2 v (ap he)
theorem tK.wide (hh:tK h):bS ad 5 507 (mC h):=
 ad1 _ _ _ _ _ _ (oE af (by have:=hh.1;omega)) (oE (hh.get 0).1 (hh.get 0).2) (oE (hh.get 1).1 (hh.get 1).2) (oE (hh.get 2).1 (hh.get 2).2) (oE (hh.get 3).1 (hh.get 3).2) (oE (hh.get 4).1 (hh.get 4).2)
theorem JH {g:List Int}(hh:h.length<=5)(e:mC h=mC g):h=g:=by simp at e;obtain⟨a,b,c,d,f,i⟩:=e;apply cx;intro k;by_cases hk:k<h.length;grind;grind
abbrev Kn:=List (List Int×Nat)
variable {j:Kn}
def ia:Kn->List Int->Option (Nat×Nat)
 |[],_=>none
 |(g,u)::es,h=>if g=h then some (0,u)else(ia es h).map λp=>(p.1+1,p.2)
def oR (es:Kn)(h:List Int)(bit:Nat):Kn:=match ia es h with
 |none=>es++[(h,bit)]
 |some (j,u)=>es.set j (h,u ||| bit)
def jV (es:Kn):List (Value×AV):=es.map λe=>(mC e.1,I e.2)
def xF (es:Kn):Prop:= ∀e∈es,tK e.1/\e.2<32
theorem jR: ∀(es:Kn) (h:List Int),match ia es h with
  |none=> ∀e∈es,e.1≠h
  |some (j,u)=>es[j]? =some (h,u)
 |[],h=>by simp [ia]
 |(g,u)::es,h=>by
  have a:=jR es h;by_cases hg:g=h;simp [ia,hg];simp only[ia,zj hg];cases hk:ia es h with
  |none=>rw[hk]at a;simpa [hg]using a
  |some p=>obtain⟨j,v⟩:=p;rw[hk]at a;simpa using a
theorem adP {es:Kn}(hk:xF es):CC (jV es) (mC h) ((ia es h).map λp=>(p.1,I p.2)):=by
 have hs:=jR es h;cases a:ia es h with
 |none=>rw[a]at hs;refine .none ?_;intro e he;obtain⟨x,hx,rfl⟩:=bI.1 he;exact λe=>hs x hx (JH (hk x hx).1.1 e)
 |some p=>obtain⟨j,u⟩:=p;rw[a]at hs;refine .some ?_;show (es.map λe=>(mC e.1,I e.2))[j]? =_;rw[bt,hs];rfl
theorem OZ {es:Kn}(hk:xF es)(hh:tK h){a:Nat}(c:a<32):xF (oR es h a):=by
 have hs:=jR es h;intro e he;unfold oR at he;cases b:ia es h with
 |none=>
  rw[b]at he;rcases a7.1 he with he|he
  exact hk e he;grind
 |some p=>obtain⟨j,u⟩:=p;rw[b]at he hs;rcases List.mem_or_eq_of_mem_set he with he|rfl;exact hk e he;exact⟨hh,ey (n:=5) (hk _ (ap hs)).2 c⟩
theorem aag {env:Env}: ∀{l:List (Nat×AV)},uX env l->l.all (λp=> !p.2.bT)=true-> ∀t,el l t= .any\/(el l t=env t/\(env t).bT=false)
 |[],_,_,t=>.inl zz
 |(u,p)::l,h,hl,t=>by
  simp only[e9,cb,Bool.not_eq_true']at hl;simp only[el];cases a:Nat.beq t u with
  |true=>have:=Nat.eq_of_beq_eq_true a;subst this;exact .inr ⟨h.1.symm,by rw[h.1];exact hl.1⟩
  |false=>exact aag h.2 hl.2 t
theorem Lb:(ad.info? 3).bind (·.zero)=some (.int .i64 0):=aX
def lF (es:Kn)(h:List Int):Nat:=match ia es h with|none=>0|some (_,u)=>u
def Xr (es:Kn)(h:List Int):Option (Nat×AV):=(ia es h).map λp=>(p.1,I p.2)
theorem PJ (es:Kn)(h:List Int):rQ false (cv (.int .i64 0)) (Xr es h)=I (lF es h):=by unfold Xr lF;cases ia es h<;>rfl
def BF (es:Kn)(h:List Int):Kn:=match ia es h with|none=>es++[(h,0)]|some _=>es
theorem SR (es:Kn)(h:List Int):mA (jV es) (mC h) (I (lF es h)) (Xr es h)=jV (BF es h):=by
 unfold Xr lF BF;have hs:=jR es h;cases a:ia es h with
 |none=>simp [mA,jV]
 |some p=>
  obtain⟨j,u⟩:=p;rw[a]at hs;simp only[gX,mA];apply cx;intro n;rw[b6];have b:j<(jV es).length:=by have:=(an.1 hs).1;simpa [jV]using this
  split;rename_i e;subst e;show _=(es.map _)[j]?;rw[bt,hs];rfl;rfl
def Ka (es:Kn)(h:List Int):Nat:=match ia es h with|none=>es.length|some (j,_)=>j
theorem Zt (es:Kn)(h:List Int):vT (jV es) (Xr es h)=Ka es h:=by unfold Xr Ka;cases ia es h<;>simp [vT,jV]
theorem OL (es:Kn)(h:List Int):(jV (BF es h))[Ka es h]? =some (mC h,I (lF es h)):=by grind [BF,Ka,lF,ia,jV,jR]
theorem U7 (es:Kn)(h:List Int)(bit:Nat):(jV (BF es h)).set (Ka es h) (mC h,I ((lF es h ||| bit:Nat):Int))=jV (oR es h bit):=by
 unfold BF Ka lF oR;cases a:ia es h with
 |none=>simp [jV]
 |some p=>obtain⟨j,u⟩:=p;show (es.map _).set j _=(es.set j _).map _;rw[fs]
theorem Y9 {es:Kn}(hk:xF es)(hh:tK h):xF (BF es h):=by
 unfold BF;cases ia es h with
 |none=>
  intro e he;rcases a7.1 he with he|he
  exact hk e he;grind
 |some p=>exact hk
theorem xF.ks {es:Kn}(hk:xF es): ∀e∈jV es,bS ad 5 507 e.1:=by intro e he;obtain⟨x,hx,rfl⟩:=bI.1 he;exact(hk x hx).1.wide
theorem Yk {es:Kn}(hk:xF es)(h:List Int):lF es h<32:=by
 have hs:=jR es h;unfold lF;cases a:ia es h with
 |none=>simp
 |some p=>obtain⟨j,u⟩:=p;rw[a]at hs;exact(hk _ (ap hs)).2
theorem QD (b:dy)(i:Nat)(hi:i<5)(bm l:Nat)(es:Kn)(hk:xF es)(h:List Int)(hh:tK h)(Q:dl)
  (m: ∀env,Q .normal env [(bm,.map (jV (oR es h (2^i))))] []) (env:Env) (he:uX env [(3,.pi [bp b (.mo bm)]),(4,.pi [I i]),(5,.pi (gr h))]):
  aU ad (some l) 33 (.nj [(⟨some 20,none,.load 503 (tm 3) none⟩,[]),(⟨some 21,none,.yv (tm 20)⟩,[0]),(⟨some 22,none,.rG 530 (tm 21) 1 3⟩,[1]),(⟨some 23,none,.load 528 (tm 22) none⟩,[2]),
   (⟨some 24,none,.load 507 (tm 5) (some 6)⟩,[]),(⟨some 25,none,.lookup 528 (tm 23) (tm 24) false 507 3 [.int .i64 0]⟩,[3,4]),(⟨some 26,none,.load 3 (tm 4) none⟩,[]),(⟨some 27,none,.bin .shl 3 (kc 1) (tm 26)⟩,[6]),
   (⟨some 28,none,.bin .or 3 (tm 25) (tm 27)⟩,[5,7]),(⟨some 29,none,.qi 528 (tm 23) (tm 24) 507 3 [.int .i64 0]⟩,[3,4,0,1,2,3,4,6,7]),(⟨some 30,none,.extract (tm 29) 1⟩,[9]),
   (⟨none,none,.xT 528 (tm 23) (tm 30) (tm 28)⟩,[3,10,8,9,0,1,2,3,4,5,6,7,8,9,10])]) Q env [(bm,.map (jV es))] []:=by
 have r:(2:Int)^i<=2305843009213693952:=yL af;have p:(0:Int)<2^i:=eu af;have o:=Yk hk h;have j: ∀env0:Env,env0 23= .mo bm->valOf (env0 24)=some (mC h)->Q1 ad (some l) 33 (.lookup 528 (tm 23) (tm 24) false 507 3 [.int .i64 0]) (some 25) env0 [(bm,.map (jV es))] [] [(25,I (lF es h))]:=by exact λenv0 c d=>aO.oS (n:=0) hK Lb c zz d hh.wide hk.ks (adP hk) ⟨by show cP _ _ (rQ false _ (Xr es h))=_;rw[PJ];rfl,zz,zz⟩
 have k: ∀env0:Env,env0 23= .mo bm->valOf (env0 24)=some (mC h)->Q1 ad (some l) 33 (.lookup 528 (tm 23) (tm 24) false 507 3 [.int .i64 0]) (some 25) env0 [(bm,.map (jV (BF es h)))] [] [(25,I (lF es h))]:=by exact λenv0 c d=>aO.oS (n:=0) hK Lb c zz d hh.wide (Y9 hk hh).ks (.some (OL es h)) dO
 have e: ∀env0:Env,env0 23= .mo bm->valOf (env0 24)=some (mC h)->R1 ad (some l) 33 (.qi 528 (tm 23) (tm 24) 507 3 [.int .i64 0]) (some 29) env0 [(bm,.map (jV es))] [(bm,.map (jV (BF es h)))] [] [(29,.cG [I (lF es h),I (Ka es h)])]:=by refine λenv0 c d=>aO.qi (n:=0) hK Lb c zz d hh.wide hk.ks (adP hk) ?_;have f:=PJ es h;unfold Xr at f;have g:=Zt es h;unfold Xr at g;have a:=SR es h;unfold Xr at a;rw[f,g,a];exact dO
 refine ag (au he)<|aU.DS zx<|gy.Eo (Hs:=λb=>bif b then[(bm,.map (jV (BF es h)))]else[(bm,.map (jV es))]) (q:=9) zz
  (.xq [] aG zz zz zz zq zq <| .xq [] aG zz zz zz zq zq <| .xq [] aG zz zz zz zq zq <| .xq [] aG zz zz zz zq zq <| .xq [] aG zz zz zz zq zq <|
    .cons [25,23,24] true true aG (λ_=>j _ zz zz) (λ_=>k _ zz zz) zz zz <|
    .xq [] aG zz zz zz zq zq <| .xq [] aG zz zz zz ⟨af,af,af,bD⟩ ⟨af,af,af,bD⟩ <|
    .xq [] aG zz zz zz ⟨fR,bD,bD⟩ ⟨fR,bD,bD⟩ <|
    .chg [29,23,24] zz ⟨zz,e _ zz zz⟩ zz zz <| .xq [] aG zz zz zz zq zq <| .nil) aX aX aX aX (.inl (by show 9<11;decide))<|gy.op zz aX aX (aO.xT (n:=0) zz zz zz (OL es h) zz zz ?_)
 refine gy.end aX ?_;have f:((1:Int)*2^((i:Nat):Int).toNat).toNat=2^i:=bD;have g:(jV (BF es h)).set (Ka es h) (mC h,I ((lF es h ||| ((1:Int)*2^((i:Nat):Int).toNat).toNat:Nat):Int))=jV (oR es h (2^i)):=by rw[f];exact U7 es h (2^i)
 have a:=m;rw[<-g]at a;exact a _
def kC (n:Nat):List (List bc)->Nat->Kn->Kn
 |[],_,es=>es
 |xs::a,i,es=>kC n a (i+1) ((dZ n xs []).foldl (λes h=>oR es h (2^i)) es)
structure W8 (b:dy)(sps:List (List bc)):Prop where
 n0:0<=b.n
 n1:b.n<60
 len:sps.length=b.ss.length
 Ks:sps.length<=5
 sp: ∀(i:Nat) xs,sps[i]? =some xs-> ∃s a,Ny b i s a xs
theorem vt {n:Nat}(a:n<=64): ∀(xs:List bc) (h g:List Int),g∈dZ n xs h->(∀v∈h,0<=v/\v<64)-> ∀v∈g,0<=v/\v<64
 |[],h,g,hg,hh=>by simp [dZ]at hg;subst hg;exact hh
 |x::xs,h,g,hg,hh=>by
  simp only[dZ,a7,cc]at hg;rcases hg with hg|⟨k,hk,hg⟩
  split at hg;exact vt a xs h g hg hh;cases hg;refine vt a xs _ g hg ?_;intro v hv;rcases a7.1 hv with hv|hv
  exact hh v hv;simp only[a8]at hv;have:=b0.1 (b7.1 hk).1;omega
abbrev KX:={es:Kn//xF es}
open Classical in
noncomputable def N1 (i:Nat) (hi:i<5) (x:KX) (h:List Int):KX:=if hh:tK h then⟨oR x.1 h (2^i),OZ x.2 hh (by
 have:2^i<=2^4:=bn (by omega) (by omega)
 omega)⟩else x
theorem Ft {i:Nat}{hi:i<5}{x:KX}(hh:tK h):(N1 i hi x h).1=oR x.1 h (2^i):=by unfold N1;rw[dif_pos hh]
theorem aaO {i:Nat}{hi:i<5}: ∀(l:List (List Int)) (x:KX),(∀h∈l,tK h)->(l.foldl (N1 i hi) x).1=l.foldl (λes h=>oR es h (2^i)) x.1
 |[],x,_=>rfl
 |h::l,x,hl=>by simp;rw[aaO l _ (λg hg=>hl g (by simp [hg])),Ft (hl h aF)]
theorem Z4 (b:dy)(c:List (List bc))(ok:W8 b c):Ev ad 430 [.agg b.ao] (bp b (.mi (jV (kC b.n.toNat c 0 [])))):=by
 have F:=ok.Ks;have q:=ok.len;have v:=ok.n0;have w:=ok.n1;refine ar alb.ok<|bE [.bY] zz aK<|aa (aA ?_);refine lY 1 zz zz<|ah (aO.vY (λbm=>?_));refine VR [.bY,.aT] zz ⟨⟨zz,zz⟩,zz,⟨zz,zz,zz,aG⟩,zq⟩<|ag (aq (t:=3) zz)<|aa (aa ?_);refine cZ zz<|aU.iN (λ_:List Nat=>True) (λ_=>el [(3,.pi [bp b (.mo bm)])]) (λf=>(bm,.map (jV (kC b.n.toNat c 0 [])))::f.map λd=>(d,dp.ri)) (λf=>f) ?_ ?_
 refine bJ (X:=Nat×Kn×List Nat) (λx=>x.1<=c.length/\xF x.2.1/\kC b.n.toNat c 0 []=kC b.n.toNat (c.drop x.1) x.1 x.2.1)
  (λx=>el [(3,.pi [bp b (.mo bm)]),(12,I c.length),(13,I x.1)]) (λx=>(bm,.map (jV x.2.1))::x.2.2.map λd=>(d,dp.ri)) (λx=>x.2.2) (λx=>c.length-x.1) (0,[],[]) ⟨aF,(by intro e he;cases he),zz⟩
  (au ⟨zz,by show I _=I _;simp [q],zz,zq⟩) ?_
 rintro⟨i,es,f⟩ ⟨hi,hk,g⟩;simp only at hi hk g ⊢;refine aJ zz<|aa (aj zz (λhc=>?_) (λhc=>?_));simp at hc;obtain⟨xs,hx⟩:=bq hc;obtain⟨s,a,j⟩:=ok.sp i xs hx;have p:i<5:=af;rw[drop_cons hx,kC]at g;have m: ∀h∈dZ b.n.toNat xs [],tK h:=λh hh=>⟨by
  have:=rR _ xs [] h hh
  have D:=j.len
  have E:=j.t5
  simp at this;omega,vt af xs [] h hh aF⟩
 refine ak (aa (ay ?_));refine bE [.aT] zz eQ<|ag (aq (t:=4) zz)<|bE [.ret (.fn (.func 438) [] [.pi [bp b (.mo bm)],.pi [I i]])] zz ⟨LX b i (.mo bm),zq⟩<|ay<|aU.Az (X:=KX) (HS:=λx=>[(bm,.map (jV x.1))]) ⟨es,hk⟩ (λk=>k.1=(dZ b.n.toNat xs []).foldl (λes h=>oR es h (2^i)) es)
  (λx args k=> ∃h,tK h/\args=[.agg (gr h)]/\k.1=oR x.1 h (2^i)) (el [(3,.pi [bp b (.mo bm)]),(4,.pi [I i])]) zz zz (aag jA zz) aF ?_ ?_ ?_
 rintro l x args k ⟨h,hh,rfl,y⟩;refine⟨zz,?_⟩;refine kn [.aT] zz eQ ?_;refine⟨zz,ag (aq (t:=5) zz) (ay ?_)⟩;refine QD b i p bm l x.1 x.2 h hh _ ?_ _ xH;intro z;refine⟨zz,?_⟩;rw[y];exact ew _;intro l lo hy;refine(KB (λx:KX=>(l,lo)::[(bm,.map (jV x.1))]) (N1 i p) (.yield l) b i s a xs (.mo bm) j v w ?_ ⟨es,hk⟩).mono ?_;intro x h hh;exact⟨zz,hy x _ _ ⟨h,hh,zz,Ft hh⟩⟩;intro r Ho u;exact⟨_,aaO _ _ m,u⟩;intro k C o;refine ag (cM (hL _ _ _))<|fE zz bL ?_;refine⟨(i+1,k.1,C::f),⟨hc,k.2,?_⟩,by simp only;omega,eL⟩;rw[g,o]
 simp only[nL]at hc;refine aE ⟨f,zq,ai (aw ?_) eL⟩;rw[g,drop_nil hc];rfl
 intro f _;refine aJ zz<|ag (bO.nh (t:=2) (i:=0) zz zz) ?_
 have A: ∀f:List Nat,wM (f.map λd=>(d,dp.ri)) f []:=by
  intro f;induction f with
  |nil=>rfl
  |cons d f B=>exact⟨0,zz,by simpa using B⟩
 refine ab ⟨.inr zz,[],A f,.one (.tmp ?_ zz)⟩;show AV.pi _=AV.pi _;simp [EP]
theorem JD (n:Int):Ev ad 330 [I n] (B false):=by refine ar akw.ok<|aJ zz<|aJ zz<|ab (aD ?_);show B _=B _;simp
def LV (a b:Int):Int:=if a<b then -1 else if a>b then 1 else 0
theorem ab8 (a b:Int):Ev ad 236 [I a,I b] (I (LV a b)):=by
 refine ar amd.ok<|aJ zz<|bE [.ret (B false)] zz ⟨JD a,zq⟩<|bE [.ret (B false)] zz ⟨JD b,zq⟩<|aa (aa ?_);refine cZ zz<|aj zz (λh=>by cases h) (λ_=>ak (aa (aa ?_)));refine cZ zz<|aj zz (λh=>by cases h) (λ_=>ak (aa (aa ?_)));refine cZ zz<|aj zz (λh=>?_) (λh=>?_)
 simp at h;refine aJ zz<|ab (aD ?_);show I _=I _;simp [LV,h]
 simp at h;refine ak (aa (aa ?_));refine cZ zz<|aj zz (λg=>?_) (λg=>?_)
 simp at g;refine aJ zz<|ab (aD ?_);show I _=I _;simp [LV,h,g]
 simp only[decide_eq_false_iff_not]at g;refine ak<|aJ zz<|ab (aD ?_);show I _=I _;simp [LV,h,g]
def cmpL:List Int->List Int->Int
 |[],[]=>0
 |[],_::_=> -1
 |_::_,[]=>1
 |a::x,b::y=>if a=b then cmpL x y else if a<b then -1 else 1
theorem PU: ∀(a b:List Int),cmpL a b<0↔eO a b=true
 |[],[]=>by simp [cmpL,eO]
 |[],_::_=>by simp [cmpL,eO]
 |_::_,[]=>by simp [cmpL,eO]
 |a::x,b::y=>by simp only[cmpL,eO];by_cases h:a=b;simp only[h,if_true];exact PU x y;simp only[h,if_false];by_cases g:a<b<;>simp [g]
theorem En (a b:List Int):Ev ad 142 [ints a,ints b] (I (cmpL a b)):=by
 refine ar akA.ok<|gn 0 zz λha=>?_;simp at ha;refine aJ zz<|aa (aa ?_);refine cZ zz<|cj (cmpL a b=cmpL [] (b.drop a.length)/\a.length<=b.length) (el [(0,ints a),(1,ints b)]) [] [] ?_ ?_
 refine gf (λk:Nat=>k<=a.length/\k<=b.length/\cmpL a b=cmpL (a.drop k) (b.drop k)) (λk=>el [(0,ints a),(1,ints b),(9,ints a),(10,I a.length),(11,I k)]) (λk=>a.length-k) 0 ⟨af,af,zz⟩
  (au ⟨zz,zz,zz,by show I _=I _;simp,zz,zq⟩) ?_
 rintro k ⟨j,h,c⟩;refine aJ zz<|aa (aj zz (λhc=>?_) (λhc=>?_));simp at hc;obtain⟨x,hx⟩:=bq hc;refine ak (aa (ay ?_));refine bE [.cells [I x]] zz ⟨⟨af,by simp [hx]⟩,zq⟩<|aa (aa ?_);refine cZ zz<|aj zz (λd=>?_) (λd=>?_)
 simp at d;refine aJ zz<|ab (aD ?_);rw[c,drop_cons hx,drop_nil (l:=b) af];rfl
 simp at d;have f:k<b.length:=af;obtain⟨y,hy⟩:=bq f;rw[drop_cons hx,drop_cons hy,cmpL]at c;refine ak<|bE [.cells [I y]] zz ⟨⟨af,by simp [hy]⟩,zq⟩<|bE [.ret (I (LV x y))] zz ⟨ab8 x y,zq⟩<|aa<|cZ zz<|aj zz (λhd=>?_) (λhd=>?_)
 simp at hd;refine aJ zz<|ab (aD ?_);show I _=I _;rw[c];unfold LV at hd ⊢;by_cases e:x=y
 subst e;simp at hd;rw[zj e];by_cases g:x<y;simp [g];have:x>y:=af;simp [g,this]
 simp at hd;have e:x=y:=(by unfold LV at hd;by_cases g:x<y;simp [g]at hd;by_cases i:x>y;simp [g,i]at hd;omega);rw[zy e]at c;refine ak<|fE zz bL ?_;exact⟨k+1,⟨hc,f,c⟩,af,eL⟩
 simp at hc;have:k=a.length:=af;subst this;exact aE ⟨(),⟨by rw[c];simp,h⟩,eL⟩
 rintro _ ⟨c,h⟩;refine aa (aa ?_);refine cZ zz<|aj zz (λd=>?_) (λd=>?_);simp only[nL]at d;obtain⟨y,hy⟩:=bq d;refine aJ zz<|ab (aD ?_);show I _=I _;rw[c,drop_cons hy];rfl;simp only[nL]at d;refine ak<|aJ zz<|ab (aD ?_);show I _=I _;rw[c,drop_nil d];rfl
def dx (set:Int)(n:Nat):List Int:=(((az n).filter λ(k:Nat)=>da set k)).map λ(k:Nat)=>(k:Int)
theorem jd (set:Int)(n:Nat):dx set (n+1)=dx set n++(if da set n=true then[(n:Int)]else[]):=by unfold dx;rw[b8,ff,ea];congr 1;cases hg:da set n<;>simp [hg]
theorem oW (set:Int)(n:Nat):(dx set n).length<=n:=by grind [dx]
def pad (h:List Int):List Int:=[h.getD 0 0,h.getD 1 0,h.getD 2 0,h.getD 3 0,h.getD 4 0]
theorem acQ (c1 b c c4 d:Int)(f:(cD .i64 c1).wf=true)(g:(cD .i64 b).wf=true)(h:(cD .i64 c).wf=true)(h4:(cD .i64 c4).wf=true)(i:(cD .i64 d).wf=true):
  bS ad 5 236 (.agg #[.int .i64 c1,.int .i64 b,.int .i64 c,.int .i64 c4,.int .i64 d]):=by have a:ad.cellsOf 236=5:=aX;have e:ad.cellsOf 3=1:=aX;refine⟨?_,[.int .i64 c1,.int .i64 b,.int .i64 c,.int .i64 c4,.int .i64 d],?_⟩;simp [hD,en,a];simp [hH,hf,en,gM,a,e,f,g,h,h4,i,b8]
theorem tK.aaJ (hh:tK h):bS ad 5 236 (.agg #[.int .i64 (h.getD 0 0),.int .i64 (h.getD 1 0),.int .i64 (h.getD 2 0),.int .i64 (h.getD 3 0),.int .i64 (h.getD 4 0)]):=
 acQ _ _ _ _ _ (oE (hh.get 0).1 (hh.get 0).2) (oE (hh.get 1).1 (hh.get 1).2) (oE (hh.get 2).1 (hh.get 2).2) (oE (hh.get 3).1 (hh.get 3).2) (oE (hh.get 4).1 (hh.get 4).2)
def cY (h g:List Int):Bool:=if pad h=pad g\/h.length≠g.length then decide (h.length<g.length)else decide (cmpL (pad h) (pad g)<0)
theorem Qq (h g:List Int)(hh:tK h)(hg:tK g):Ev ad 431 [.agg (gr h),.agg (gr g)] (B (cY h g)):=by
 refine ar ahV.ok<|bE [.bY,.bY] zz eE ?_
 have fin: ∀env:Env,uX env [(2,.pi (gr h)),(3,.pi (gr g))]->pad h=pad g\/h.length≠g.length->
   aU ad none 28 (.seq (.ops [⟨some 17,none,.rG 507 (tm 2) 0 0⟩,⟨some 18,none,.load 3 (tm 17) none⟩,⟨some 19,none,.rG 507 (tm 3) 0 0⟩,⟨some 20,none,.load 3 (tm 19) none⟩,⟨some 21,none,.bin .lss 3 (tm 18) (tm 20)⟩,⟨some 4,none,.tJ (tm 21)⟩]) .ret)
    (λe env H D=>e= .ret/\qn ad [.tmp 4] (B (cY h g)) .ret env H D) env [] []:=by
  intro env he a
  refine ag (au he)<|aJ zz<|ab ⟨zz,gv (.inr zz) (.one (.tmp ?_ zz))⟩
  show B _=B _
  simp [cY,a]
 have c: ∀env:Env,bG env (tm 6)= .agg ((gr h).drop 1)->bG env (tm 8)= .agg ((gr g).drop 1)-> ∀K:Env->av->List Nat->Prop,K (cP env (some 9) (B (decide (pad h=pad g)))) [] []->aO ad none 28 (.pK false 236 (tm 6) (tm 8)) (some 9) env [] [] K:=by refine λenv d f K k=>aO.pK (m:=5) aG aX aX aX aX (by rw[d];rfl) (by rw[f];rfl) hh.aaJ hg.aaJ (decide (pad h=pad g)) ?_ k;simp [pad]
 refine aa (aa (aA ?_));refine lY 4 zz zz<|ah (c _ zz zz _ ?_);by_cases a:pad h=pad g
 refine xdG [(10,true)] [] zz (by simp [a])<|aC zz zz<|nW (fin _ ?_ (.inl a)) (by rintro e env H D ⟨rfl,h⟩;exact h);exact jA
 refine xdG [(10,false)] [] zz (by simp [a])<|aj zz (λb=>?_) (λb=>?_)
 simp only[bne_iff_ne,ne_eq,e0]at b;refine nW (fin _ ?_ (.inr b)) (by rintro e env H D ⟨rfl,h⟩;exact h);exact jA;simp only[bne_eq_false_iff_eq,e0]at b;refine ak<|xe [] [.ret (I (cmpL (pad h) (pad g)))] zz ⟨⟨⟨zq,zq⟩,⟨b9 5,aG⟩,aG,aG⟩,⟨⟨zq,zq⟩,⟨b9 5,aG⟩,aG,aG⟩,En (pad h) (pad g),zq⟩<|ab (aD ?_);show B _=B _;simp [cY,a,b]
theorem Vf (h:List Int)(hl:h.length<=5):((pad h).map λx=>[I x]).take (min 5 h.length)++(ek h.length [I 0]).drop (min 5 h.length)=h.map λx=>[I x]:=by
 match h,hl with
 |[],_=>rfl
 |[_],_=>rfl
 |[_,_],_=>rfl
 |[_,_,_],_=>rfl
 |[_,_,_,_],_=>rfl
 |[_,_,_,_,_],_=>rfl
theorem Zd (h:List Int)(hl:h.length<=5):Ev ad 415 [.agg (gr h)] (ints h):=by
 refine ar ame.ok<|bE [.bY] zz aK<|aa (aA ?_);refine lY 2 zz zz<|ah (aO.ji h.length zz zz zz zz af af zz (λb=>?_));refine gk zz<|aa (aA ?_);refine Rz 3 zz zz ⟨⟨⟨zq,zq⟩,⟨b9 5,aG⟩,aG,aG⟩,zq⟩<|ah (aO.Ot (i:=0) zz zz zz ?_);refine gk zz<|ag (aw (H':=[(b,.arr 3 1 h.length (h.map λx=>[I x]))]) ?_) ?_
 have:=Vf h hl;simp only[List.length_replicate,bl]at this ⊢;show [(b,dp.arr 3 1 h.length _)]=_;congr 3;refine aJ zz<|ag (bO.vv (t:=2) (i:=0) (T:=3) ?_ zz) ?_
 show AV.so _ _ _=AV.so _ _ _;simp;refine ab ⟨.inr zz,[],zz,.one (.tmp zz zz)⟩
def oh (ls:List bc)(c:Int):bc:=(ls[(cT ls c).toNat]?).getD ⟨0,0,false⟩
def ju (b:dy)(s:cL):List bc:=match b.al[s.a.toNat]? with
 |none=>[]
 |some a=>s.t.map λc=>oh a.ls c.toNat
def vj (b:dy):List (List bc):=b.ss.map (ju b)
def dB (b:dy):Kn:=kC b.n.toNat (vj b) 0 []
theorem pV {f:Nat->Int}: ∀{m k:Nat},(aB f m k).2=0-> ∀j,k<=j->j<k+m->f j=0
 |0,k,_,j,b,c=>af
 |m+1,k,h,j,b,c=>by simp only[aB]at h;by_cases a:f k=0;rw[zy a]at h;by_cases e:j=k;subst e;exact a;exact pV h j af af;rw[zj a]at h;exact absurd h a
theorem qv {α:Type}(p:α->Bool): ∀(l:List α) (k:Int),0<=k->0<=bM p l k->k<=bM p l k/\ ∃x,l[(bM p l k-k).toNat]? =some x/\p x=true
 |[],k,_,h=>by simp [bM]at h
 |x::l,k,hk,h=>by by_cases a:p x=true;have e:bM p (x::l) k=k:=(by simp only[bM,a,if_true]);rw[e];exact⟨et _,x,aF,a⟩;have e:bM p (x::l) k=bM p l (k+1):=(by simp only[bM,a,if_false,a6]);rw[e]at h ⊢;obtain⟨d,y,b,c⟩:=qv p l (k+1) af h;refine⟨af,y,?_,c⟩;have:(bM p l (k+1)-k).toNat=(bM p l (k+1)-(k+1)).toNat+1:=af;rw[this];simpa using b
theorem TX (b:dy)(p:b.wf)(h:(check b).2.2=0):W8 b (vj b):=by
 unfold check at h;split at h;simp at h;rename_i u;split at h;simp at h;rename_i v;split at h
 ·rename_i w;split at h;simp at h;rename_i h4;split at h
  ·rename_i z;simp only[ae,c8,ec,cA,eP,bx,decide_eq_false_iff_not]at u v;refine⟨af,af,by simp [vj],by simp [vj];omega,?_⟩;intro i xs hx;simp only[vj,bt,cR]at hx;obtain⟨s,hs,rfl⟩:=hx;have A:=(an.1 hs).1;have he:=pV z i af af;simp only[dJ,hs]at he;split at he;cases he;rename_i g1;split at he;cases he;rename_i g2;simp only[ae,c8,ec,cA,eP,bx,decide_eq_false_iff_not]at g1 g2;have j:s.a.toNat<b.al.length:=af;obtain⟨a,ha⟩:=bq j;simp only[ha]at he;split at he;case isFalse=>cases he
   rename_i q;have d:=pV w s.a.toNat af af;simp only[ez,ha]at d;split at d;case isFalse=>cases d
   split at d;cases d;split at d;cases d;have g:ju b s=s.t.map λc=>oh a.ls c.toNat:=(by simp only[ju,ha]);have l: ∀(k:Nat) (c:UInt8),s.t[k]? =some c->0<=cT a.ls c.toNat/\ ∃x,a.ls[(cT a.ls c.toNat).toNat]? =some x/\(ju b s)[k]? =some x:=(by intro k c hc;have m:0<=cT a.ls c.toNat:=(by have:=fy.1 q c (ap hc);simpa using this);obtain⟨_,x,hx,_⟩:=qv _ a.ls 0 af m;rw[hB]at hx;refine⟨m,x,hx,?_⟩;rw[g,bt,hc];simp only[gX,oh];have o:a.ls[(cT a.ls c.toNat).toNat]? =some x:=hx;rw[o];rfl);refine⟨s,a,hs,af,ha,by rw[g];simp,l,?_,af⟩;intro x hx;rw[g]at hx;obtain⟨c,hc,rfl⟩:=bI.1 hx;obtain⟨k,hk⟩:=bk.1 hc;obtain⟨m,y,hy,C⟩:=l k c hk;have e:oh a.ls c.toNat=y:=(by simp only[oh,hy];rfl);rw[e];have B:=(an.1 hy).1;have f:=pV d (cT a.ls c.toNat).toNat af af;simp only[dP,hy]at f;split at f;cases f;split at f;cases f;split at f;cases f;rename_i r;simp only[ae,c8,ec,cA,eP,bx,decide_eq_false_iff_not]at r;have:=yL (k:=b.n.toNat) af;omega
  grind
 grind
def iD (b:dy)(many:Int)(l:List Int):Int:=if (check b).2.2=0 then(if ae 0 (many-1) l=true then 4 else 0)else(check b).2.2
abbrev FG (b:dy):AV:=bp b (.mi (jV (dB b)))
theorem Iw (b:dy)(a:b.wf)(many:Int)(c:0<=many)(d:many<=9223372036854775807)(l:List Int):Ev ad 413 [.agg b.ao,I many,ints l] (.cG [if iD b many l=0 then FG b else .v (.pointer none),I (iD b many l)]):=by
 refine ar alw.ok<|bE [.bY] zz aK<|bE [.ret (.cG [I (check b).1,I (check b).2.1,I (check b).2.2])] zz ⟨K4 b a,zq⟩<|dw (iD b many l=0/\(check b).2.2=0) (el [(3,.pi b.ao)]) [] [] ?_ ?_
 refine aJ zz<|aj zz (λhc=>?_) (λhc=>?_)
 simp at hc;have he:iD b many l=(check b).2.2:=(by simp [iD,hc]);refine aJ zz<|ab (gv (.inr zz) (.many aG ⟨.tmp ?_ ?_,.tmp ?_ zz,zq⟩))
 rw[he,zj hc];rfl;rw[he,zj hc];rfl;rw[he];rfl
 simp at hc;refine bE [.ret (B (ae 0 (many-1) l))] zz ⟨fR,jX 0 (many-1) l,zq⟩<|aj zz (λhd=>?_) (λhd=>?_)
 have he:iD b many l=4:=(by simp [iD,hc,hd]);refine aJ zz<|ab (gv (.inr zz) (.many aG ⟨.tmp ?_ ?_,.tmp ?_ zz,zq⟩))
 rw[he];rfl;rw[he];rfl;rw[he];rfl
 exact ak ⟨(),⟨by simp [iD,hc,hd],hc⟩,eL⟩
 rintro _ ⟨he,hc⟩;refine bE [.ret (FG b)] zz ⟨Z4 b (vj b) (TX b a hc),zq⟩<|ab (gv (.inr zz) (.many aG ⟨.tmp ?_ ?_,.tmp ?_ zz,zq⟩));rw[he];rfl;rw[he];rfl;rw[he];rfl
def vW (set:Int)(u:Nat):Bool:=(((u &&& set.toNat:Nat):Int)==set)
def mB (set:Int)(p:List Int×Nat)(e:List Int×Nat):List Int×Nat:=
 if vW set e.2=true then(if p.2=0\/cY e.1 p.1=true then e.1 else p.1,p.2+1)else p
def gz (es:Kn)(set:Int):List Int×Nat:=es.foldl (mB set) ([],0)
theorem Z3 {g:List Int}(hl:h.length=g.length)(i:h.length<=5)(e:pad h=pad g):h=g:=by simp only[pad,hJ,and_true]at e;obtain⟨a,b,c,d,f⟩:=e;apply JH i;simp only[mC,hl,a,b,c,d,f]
theorem jO {g:List Int}(b:tK h)(a:tK g):cY h g=true↔h.length<g.length\/(h.length=g.length/\eO (pad h) (pad g)=true):=by grind [cY,pad,wN,PU]
theorem By: ∀{a b c:List Int},a.length=b.length->b.length=c.length->eO a b=true->eO b c=true->eO a c=true
 |[],[],_,_,_,h,_=>by simp [eO]at h
 |x::a,y::b,z::c,f,i,h,g=>by simp only[eO]at h g ⊢;have j:=By (a:=a) (b:=b) (c:=c) (by simpa using f) (by simpa using i);by_cases e:x=y;subst e;simp only[if_true]at h;by_cases d:x=z;subst d;simp only[if_true]at g ⊢;exact j h g;simp only[d,if_false]at g ⊢;exact g;simp only[e,if_false,decide_eq_true_eq]at h;by_cases d:y=z;subst d;simp [e,h];simp only[d,if_false,decide_eq_true_eq]at g;have:x≠z:=af;simp [this];omega
theorem Bz: ∀{a b:List Int},a.length=b.length->a≠b->eO a b=false->eO b a=true
 |[],[],_,h,_=>absurd zz h
 |x::a,y::b,d,f,h=>by simp only[eO]at h ⊢;by_cases e:x=y;subst e;simp only[if_true]at h ⊢;exact Bz (by simpa using d) (λe=>f (by rw[e])) h;have c: ¬y=x:=λh=>e h.symm;simp only[e,c,if_false,decide_eq_false_iff_not,decide_eq_true_eq]at h ⊢;omega
theorem nK {a b c:List Int}(ha:tK a)(d:tK b)(hc:tK c)(h:cY a b=true)(g:cY b c=true):cY a c=true:=by
 rw[jO ha d]at h;rw[jO d hc]at g;rw[jO ha hc];rcases h with h|⟨f,e⟩<;>rcases g with g|⟨g1,g2⟩
 left;omega;left;omega;left;omega;right;exact⟨af,By (b:=pad b) zz zz e g2⟩
theorem wF {a b:List Int}(ha:tK a)(d:tK b)(c:a≠b)(h:cY a b=false):cY b a=true:=by
 have g: ¬cY a b=true:=by simp [h]
 rw[jO ha d]at g;rw[jO d ha];by_cases hl:b.length<a.length;exact .inl hl;right;have e:b.length=a.length:=af;refine⟨e,Bz zz (λf=>c (Z3 e.symm ha.1 f)) ?_⟩;cases hx:eO (pad a) (pad b)with
 |false=>rfl
 |true=>grind
theorem DM {a:List Int}(ha:tK a):cY a a=false:=by grind [cY]
def vw (set:Int)(l:Kn)(p:List Int×Nat):Prop:=
 p.2=l.countP (λe=>vW set e.2)/\(p.2=0->p.1=[])/\(p.2≠0->(∃u,(p.1,u)∈l/\vW set u=true)/\ ∀e∈l,vW set e.2=true->e.1=p.1\/cY p.1 e.1=true)
theorem sD (set:Int): ∀(l2 l1:Kn) (p:List Int×Nat),xF (l1++l2)->vw set l1 p->vw set (l1++l2) (l2.foldl (mB set) p)
 |[],l1,p,_,h=>by simpa using h
 |e::l2,l1,p,hk,h=>by
  have uR:vw set (l1++[e]) (mB set p e):=by
   obtain⟨i,j,f⟩:=h;have he:=hk e aF;unfold mB;by_cases hs:vW set e.2=true;rw[zy hs];refine⟨by simp [fe,hs,<-i],λh=>by simp at h,λ_=>?_⟩;by_cases hb:p.2=0\/cY e.1 p.1=true;rw[zy hb];refine⟨⟨e.2,aF,hs⟩,?_⟩;intro g hg a;rcases a7.1 hg with hg|hg
   by_cases c:p.2=0;have:0<l1.countP (λe=>vW set e.2):=List.countP_pos_iff.2 ⟨g,hg,a⟩;omega;rcases hb with hb|hb;exact absurd hb c;obtain⟨⟨u,d,_⟩,h4⟩:=f c;rcases h4 g hg a with e1|e1;right;rw[e1];exact hb;right;exact nK he.1 (hk (p.1,u) (by simp [d])).1 (hk g (by simp [hg])).1 hb e1
   simp only[a8]at hg;subst hg;exact .inl zz
   rw[zj hb];have c: ¬p.2=0:=λh=>hb (.inl h);obtain⟨⟨u,d,b⟩,h4⟩:=f c;refine⟨⟨u,by simp [d],b⟩,?_⟩;intro g hg a;rcases a7.1 hg with hg|hg
   exact h4 g hg a;simp only[a8]at hg;subst hg;by_cases e1:g.1=p.1;exact .inl e1;right;refine wF he.1 (hk (p.1,u) (by simp [d])).1 e1 ?_;cases hx:cY g.1 p.1 with
   |false=>rfl
   |true=>exact absurd (.inr hx) hb
   rw[zj hs];refine⟨by simp [fe,hs,<-i],j,λc=>?_⟩;obtain⟨⟨u,d,b⟩,h4⟩:=f c;refine⟨⟨u,by simp [d],b⟩,?_⟩;intro g hg a;rcases a7.1 hg with hg|hg
   exact h4 g hg a;simp only[a8]at hg;subst hg;exact absurd a hs
  have:=sD set l2 (l1++[e]) (mB set p e) (by simpa using hk) uR;simpa using this
theorem Co {set:Int}{l:Kn}(c:l.Perm j)(hk:xF l){p q:List Int×Nat}(h:vw set l p)(g:vw set j q):p=q:=by
 obtain⟨r,t,s⟩:=h;obtain⟨g1,g2,m⟩:=g;have k:p.2=q.2:=by rw[r,g1];exact c.countP_eq _
 by_cases o:p.2=0;grind;obtain⟨⟨u,d,e⟩,h4⟩:=s o;obtain⟨⟨v,i,f⟩,n⟩:=m af;refine hG ?_ k;rcases h4 _ (c.symm.subset i) f with a|a;exact a.symm;rcases n _ (c.subset d) e with b|b;exact b;have:=nK (hk _ d).1 (hk _ (c.symm.subset i)).1 (hk _ d).1 a b;rw[DM (hk _ d).1]at this;cases this
theorem Is {l es:Kn}(set:Int)(f:l.Perm es)(hk:xF es):l.foldl (mB set) ([],0)=gz es set:=by have d:xF l:=λe he=>hk e (f.subset he);have a:vw set [] ([],0):=⟨zz,λ_=>rfl,λh=>absurd zz h⟩;have b:=sD set l [] ([],0) bD a;have c:=sD set es [] ([],0) bD a;exact Co bD bD b c
theorem BL (es:List f):(az es.length).filterMap (λj=>es[j]?)=es:=by
 have key: ∀n,n<=es.length->(az n).filterMap (λj=>es[j]?)=es.take n:=by
  intro n;induction n with
  |zero=>intro _;rfl
  |succ n b=>intro c;have a:n<es.length:=af;rw[b8,e2,b af,List.take_succ_eq_append_getElem a];simp [a]
 rw[key _ (b9 _),gm]
def EL (es:Kn)(set:Int)(seen:List Nat):List Int×Nat:=(seen.filterMap λj=>es[j]?).foldl (mB set) ([],0)
theorem QC {es:Kn}{set:Int}{seen:List Nat}{j:Nat}(h:es[j]? =some e):EL es set (seen++[j])=mB set (EL es set seen) e:=by simp [EL,e2,h,b3]
theorem CX {es:Kn}{set:Int}{seen:List Nat}(hk:xF es)(d:seen.Nodup)(c: ∀j∈seen,j<es.length)(b: ∀j,j<es.length->j∈seen):EL es set seen=gz es set:=by have e:seen.Perm (az es.length):=(List.perm_ext_iff_of_nodup d fD).2 (λj=>bD);have a:=e.filterMap (λj=>es[j]?);rw[BL]at a;exact Is set a hk
theorem IK {es:Kn}{set:Int}(hk:xF es)(seen:List Nat):tK (EL es set seen).1/\(EL es set seen).2<=seen.length:=by
 have key: ∀(l:Kn) (p:List Int×Nat),xF l->tK p.1->tK (l.foldl (mB set) p).1/\(l.foldl (mB set) p).2<=p.2+l.length:=by
  intro l;induction l with
  |nil=>grind
  |cons e l g=>
   intro p hl f;simp only[dn];have he:=hl e aF;have a:xF l:=λx hx=>hl x (by simp [hx]);have d:mB set p e=if vW set e.2=true then(if p.2=0\/cY e.1 p.1=true then e.1 else p.1,p.2+1)else p:=rfl
   rw[d];split;obtain⟨b,c⟩:=g (if p.2=0\/cY e.1 p.1=true then e.1 else p.1,p.2+1) a (by simp only;split;exact he.1;exact f);exact⟨b,by simp at c ⊢;omega⟩;obtain⟨b,c⟩:=g p a f;exact⟨b,by simp;omega⟩
 have h:xF (seen.filterMap λj=>es[j]?):=by intro e he;obtain⟨j,_,i⟩:=List.mem_filterMap.1 he;exact hk e (ap i)
 obtain⟨b,c⟩:=key _ ([],0) h ⟨aF,aF⟩;refine⟨b,hC c ?_⟩;simp;exact List.length_filterMap_le _ _
theorem Tv (b:dy)(es:Kn)(hk:xF es)(G:es.length<1000000)(set:Int)(H:0<=set)(J:set<9223372036854775808):
  Ev ad 414 [bp b (.mi (jV es)),I set] (.cG [.agg (gr (gz es set).1),I (gz es set).2]):=by
 refine ar ai1.ok<|bE [.aT] zz cI<|aa (aa (aA ?_))
 refine lY 4 zz zz<|ah (aO.zV zz (λC m=>?_))
 refine gk zz<|cj True (el [(4,.eR 507 (gr (gz es set).1)),(5,I (gz es set).2)]) [] [] ?_ ?_
 refine bJ (λseen=>seen.Nodup/\(∀j∈seen,j<es.length)) (λseen=>el [(1,I set),(4,.eR 507 (gr (EL es set seen).1)),(5,I (EL es set seen).2),(12,.po C 0)])
  (λseen=>[(C,.tl m (jV es) seen)]) (λ_=>[]) (λseen=>es.length-seen.length) [] ⟨aF,aF⟩ eL ?_
 rintro seen ⟨E,r⟩;have K:seen.length<=es.length:=by have hs:=c7 E (λj q=>b0.2 (r j q));simpa using hs
 obtain⟨l,w⟩:=IK hk seen;refine aa (aA (ah (aO.aae (i:=0) zz zz (λj kv p q he=>?_) (λv=>?_))));have y:(es.map λe=>(mC e.1,I e.2))[j]? =some (kv,p):=he;rw[bt,cR]at y;obtain⟨⟨h,u⟩,x,z⟩:=y;simp at z;obtain⟨rfl,rfl⟩:=z;have F:=(an.1 x).1;obtain⟨hh,L⟩:=hk _ (ap x);simp only at hh L;have f:=QC (set:=set) (seen:=seen) x;have s:(seen++[j]).Nodup:=(by rw[List.nodup_append];exact⟨E,aF,by intro a ha c hc e;simp at hc;subst hc e;exact q ha⟩);have k: ∀i∈seen++[j],i<es.length:=by
  intro i hi;rcases a7.1 hi with hi|hi
  exact r i hi;simp at hi;subst hi;exact F
 have A:(seen++[j]).length<=es.length:=(by have hs:=c7 s (λj q=>b0.2 (k j q));simpa using hs);simp at A;generalize EL es set seen=st at f l w;obtain⟨g,many⟩:=st;simp only at l w;refine gk zz<|aa (aj zz (λ_=>ak ?_) (λh=>by cases h))
 refine ay (aa (aA (ah (aO.entry (i:=0) zz zz he ?_))));refine VR [.aT] zz eQ<|aa (aa ?_)
 refine fE zz ⟨⟨fR,H,J⟩,zq⟩<|aj zz (λo=>?_) (λo=>?_)
 have d:vW set u=false:=(by have o:((((u:Int).toNat &&& set.toNat:Nat):Int)!=set)=true:=o;simp only[nL]at o;simp only[vW,beq_eq_false_iff_ne,ne_eq];exact o);refine aE ⟨seen++[j],⟨s,k⟩,by simp;omega,ai (aw zz) (au ⟨zz,?_,?_,zz,zq⟩)⟩;rw[f];simp only[mB,d,if_false,a6];rfl;rw[f];simp only[mB,d,if_false,a6];rfl;have d:vW set u=true:=(by have o:((((u:Int).toNat &&& set.toNat:Nat):Int)!=set)=false:=o;simp only[bne_eq_false_iff_eq]at o;simp only[vW,beq_iff_eq];exact o);refine ak<|Ik zz bL<|eZ True (el [(1,I set),(4,.eR 507 (gr g)),(5,I ((many:Int)+1)),(6,.eR 507 (gr h)),(12,.po C 0),(31,B (decide (many=0\/cY h g=true)))]) [(C,.tl m (jV es) (seen++[j]))] [] ?_ ?_
 by_cases hm:many=0;subst hm;refine kD [(27,true)] [] zz aF ?_;exact⟨(),zq,au ⟨zz,zz,zz,zz,zz,by show B _=B _;simp,zq⟩⟩;have D:(((many:Int)+1)==1)=false:=(by simp;omega);refine kD [(27,false)] [.ret (B (cY h g))] zz ⟨D,D,⟨D,Qq h g hh l⟩,D,zq⟩ ?_;exact⟨(),zq,au ⟨zz,zz,zz,zz,zz,by show B _=B _;simp [hm],zq⟩⟩;intro _ _;refine aj zz (λhd=>?_) (λhd=>?_);simp only[decide_eq_true_eq]at hd;refine fE zz ⟨⟨zz,zz,zz,b9 6⟩,zq⟩ ?_;refine⟨seen++[j],⟨s,k⟩,by simp;omega,ai (aw zz) (au ⟨zz,?_,?_,zz,zq⟩)⟩;rw[f];simp only[mB,d,if_true,hd];rfl;rw[f];simp only[mB,d,if_true];rfl;simp only[decide_eq_false_iff_not]at hd;refine ak ⟨seen++[j],⟨s,k⟩,by simp;omega,ai (aw zz) (au ⟨zz,?_,?_,zz,zq⟩)⟩;rw[f];simp only[mB,d,if_true,hd,if_false];rfl;rw[f];simp only[mB,d,if_true];rfl
 refine gk zz<|aa (aj (b:=false) zz (λh=>by cases h) (λ_=>aE ⟨(),zq,ai (bO.Kb 0) (au ⟨?_,?_,zq⟩)⟩))
 rw[<-CX (set:=set) hk E r (λj q=>v j (by simpa [jV]using q))];rfl;rw[<-CX (set:=set) hk E r (λj q=>v j (by simpa [jV]using q))];rfl
 intro _ _;refine Ik zz ⟨⟨zz,zz,zz,b9 6⟩,zq⟩<|ag (aq (t:=4) zz) (ab ⟨.inr zz,[],zz,.many aG ⟨.nP (n:=some 6) (cs:=gr (gz es set).1) (bN _ _ _) aX zz,.tmp zz zz,zq⟩⟩)
theorem WW {b:dy}(d:b.wf)(a:0<=n)(c:n<=9223372036854775807){l:List Int}(h:iD b n l=0):Ev ad 413 [.agg b.ao,I n,ints l] (.cG [FG b,I 0]):=by have:=Iw b d n a c l;rw[h,zy zz]at this;exact this
theorem Ql {b:dy}(d:b.wf)(a:0<=n)(c:n<=9223372036854775807){l:List Int}(h: ¬iD b n l=0):Ev ad 413 [.agg b.ao,I n,ints l] (.cG [.v (.pointer none),I (iD b n l)]):=by have:=Iw b d n a c l;rw[zj h]at this;exact this
theorem G7 {b:dy}{l:List Int}(h:iD b n l=0):(check b).2.2=0/\ae 0 (n-1) l=false:=by grind [iD]
theorem OE {b:dy}(h:(check b).2.2=0):1<=b.n/\b.n<=4/\1<=b.al.length/\b.al.length<=3/\b.ss.length<=5:=by grind [check,only,ae]
theorem qP {α β:Type}{f:α->List β}{c:Nat}: ∀{l:List α},(∀x∈l,(f x).length<=c)->(l.flatMap f).length<=l.length*c
 |[],_=>aF
 |x::l,h=>by have a:=h x aF;have b:=qP (l:=l) (λy hy=>h y (by simp [hy]));simp only[fr,cd,bA,de];omega
theorem sW {n:Nat}(a:n<=4): ∀(xs:List bc) (h:List Int),(dZ n xs h).length<=5^xs.length
 |[],h=>by simp [dZ]
 |x::xs,h=>by
  have c:=sW a xs h;have d:(((az n).filter (λ(k:Nat)=>da x.s k)).flatMap (λ(k:Nat)=>dZ n xs (h++[(k:Int)]))).length<=((az n).filter (λ(k:Nat)=>da x.s k)).length*5^xs.length:=
   qP (λk _=>sW a xs _)
  have b:((az n).filter (λ(k:Nat)=>da x.s k)).length<=4:=hC (List.length_filter_le _ _) (by simp;omega);have h4:=cy (5^xs.length) b;simp only[dZ,cd,bA,fv];split;omega;simp only[ds];omega
theorem II (es:Kn)(h:List Int)(a:Nat):(oR es h a).length<=es.length+1:=by unfold oR;cases ia es h<;>simp
theorem yb (a:Nat): ∀(l:List (List Int)) (es:Kn),(l.foldl (λes h=>oR es h a) es).length<=es.length+l.length
 |[],es=>aF
 |h::l,es=>by simp;have:=yb a l (oR es h a);have:=II es h a;omega
theorem wA {n:Nat}(b:n<=4): ∀(a:List (List bc)) (i:Nat) (es:Kn),(∀xs∈a,xs.length<=5)->(kC n a i es).length<=es.length+a.length*3125
 |[],i,es,_=>by simp [kC]
 |xs::a,i,es,h=>by have c:=wA b a (i+1) ((dZ n xs []).foldl (λes h=>oR es h (2^i)) es) (λy hy=>h y (by simp [hy]));have d:=yb (2^i) (dZ n xs []) es;have e:=sW b xs [];have h4:5^xs.length<=5^5:=bn af (h xs aF);simp only[kC,bA];omega
theorem Gt {n:Nat}(c:n<=64): ∀(b:List (List bc)) (i:Nat) (es:Kn),(∀xs∈b,xs.length<=5)->i+b.length<=5->xF es->xF (kC n b i es)
 |[],i,es,_,_,hk=>hk
 |xs::b,i,es,h,hi,hk=>by
  simp only[kC,bA]at hi ⊢;refine Gt c b (i+1) _ (λy hy=>h y (by simp [hy])) af ?_;have hx:=h xs aF;have a: ∀g∈dZ n xs [],tK g:=λg hg=>⟨by
   have:=rR n xs [] g hg
   simp at this;omega,vt c xs [] g hg aF⟩
  have d:2^i<32:=by have:2^i<=2^4:=bn af af;omega
  generalize dZ n xs []=l at a;induction l generalizing es with
  |nil=>exact hk
  |cons g l e=>simp;exact e _ (OZ hk (a g aF) d) (λy hy=>a y (by simp [hy]))
theorem QV {b:dy}(c:b.wf)(h:(check b).2.2=0): ∀xs∈vj b,xs.length<=5:=by have ok:=TX b c h;intro xs hx;obtain⟨i,hi⟩:=bk.1 hx;obtain⟨s,a,hs⟩:=ok.sp i xs hi;have:=hs.len;have:=hs.t5;omega
theorem DL {b:dy}(c:b.wf)(h:(check b).2.2=0):xF (dB b)/\(dB b).length<1000000:=by
 obtain⟨n0,n1,_,_,d⟩:=OE h;have hl:=QV c h;have a:(vj b).length=b.ss.length:=by simp [vj]
 refine⟨Gt af _ 0 [] hl af (by intro e he;cases he),?_⟩;have:=wA (n:=b.n.toNat) af (vj b) 0 [] hl;simp at this;unfold dB;omega
theorem NE {es:Kn}(hk:xF es)(set:Int):tK (gz es set).1:=by have h:=(IK (set:=set) hk (az es.length)).1;have e:EL es set (az es.length)=gz es set:=CX hk (fD) aF aF;rw[e]at h;exact h
theorem Nt {b:dy}{l:List Int}(g:b.wf)(he:iD b b.ss.length l=0):(∀i∈l,0<=i/\i<b.ss.length/\(2:Int)^i.toNat<=16/\(0:Int)<2^i.toNat)/\b.ss.length<=5/\xF (dB b)/\(dB b).length<1000000:=by obtain⟨hc,d⟩:=G7 he;obtain⟨hk,a⟩:=DL g hc;obtain⟨_,_,_,_,e⟩:=OE hc;refine⟨?_,e,hk,a⟩;intro i hi;simp only[ae,fk,dk,decide_eq_true_eq,not_or]at d;have:=d i hi;have c:(0:Int)<2^i.toNat:=eu af;have h:(2:Nat)^i.toNat<=2^4:=bn af af;have f:(2:Int)^i.toNat=((2^i.toNat:Nat):Int):=aF;refine⟨af,af,af,c⟩
def BJ:List Int->Int->Bool
 |[],_=>true
 |n::l,last=>decide (last<n)&&BJ l n
def oH:List Int->Nat->Nat
 |[],s=>s
 |n::l,s=>oH l (s ||| 2^n.toNat)
theorem one_pow (k:Nat):((1:Int)*2^k).toNat=2^k:=by have:(1:Int)*2^k=((2^k:Nat):Int):=aF;rw[this];rfl
def im (b:dy)(l:List Int):List Int×Int:=
 if iD b b.ss.length l=0 then
  (if BJ l (-1)=true/\oH l 0≠0 then
    (if (gz (dB b) (oH l 0:Int)).2=0 then([],9)else((gz (dB b) (oH l 0:Int)).1,0))
  else([],2))
 else([],iD b b.ss.length l)
theorem MO (b:dy)(y:b.wf)(hs:b.ss.length<=9223372036854775807)(l:List Int):Ev ad 381 [.agg b.ao,ints l] (.cG [ints (im b l).1,I (im b l).2]):=by
 refine ar alK.ok<|gn 1 zz λr=>?_;simp at r;refine bE [.bY] zz aK ?_;have m:((b.ss.map cL.ao).length:Int)=b.ss.length:=aF
 have err: ∀(env:Env) (e:Int),im b l=([],e)->env 4= .nil->env 5=I e->aU ad none 53 .ret (λe env H D=>e= .ret/\qn ad [.tmp 4,.tmp 5] (.cG [ints (im b l).1,I (im b l).2]) .ret env H D) env [] []:=by
  intro env e h h4 z;rw[h];refine ag (bO.ky 1 h4)<|ab ⟨zz,gv (.inr zz) (.many aG ⟨.tmp ?_ zz,.tmp ?_ zz,zq⟩)⟩
  rfl;rw[ij _ _ aG,z]
 by_cases he:iD b b.ss.length l=0;obtain⟨i,z,hk,q⟩:=Nt y he;refine bE [.ret (.cG [FG b,I 0])] zz ⟨by rw[<-m]at he;exact WW y af af he,zq⟩<|aa (aa ?_);refine cZ zz<|aH zz zz<|aJ zz<|aa (aa ?_);refine cZ zz<|aU.iN (λs:Nat=>s<32/\oH l 0=s/\BJ l (-1)=true) (λs=>el [(6,FG b),(8,I s)]) (λ_=>[]) (λ_=>[]) ?_ ?_;refine bJ (λx=>x.1<=l.length/\x.2.1<32/\oH l 0=oH (l.drop x.1) x.2.1/\BJ l (-1)=BJ (l.drop x.1) x.2.2) (λx=>el [(6,FG b),(8,I x.2.1),(9,I x.2.2),(26,ints l),(27,I l.length),(28,I x.1)]) (λ_=>[]) (λ_=>[]) (λx=>l.length-x.1) (0,0,-1) ⟨aF,aF,zz,zz⟩
  (au ⟨zz,zz,zz,zz,by show I _=I _;simp,zz,zq⟩) ?_
 rintro⟨k,s,last⟩ ⟨p,c,d,a⟩;simp only at p c d a ⊢;refine aJ zz<|aa (aj zz (λhc=>?_) (λhc=>?_));simp at hc;obtain⟨n,u⟩:=bq hc;rw[drop_cons u]at d a;simp only[oH,BJ]at d a;obtain⟨n0,n1,C,B⟩:=i n (ap u);have A:s ||| 2^n.toNat<2^5:=ey af (e7 af af)
 refine ak (aa (ay ?_));refine bE [.cells [I n]] zz ⟨⟨af,by simp [u]⟩,zq⟩<|aa (aa ?_);refine cZ zz<|aj zz (λf=>?_) (λf=>?_)
 simp at f;refine aJ zz<|nW (err _ 2 ?_ zz zz) (by rintro e env H D ⟨rfl,h⟩;exact h)
 have:decide (last<n)=false:=(by simp;omega);rw[this,Bool.false_and]at a;simp only[im,he,a,if_true,if_false,a6,false_and]
 simp at f;have o:decide (last<n)=true:=(by simp;omega);rw[o,hq]at a;refine ak<|fE zz ⟨⟨af,af,af,af⟩,⟨⟨af,af⟩,af,af⟩,zq⟩<|fE zz bL ?_;refine⟨(k+1,s ||| 2^n.toNat,n),⟨hc,by simp only;omega,d,a⟩,by simp only;omega,au ⟨zz,?_,zz,zz,zz,zz,zq⟩⟩;show I _=I _;rw[one_pow];rfl
 simp only[nL]at hc;rw[drop_nil hc]at d a;exact aE ⟨s,⟨c,d,a⟩,eL⟩
 rintro s ⟨c,d,a⟩;refine aa (aa ?_);refine cZ zz<|aj zz (λf=>?_) (λf=>?_);simp only[beq_iff_eq]at f;refine aJ zz<|nW (err _ 2 ?_ zz zz) (by rintro e env H D ⟨rfl,h⟩;exact h)
 have:s=0:=af;simp only[im,he,a,d,this,if_true,if_false,ne_eq,not_true_eq_false,and_false]
 simp only[nL]at f;have w: ¬s=0:=af;have j:im b l=if (gz (dB b) (s:Int)).2=0 then([],9)else((gz (dB b) (s:Int)).1,0):=by simp only[im,he,a,d,w,if_true,ne_eq,not_false_eq_true,and_self]
 refine ak<|bE [.ret (.cG [.agg (gr (gz (dB b) (s:Int)).1),I (gz (dB b) (s:Int)).2]),.aT] zz ⟨Tv b _ hk q s af af,zz,⟨zz,zz,zz,b9 6⟩,zq⟩<|ag (aq (t:=12) zz)<|aa (aa ?_);refine cZ zz<|aj zz (λhd=>?_) (λhd=>?_)
 simp only[beq_iff_eq]at hd;have g:(gz (dB b) (s:Int)).2=0:=af;refine aJ zz<|nW (err _ 9 (by rw[j,zy g]) zz zz) (by rintro e env H D ⟨rfl,h⟩;exact h)
 simp only[nL]at hd;have g: ¬(gz (dB b) (s:Int)).2=0:=af;refine ak<|bE [.ret (ints (gz (dB b) (s:Int)).1)] zz ⟨Zd _ (NE hk _).1,zq⟩ ?_;rw[j,zj g];refine ab (fJ ?_ ?_)
 rfl;rfl
 refine bE [.ret (.cG [.v (.pointer none),I (iD b b.ss.length l)])] zz ⟨by rw[<-m]at he ⊢;exact Ql y af af he,zq⟩<|aa (aa ?_);refine cZ zz<|aj zz (λh=>?_) (λh=>?_)
 refine aJ zz<|nW (err _ (iD b b.ss.length l) (by simp only[im,he,if_false]) zz zz) (by rintro e env H D ⟨rfl,h⟩;exact h)
 grind
abbrev bytes (l:List UInt8):AV:=.sl 1 (l.map λc=>[U c.toNat])
def aev (f:UInt8->UInt8->Int):List UInt8->List UInt8->Int
 |[],[]=>0
 |[],_::_=> -1
 |_::_,[]=>1
 |a::x,b::y=>if f a b=0 then aev f x y else f a b
theorem xx {α:Type}(p:α->Bool): ∀(l:List α) (k:Int),0<=k-> -1<=bM p l k/\bM p l k<k+l.length+1
 |[],k,h=>by simp only[bM,ds];omega
 |x::l,k,h=>by have a:=xx p l (k+1) af;simp only[bM,bA];split<;>omega
def afV (ls:List bc)(a b:UInt8):Int:=cT ls a.toNat-cT ls b.toNat
def wrC (ls:List bc)(s t:Option (List UInt8)):Option (List UInt8):=match t,s with
 |none,s=>s
 |some t,none=>some t
 |some t,some s=>if aev (afV ls) t s<0 then some t else some s
def wr (ls:List bc)(hd:List Int):Nat->Nat->Option (List UInt8)
 |0,done=>if done=hd.length then some []else none
 |m+1,done=>ls.findSome? λx=>(wrC ls (if x.q=true then wr ls hd m done else none) (if done<hd.length/\da x.s (hd.getD done 0)=true then wr ls hd m (done+1)else none)).map (x.c.toNat.toUInt8:: ·)
def adO (ls:List bc):Prop:=ls.length<=1000/\ ∀x∈ls,97<=x.c/\x.c<=122/\0<=x.s/\x.s<9223372036854775808
structure Td (n:Int)(a:iB):Prop where
 name:eI a.name=true
 l1:1<=a.ls.length
 l6:a.ls.length<=6
 acL: ∀x∈a.ls,97<=x.c/\x.c<=122/\0<=x.s/\x.s<2^n.toNat/\(x.s=0->x.q=true)
 nd:(a.ls.map (·.c)).Nodup
structure SpV (b:dy)(s:cL):Prop where
 a0:0<=s.a
 ha: ∃a,b.al[s.a.toNat]? =some a/\ ∀c∈s.t,0<=cT a.ls c.toNat
 t1:1<=s.t.length
 t5:s.t.length<=5
structure Valid (b:dy):Prop where
 n1:1<=b.n
 n4:b.n<=4
 al1:1<=b.al.length
 al3:b.al.length<=3
 Xq:b.ss.length<=5
 ZJ: ∀a∈b.al,Td b.n a
 names:(b.al.map (·.name)).Nodup
 sp: ∀s∈b.ss,SpV b s
theorem Bd {f:Nat->Int}: ∀{m k:Nat},(∀j,k<=j->j<k+m->f j=0)->(aB f m k).2=0
 |0,k,_=>rfl
 |m+1,k,h=>by simp only[aB];rw[zy (h k af af)];exact Bd (λj a b=>h j af af)
theorem eN {f:Nat->Int}{m:Nat}:(aB f m 0).2=0↔ ∀j,j<m->f j=0:=
 ⟨λh j a=>pV h j af af,λh=>Bd (λj _ a=>h j af)⟩
theorem dc {lo hi:Int}:ae lo hi [n]=true↔ ¬(lo<=n/\n<=hi):=by grind [only,ae]
theorem qk {α β:Type}[DecidableEq β](f:α->β)(l:List α):(l.map f).Nodup↔ ∀(i:Nat) (x:α),l[i]? =some x-> ∀y∈l.take i,f y≠f x:=by constructor;intro h i x hx y hy e;obtain⟨j,a⟩:=bk.1 hy;rw[List.getElem?_take]at a;split at a;rename_i k;have c:(l.map f)[j]? =some (f x):=(by rw[bt,a];simp [e]);have d:(l.map f)[i]? =some (f x):=(by rw[bt,hx];rfl);obtain⟨a1,b⟩:=an.1 c;obtain⟨m,b2⟩:=an.1 d;have:=(List.getElem_inj h).1 (b.trans b2.symm);omega;cases a;intro h;rw[List.Nodup,List.pairwise_iff_getElem];intro i j hi a g e;simp at hi a;simp at e;refine h j l[j] aF l[i] ?_ e;rw[bk];exact⟨i,bD⟩
theorem rA (l:List bc)(c:Int):0<=cT l c↔ ∃x∈l,x.c=c:=by unfold cT;rw[yr _ _ _ af,List.any_eq_true];simp
theorem rm {ls:List bc}{i:Nat}(hx:ls[i]? =some x):dP n ls i=0↔(97<=x.c/\x.c<=122/\0<=x.s/\x.s<2^n.toNat/\(x.s=0->x.q=true))/\ ∀y∈ls.take i,y.c≠x.c:=by grind [only,dP,ae,cT,dc,rA]
theorem qS {b:dy}{i:Nat}{a:iB}(ha:b.al[i]? =some a):ez b i=0↔Td b.n a/\ ∀y∈b.al.take i,y.name≠a.name:=by
 simp only[ez,ha];by_cases e:eI a.name=true;case neg=>rw[zj e];exact⟨λh=>by simp at h,λh=>absurd h.1.name e⟩
 rw[zy e];by_cases f:(b.al.take i).any (λx=>x.name==a.name)=true;grind;rw[zj f];simp at f;by_cases d:ae 1 6 [(a.ls.length:Int)]=true;rw[zy d];rw[dc]at d;exact⟨λh=>by simp at h,λh=>absurd ⟨by have:=h.1.l1;omega,by have:=h.1.l6;omega⟩ d⟩;rw[zj d];rw[dc]at d;rw[eN];constructor;intro h;refine⟨⟨e,af,af,?_,?_⟩,f⟩;intro x hx;obtain⟨j,c⟩:=bk.1 hx;exact((rm c).1 (h j (an.1 c).1)).1;rw[qk];intro j x c;exact((rm c).1 (h j (an.1 c).1)).2;rintro⟨ok,_⟩ j c;have hx:a.ls[j]? =some a.ls[j]:=aF;rw[rm hx];exact⟨ok.acL _ (ap hx),(qk _ _).1 ok.nd j _ hx⟩
theorem yg {b:dy}{i:Nat}{s:cL}(hs:b.ss[i]? =some s):dJ b i=0↔SpV b s:=by simp only[dJ,hs];by_cases d:ae 0 ((b.al.length:Int)-1) [s.a]=true;rw[zy d];rw[dc]at d;refine⟨λh=>by simp at h,λh=>absurd ⟨h.a0,?_⟩ d⟩;obtain⟨a,ha,_⟩:=h.ha;have:=(an.1 ha).1;omega;rw[zj d];rw[dc]at d;by_cases e:ae 1 5 [(s.t.length:Int)]=true;rw[zy e];rw[dc]at e;exact⟨λh=>by simp at h,λh=>absurd ⟨by have:=h.t1;omega,by have:=h.t5;omega⟩ e⟩;rw[zj e];rw[dc]at e;have j:s.a.toNat<b.al.length:=af;obtain⟨a,ha⟩:=bq j;simp only[ha];by_cases f:s.t.all (λc=>decide (0<=cT a.ls c.toNat))=true;rw[zy f];simp at f;exact⟨λ_=>⟨af,⟨a,ha,f⟩,af,af⟩,λ_=>rfl⟩;rw[zj f];refine⟨λh=>by simp at h,λh=>absurd ?_ f⟩;obtain⟨k,g,h4⟩:=h.ha;rw[ha]at g;cases g;simp;exact h4
theorem pc {b:dy}:(check b).2.2=0↔Valid b:=by
 unfold check;by_cases e:ae 1 4 [b.n]=true;rw[zy e];rw[dc]at e;exact⟨λh=>by simp at h,λh=>absurd ⟨h.n1,h.n4⟩ e⟩;rw[zj e];rw[dc]at e;by_cases f:ae 1 3 [(b.al.length:Int)]=true;rw[zy f];rw[dc]at f;exact⟨λh=>by simp at h,λh=>absurd ⟨by have:=h.al1;omega,by have:=h.al3;omega⟩ f⟩;rw[zj f];rw[dc]at f;have d:(aB (ez b) b.al.length 0).2=0↔(∀a∈b.al,Td b.n a)/\(b.al.map (·.name)).Nodup:=by rw[eN,qk];constructor;intro h;constructor;intro a ha;obtain⟨i,hi⟩:=bk.1 ha;exact((qS hi).1 (h i (an.1 hi).1)).1;intro i a hi;exact((qS hi).1 (h i (an.1 hi).1)).2;rintro⟨c,h4⟩ i hi;have ha:b.al[i]? =some b.al[i]:=aF;exact(qS ha).2 ⟨c _ (ap ha),h4 i _ ha⟩
 have j:(aB (dJ b) b.ss.length 0).2=0↔ ∀s∈b.ss,SpV b s:=by rw[eN];constructor;intro h s hs;obtain⟨i,hi⟩:=bk.1 hs;exact(yg hi).1 (h i (an.1 hi).1);intro h i hi;have ha:b.ss[i]? =some b.ss[i]:=aF;exact(yg ha).2 (h _ (ap ha))
 by_cases c:(aB (ez b) b.al.length 0).2=0;rw[zy c];by_cases h4:5<b.ss.length;rw[zy h4];exact⟨λh=>by simp at h,λh=>absurd h.Xq af⟩;rw[zj h4];by_cases g:(aB (dJ b) b.ss.length 0).2=0;rw[zy g];exact⟨λ_=>⟨af,af,af,af,af,(d.1 c).1,(d.1 c).2,j.1 g⟩,λ_=>rfl⟩;rw[zj g];exact⟨λh=>absurd h g,λh=>absurd (j.2 h.sp) g⟩;rw[zj c];exact⟨λh=>absurd h c,λh=>absurd (d.2 ⟨h.ZJ,h.names⟩) c⟩
theorem Td.ls {n:Int}(e:n<=60){a:iB}(h:Td n a):adO a.ls:=by refine⟨by have:=h.l6;omega,λx hx=>?_⟩;obtain⟨b,c,d,h4,_⟩:=h.acL x hx;have:=yL (k:=n.toNat) af;exact⟨b,c,d,af⟩
abbrev strs (l:List (List UInt8)):AV:=.sl 1 (l.map λs=>[bh s])
theorem ZR (n lo hi:Int):(!(decide (lo<=n)&&decide (n<=hi)))=ae lo hi [n]:=by rw[cB];simp [ae]
def dL (s:List UInt8)(l:List (List UInt8)):Int:=if eI s=true then(if l.any (λx=>x==s)=true then 5 else 0)else 6
def pP (n:Int)(l:List bc):Int:=if ae 1 6 [(l.length:Int)]=true then 3 else(aB (dP n l) l.length 0).2
def Ar (b:dy)(s:cL):Int:=if ae 0 ((b.al.length:Int)-1) [s.a]=true then 4 else if ae 1 5 [(s.t.length:Int)]=true then 3 else match b.al[s.a.toNat]? with
 |none=>0
 |some a=>if s.t.all (λc=>decide (0<=cT a.ls c.toNat))=true then 0 else 6
theorem abT (n lo hi:Int):(decide (lo<=n)&&decide (n<=hi))= !ae lo hi [n]:=by rw[<-ZR];simp
def MY:Nat->Nat->List Int
 |0,_=>[]
 |f+1,c=>if c=0 then[]else MY f (c/5)++[((c%5:Nat):Int)-1]
abbrev LZ (N:Nat)(x:bZ->bZ)(l a:List (Nat×AV)):Prop:= ∀(C:bZ) (Q:dl),aU ad none N C Q (el a) [] []->aU ad none N (x C) Q (el l) [] []
def VU (t:Nat)(A B:List aQ):bZ:=
 .block 0 (.loop (.seq (.ops [ow 12 (.bin .lss 3 (tm 11) (tm 10))]) (.seq (.ite (tm 12) .skip (.exit 0)) (.seq
  (.block 1 (.seq (.ops A) (.seq (.ops B) (.seq (.ops [om 20 8,ow 21 (.bin .neq t (tm 20) (kc 0))]) (.ite (tm 21) (.seq (.ops [om 22 6,om 23 8,om 4 22,om 5 23]) .ret) .skip)))))
  (.ops [ow 24 (.bin .add 3 (tm 11) (kc 1)),om 11 24])))))
theorem vN {t:Nat}{B:List aQ}(F S:AV)(n:Nat)(f:Nat->Int){y:bZ}(j:n<=9223372036854775807)(g:F.bT=false)(i:S.bT=false)
  (step: ∀k,k<n->LZ N (λC=>.seq (.ops A) (.seq (.ops B) C)) [(1,F),(9,S),(10,I n),(11,I k)] [(1,F),(9,S),(10,I n),(11,I k),(6,I k),(8,I (f k))])
  (c: ∀env,env 4=I (aB f n 0).1->env 5=I (aB f n 0).2->Q .ret env [] [])
  (b:aB f n 0=(0,0)->aU ad none N y Q (el [(1,F)]) [] []):aU ad none N (VU t A B) (kX (λe h d=>aU ad none N y Q e h d) Q) (el [(1,F),(9,S),(10,I n),(11,I (0:Nat))]) [] []:=by
 unfold VU;refine cj (aB f n 0=(0,0)) (el [(1,F)]) [] [] ?_ (λ_ h=>b h);refine gf (λk:Nat=>k<=n/\aB f n 0=aB f (n-k) k) (λk=>el [(1,F),(9,S),(10,I n),(11,I k)]) (λk=>n-k) 0 nN (bO.refl _ _ _) ?_;rintro k ⟨hk,hi⟩;refine aa<|cZ zz<|aa (aj zz (λhc=>?_) (λhc=>?_))
 simp at hc;rw[show n-k=(n-(k+1))+1 from af,aB]at hi;refine ak (aa (ay ?_));refine iF [(1,F),(9,S),(10,I n),(11,I k)]<|step k hc _ _<|aa<|cZ zz<|aj zz (λa=>?_) (λa=>?_)
 simp at a;rw[zj a]at hi;refine aJ zz<|ab (c _ ?_ ?_)
 show I _=I _;rw[hi];show I _=I _;rw[hi]
 simp at a;rw[zy a]at hi;refine ak<|fE zz bL ?_
 exact⟨k+1,⟨hc,hi⟩,af,eL⟩
 simp at hc;refine aE ⟨(),?_,eL⟩;rw[hi,show n-k=0 from af];rfl
def Tn (t:Nat)(A B:List aQ):bZ:=
 .block 0 (.loop (.seq (.ops [ow 18 (.bin .lss 3 (tm 17) (tm 16))]) (.seq (.ite (tm 18) .skip (.exit 0)) (.seq
  (.block 1 (.seq (.ops A) (.seq (.ops B) (.seq (.ops [om 26 10,ow 27 (.bin .neq t (tm 26) (kc 0))]) (.ite (tm 27) (.seq (.ops [om 28 8,om 29 10,om 6 28,om 7 29]) .ret) .skip)))))
  (.ops [ow 30 (.bin .add 3 (tm 17) (kc 1)),om 17 30])))))
theorem vu {t:Nat}{B:List aQ}(F S:AV)(n:Nat)(f:Nat->Int){y:bZ}(j:n<=9223372036854775807)(g:F.bT=false)(i:S.bT=false)
  (step: ∀k,k<n->LZ N (λC=>.seq (.ops A) (.seq (.ops B) C)) [(2,F),(15,S),(16,I n),(17,I k)] [(2,F),(15,S),(16,I n),(17,I k),(8,I k),(10,I (f k))])
  (c: ∀env,env 6=I (aB f n 0).1->env 7=I (aB f n 0).2->Q .ret env [] [])
  (b:aB f n 0=(0,0)->aU ad none N y Q (el [(2,F)]) [] []):aU ad none N (Tn t A B) (kX (λe h d=>aU ad none N y Q e h d) Q) (el [(2,F),(15,S),(16,I n),(17,I (0:Nat))]) [] []:=by
 unfold Tn;refine cj (aB f n 0=(0,0)) (el [(2,F)]) [] [] ?_ (λ_ h=>b h);refine gf (λk:Nat=>k<=n/\aB f n 0=aB f (n-k) k) (λk=>el [(2,F),(15,S),(16,I n),(17,I k)]) (λk=>n-k) 0 nN (bO.refl _ _ _) ?_;rintro k ⟨hk,hi⟩;refine aa<|cZ zz<|aa (aj zz (λhc=>?_) (λhc=>?_))
 simp at hc;rw[show n-k=(n-(k+1))+1 from af,aB]at hi;refine ak (aa (ay ?_));refine iF [(2,F),(15,S),(16,I n),(17,I k)]<|step k hc _ _<|aa<|cZ zz<|aj zz (λa=>?_) (λa=>?_)
 simp at a;rw[zj a]at hi;refine aJ zz<|ab (c _ ?_ ?_)
 show I _=I _;rw[hi];show I _=I _;rw[hi]
 simp at a;rw[zy a]at hi;refine ak<|fE zz bL ?_
 exact⟨k+1,⟨hc,hi⟩,af,eL⟩
 simp at hc;refine aE ⟨(),?_,eL⟩;rw[hi,show n-k=0 from af];rfl
def aex (S:Nat)(A:List aQ):bZ:=
 .seq (.ops [ow 4 (.tJ (kc 0))]) (.seq (.seq (.ops [om 6 0,ow 7 (.len false S 3 (tm 6)),ow 8 (.tJ (kc 0))]) (.block 0 (.loop (.seq (.ops [ow 9 (.bin .lss 3 (tm 8) (tm 7))]) (.seq (.ite (tm 9) .skip (.exit 0)) (.seq
  (.block 1 (.seq (.ops [om 10 8,om 5 10]) (.seq (.ops A) (.ite (tm 16) (.seq (.ops [om 17 5,om 4 17]) .ret) .skip))))
  (.ops [ow 18 (.bin .add 3 (tm 8) (kc 1)),om 8 18]))))))) (.seq (.ops [ow 4 (.tJ (kc (-1)))]) .ret))
theorem vH {α:Type}{f S:Nat}(ok:sI ad f 19 [.tmp 4] (aex S A))(ao:α->List AV)(kk:Nat)(l:List α)(p:α->Bool)(F:AV)(b:F.bT=false)
  (step: ∀(k:Nat) x,l[k]? =some x->LZ 19 (λC=>.seq (.ops A) C) [(0,.sl kk (l.map ao)),(1,F),(5,I k),(7,I l.length),(8,I k)] [(0,.sl kk (l.map ao)),(1,F),(5,I k),(7,I l.length),(8,I k),(16,B (p x))]):
  Ev ad f [.sl kk (l.map ao),F] (I (bM p l 0)):=by
 apply ar ok;unfold aex;refine gn 0 zz λha=>?_;simp at ha;refine aJ zz<|aa<|aJ zz<|cj (bM p l 0= -1) (el []) [] [] ?_ ?_
 refine gf (λk:Nat=>k<=l.length/\bM p l 0=bM p (l.drop k) k) (λk=>el [(0,.sl kk (l.map ao)),(1,F),(7,I l.length),(8,I k)]) (λk=>l.length-k) 0 nN
  (au ⟨zz,zz,by show I _=I _;simp,zz,zq⟩) ?_
 rintro k ⟨hk,hi⟩;refine aJ zz<|aa (aj zz (λhc=>?_) (λhc=>?_));simp at hc;obtain⟨x,hx⟩:=bq hc;rw[drop_cons hx,bM]at hi;refine ak (aa (ay ?_));refine aJ zz<|iF [(0,.sl kk (l.map ao)),(1,F),(5,I k),(7,I l.length),(8,I k)]<|step k x hx _ _<|aj zz (λa=>?_) (λa=>?_)
 refine aJ zz<|ab (aD ?_)
 rw[hi,a];rfl
 refine ak<|fE zz bL ?_
 exact⟨k+1,⟨hc,by rw[hi,a];rfl⟩,af,eL⟩
 simp only[nL]at hc;refine aE ⟨(),?_,au zq⟩;rw[hi,drop_nil hc];rfl
 refine λ_ h=>aJ zz<|ab (aD ?_)
 rw[h];rfl
theorem yc {α:Type}{f g:Nat}(ok:sI ad f 9 [.tmp 4] (.seq (.ops [ow 4 (.tJ (.const (.bool false)))]) (.seq (.ops [om 5 0,om 6 1,ow 7 (.call g [tm 5,tm 6] 3),ow 8 (.bin .geq 3 (tm 7) (kc 0)),om 4 8]) .ret)))
  {kk c:Nat} {es:List (List AV)} {a:List AV} (l:List α) (p:α->Bool) (h:Ev ad g [.sl kk es,.fn (.func c) [] a] (I (bM p l 0))):Ev ad f [.sl kk es,.fn (.func c) [] a] (B (l.any p)):=by
 refine ar ok<|aJ zz<|bE [.ret (I (bM p l 0))] zz ⟨h,zq⟩<|ab (aD ?_)
 show B _=B _;rw[qz p l 0 af]
def ld (p:Nat->Bool):List Bool:=(az 3125).map p
theorem Aj (p:Nat->Bool):(ld p).length=3125:=by simp [ld]
theorem oY (p:Nat->Bool){c:Nat}(h:c<3125):(ld p)[c]? =some (p c):=by simp [ld,h]
abbrev dj (p:Nat->Bool):List (List AV):=(ld p).map λx=>[B x]
theorem AI (p:Nat->Bool){c:Nat}(h:c<3125):(dj p)[c]? =some [B (p c)]:=by rw[bt,oY p h];rfl
theorem vC (p:Nat->Bool):(dj p).length=3125:=by rw[bl,Aj]
theorem Qx (p:Nat->Bool){m:Nat}(h:m<3125)(v:Bool):(ld p).set m v=ld (λc=>if c=m then v else p c):=by apply cx;intro i;rw[b6];by_cases hi:i<3125;by_cases e:m=i;subst e;rw[zy zz,zy (by rw[Aj];exact h),oY _ h,zy zz];rw[zj e,oY _ hi,oY _ hi,zj (λb=>e b.symm)];have a: ∀q,(ld q)[i]? =none:=λq=>List.getElem?_eq_none (by rw[Aj];omega);rw[a,a];split;grind;rfl
theorem vx (p:Nat->Bool){m:Nat}(h:m<3125)(v:Bool):(dj p).set m (bU [B (p m)] 0 (ct (B v)))=dj (λc=>if c=m then v else p c):=by show ((ld p).map _).set m _=(ld _).map _;rw[<-Qx p h v,fs];rfl
theorem ik {q:Nat->Bool}(h: ∀c,c<3125->p c=q c):dj p=dj q:=by
 have:ld p=ld q:=by unfold ld;exact List.map_congr_left (λc hc=>h c (b0.1 hc))
 show (ld p).map _=(ld q).map _;rw[this]
theorem tu {α:Type}(x:α): ∀n:Nat,ek n x=(az n).map (λ_=>x)
 |0=>rfl
 |n+1=>by rw[List.replicate_succ',b8,ea,tu x n];rfl
theorem Rs (n:Nat):ek n ([hI false].map AV.v)=((az n).map (λ_=>false)).map (λx=>[B x]):=by rw[List.map_map,tu];rfl
theorem My:ek 3125 ([hI false].map AV.v)=dj (λ_=>false):=Rs 3125
def AP (n:Nat)(x:bc)(p:Nat->Bool):Nat->Bool:=λc=>(p c&&x.q)||(decide (0<c)&&decide ((c-1)%5<n)&&da x.s (((c-1)%5:Nat):Int)&&p ((c-1)/5))
def xw (n:Nat)(xs:List bc):Nat->Bool:=xs.foldl (λp x=>AP n x p) (λc=>c==0)
def mZ (n:Nat)(x:bc)(p:Nat->Bool)(k:Nat):Nat->Bool:=λc=>(p c&&x.q&&decide (c<k))||(decide (0<c)&&decide ((c-1)%5<n)&&da x.s (((c-1)%5:Nat):Int)&&p ((c-1)/5)&&decide ((c-1)/5<k))
def tn (n:Nat)(x:bc)(p:Nat->Bool)(k j:Nat):Nat->Bool:=λc=>mZ n x p k c||(decide (c=k)&&x.q)||(decide (0<c)&&decide ((c-1)/5=k)&&decide ((c-1)%5<j)&&da x.s (((c-1)%5:Nat):Int))
theorem Mt (n:Nat)(x:bc)(p:Nat->Bool):mZ n x p 0=λ_=>false:=by funext c;simp [mZ]
theorem U1 {n:Nat}(h:p k=false):mZ n x p (k+1)=mZ n x p k:=by grind [only,mZ]
theorem Ry {n:Nat}(h:p k=true):mZ n x p (k+1)=tn n x p k n:=by grind [da,only,mZ,tn]
theorem QO {n:Nat}{c:Nat}(h:c<3125):mZ n x p 3125 c=AP n x p c:=by have a:(c-1)/5<3125:=af;simp [mZ,AP,h,a]
theorem Vr {n:Nat}(a:n<=4){m:Nat}(h: ∀c,p c=true->c<5^m): ∀c,AP n x p c=true->c<5^(m+1):=by grind [only,AP]
theorem zC (n:Nat)(xs:List bc)(x:bc):xw n (xs++[x])=AP n x (xw n xs):=by simp [xw,b3]
theorem ZN {n:Nat}(a:n<=4)(xs:List bc): ∀c,xw n xs c=true->c<5^xs.length:=by
 have key: ∀(ys:List bc) (c:Nat),xw n ys.reverse c=true->c<5^ys.length:=by
  intro ys;induction ys with
  |nil=>intro c h;simp [xw]at h;simp [h]
  |cons y ys b=>intro c h;rw[fu,zC]at h;exact Vr a b c h
 have:=key xs.reverse;rw[e5,List.length_reverse]at this;exact this
theorem EW (s:Int)(k:Nat)(h:0<=s):AB s k=da s k:=by unfold AB da;have a:0<=s/2^((k:Nat):Int).toNat:=gQ h (ht (eu af));generalize s/2^((k:Nat):Int).toNat=q at a;obtain⟨m,rfl⟩:=eS a;have b:((m:Int)).toNat &&& (1:Int).toNat=m%2:=bD;rw[b,cB,decide_eq_true_iff,beq_iff_eq];omega
def Hr (b:dy)(j:Int):Nat->Bool:=match b.ss[j.toNat]? with
 |some s=>xw b.n.toNat (ju b s)
 |none=>λ_=>false
def Pd (b:dy)(l:List Int):Nat->Bool:=λc=> !l.isEmpty&&l.all λj=>Hr b j c
def andM (q r:Nat->Bool)(k:Nat):Nat->Bool:=λc=>if c<k then q c&&r c else q c
theorem Wu (b:dy)(l:List Int)(j:Int):Pd b (l++[j])=λc=>Hr b j c&&(decide (l.length=0)||Pd b l c):=by grind [Pd]
def H4 (h:List Int):Prop:= ∀v∈h,0<=v/\v<4
def fG (l:List Int):Nat:=l.foldl (λn v=>n*5+v.toNat+1) 0
theorem wV: ∀(l:List Int) (n:Nat),l.foldl (λn v=>n*5+v.toNat+1) n=n*5^l.length+fG l
 |[],n=>by simp [fG]
 |v::l,n=>by unfold fG;simp only[dn,bA];rw[wV l (n*5+v.toNat+1),wV l (0*5+v.toNat+1),fv];generalize 5^l.length=q;generalize fG l=r;rw[Nat.zero_mul,Nat.zero_add,de,de,de,Nat.mul_assoc,Nat.mul_comm 5 q];omega
theorem sE (v:Int)(l:List Int):fG (v::l)=(v.toNat+1)*5^l.length+fG l:=by grind [fG,wV]
theorem wY (l:List Int)(v:Int):fG (l++[v])=fG l*5+v.toNat+1:=by simp [fG,b3]
theorem uM: ∀{l:List Int},H4 l->fG l<5^l.length
 |[],_=>by simp [fG]
 |v::l,h=>by have b:=uM (l:=l) (λx hx=>h x (by simp [hx]));have a:=h v aF;rw[sE,bA,fv];have:(v.toNat+1)*5^l.length<=4*5^l.length:=cy _ af;omega
theorem Tp (v:Int)(l:List Int):5^l.length<=fG (v::l):=by grind [sE]
theorem yX {g:List Int}(hh:H4 h)(hl:h.length<g.length):fG h<fG g:=by
 cases g with
 |nil=>simp at hl
 |cons v g=>have a:=uM hh;have b:=Tp v g;have c:5^h.length<=5^g.length:=bn af bD;omega
theorem zI: ∀{h g:List Int},H4 h->H4 g->h.length=g.length->(fG h<fG g↔eO h g=true)
 |[],[],_,_,_=>by simp [fG,eO]
 |v::h,u::g,hh,hg,hl=>by
  have a:h.length=g.length:=by simpa using hl
  have d:=zI (h:=h) (g:=g) (λx hx=>hh x (by simp [hx])) (λx hx=>hg x (by simp [hx])) a;have j:=hh v aF;have i:=hg u aF;have b:=uM (l:=h) (λx hx=>hh x (by simp [hx]));have b2:=uM (l:=g) (λx hx=>hg x (by simp [hx]));rw[sE,sE,eO,a];rw[a]at b;generalize 5^g.length=q at b b2 ⊢;by_cases e:v=u;rw[zy e,<-d,e];omega;rw[zj e,decide_eq_true_iff];constructor;intro c;apply er;intro f;have:(u.toNat+1+1)*q<=(v.toNat+1)*q:=cy _ af;rw[de,hF]at this;omega;intro c;have:(v.toNat+1+1)*q<=(u.toNat+1)*q:=cy _ af;rw[de,hF]at this;omega
theorem UP {g:List Int}(a:h.length<=5)(hl:h.length=g.length):eO (pad h) (pad g)=eO h g:=by
 match h,g,hl,a with
 |[],[],_,_=>rfl
 |[_],[_],_,_=>simp [pad,eO]
 |[_,_],[_,_],_,_=>simp [pad,eO]
 |[_,_,_],[_,_,_],_,_=>simp [pad,eO]
 |[_,_,_,_],[_,_,_,_],_,_=>simp [pad,eO]
 |[_,_,_,_,_],[_,_,_,_,_],_,_=>rfl
theorem H4.ok (hh:H4 h)(a:h.length<=5):tK h:=⟨a,λv b=>by have:=hh v b;omega⟩
theorem Bk {g:List Int}(hh:H4 h)(hg:H4 g)(a:h.length<=5)(b:g.length<=5):cY h g=true↔fG h<fG g:=by
 rw[jO (hh.ok a) (hg.ok b)];rcases Nat.lt_trichotomy h.length g.length with hl|hl|hl
 have:=yX hh hl;simp [hl,this];rw[zI hh hg hl,UP a hl];simp [hl];have:=yX hg hl;constructor;grind;grind
theorem Bf: ∀(f:Nat) (l:List Int),H4 l->l.length<=f->MY f (fG l)=l:=by
 intro f;induction f with
 |zero=>intro l _ hl;have:l=[]:=eT.1 af;subst this;rfl
 |succ f c=>
  intro l hh hl;rcases List.eq_nil_or_concat l with rfl|⟨m,v,rfl⟩
  rfl;rw[List.concat_eq_append]at*
  have d:=hh v aF;have hm:=c m (λx hx=>hh x (by simp [hx])) (by simp at hl;omega);rw[wY];simp only[MY];rw[zj af];have a:(fG m*5+v.toNat+1)/5=fG m:=af;have b:(fG m*5+v.toNat+1)%5=v.toNat+1:=af;rw[a,b,hm];congr 2;omega
theorem Ra {g:List Int}(hh:H4 h)(hg:H4 g)(e:fG h=fG g):h=g:=by have a:=Bf (h.length+g.length) h hh af;have b:=Bf (h.length+g.length) g hg af;exact a.symm.trans bD
theorem sN {n:Nat}: ∀(xs:List bc) (x:bc) (h g:List Int),g∈dZ n (xs++[x]) h↔ ∃f∈dZ n xs h,(x.q=true/\g=f)\/ ∃k:Nat,k<n/\da x.s k=true/\g=f++[(k:Int)]
 |[],x,h,g=>by simp only[List.nil_append,dZ,a7,cc,b7,b0,a8,exists_eq_left];constructor;rintro (a|⟨k,⟨a,c⟩,b⟩);split at a;rename_i d;exact .inl ⟨d,by simpa using a⟩;cases a;exact .inr ⟨k,a,c,b⟩;rintro (⟨d,rfl⟩|⟨k,a,c,b⟩);left;rw[zy d];simp;exact .inr ⟨k,⟨a,c⟩,b⟩
 |y::xs,x,h,g=>by have i:=λh=>sN (n:=n) xs x h g;simp only[List.cons_append,dZ,a7,cc,b7,b0];constructor;rintro (a|⟨k,a,c⟩);split at a;rename_i d;obtain⟨f,e,c⟩:=(i h).1 a;exact⟨f,.inl (by rw[zy d];exact e),c⟩;cases a;obtain⟨f,e,b⟩:=(i _).1 c;exact⟨f,.inr ⟨k,a,e⟩,b⟩;rintro⟨f,a|⟨k,a,e⟩,b⟩;split at a;rename_i d;left;rw[zy d];exact(i h).2 ⟨f,a,b⟩;cases a;exact .inr ⟨k,a,(i _).2 ⟨f,e,b⟩⟩
theorem D6 {n:Nat}(a:n<=4): ∀(xs:List bc) (h g:List Int),g∈dZ n xs h->H4 h->H4 g
 |[],h,g,hg,hh=>by simp [dZ]at hg;subst hg;exact hh
 |x::xs,h,g,hg,hh=>by
  simp only[dZ,a7,cc]at hg;rcases hg with hg|⟨k,hk,hg⟩
  split at hg;exact D6 a xs h g hg hh;cases hg;refine D6 a xs _ g hg ?_;intro v hv;rcases a7.1 hv with hv|hv
  exact hh v hv;simp only[a8]at hv;have:=b0.1 (b7.1 hk).1;omega
theorem abN:H4 []:=by intro v a;cases a
theorem WZ {n:Nat}(p:n<=4)(xs:List bc)(c:Nat):xw n xs c=true↔ ∃h∈dZ n xs [],fG h=c:=by
 have key: ∀(ys:List bc) (c:Nat),xw n ys.reverse c=true↔ ∃h∈dZ n ys.reverse [],fG h=c:=by
  intro ys;induction ys with
  |nil=>intro c;simp only[List.reverse_nil,xw,dZ,List.foldl_nil,a8,exists_eq_left,beq_iff_eq,fG];exact eq_comm
  |cons y ys o=>intro c;rw[fu,zC];simp only[AP,dk,cb,decide_eq_true_eq,o];constructor;rintro (⟨⟨h,hh,hc⟩,b⟩|⟨⟨⟨e,l⟩,m⟩,⟨h,hh,hc⟩⟩);exact⟨h,(sN _ _ _ _).2 ⟨h,hh,.inl ⟨b,zz⟩⟩,hc⟩;refine⟨h++[(((c-1)%5:Nat):Int)],(sN _ _ _ _).2 ⟨h,hh,.inr ⟨(c-1)%5,l,m,zz⟩⟩,?_⟩;rw[wY,hc];simp;omega;rintro⟨g,hg,hc⟩;obtain⟨f,i,e⟩:=(sN _ _ _ _).1 hg;rcases e with⟨b,rfl⟩|⟨k,hk,a,rfl⟩;exact .inl ⟨⟨_,i,hc⟩,b⟩;rw[wY,cr]at hc;have j:(c-1)/5=fG f:=af;have d:(c-1)%5=k:=af;refine .inr ⟨⟨⟨af,by rw[d];exact hk⟩,by rw[d];exact a⟩,⟨f,i,j.symm⟩⟩
 have:=key xs.reverse c;rwa [e5]at this
def LY (es:Kn):Prop:=(es.map (·.1)).Nodup
theorem Er {es:Kn}:ia es h=none↔h ∉ es.map (·.1):=by
 induction es with
 |nil=>simp [ia]
 |cons e es b=>obtain⟨g,u⟩:=e;simp only[ia,fb,bs,not_or];by_cases hg:g=h;simp [hg];rw[zj hg];simp only[Option.map_eq_none_iff,b];exact⟨λa=>⟨λe=>hg e.symm,a⟩,λa=>a.2⟩
theorem nV {es:Kn}(a:LY es){u:Nat}(hm:(h,u)∈es):lF es h=u:=by
 unfold lF;induction es with
 |nil=>cases hm
 |cons e es b=>
  obtain⟨g,v⟩:=e;simp only[LY,fb,List.nodup_cons]at a;simp only[ia];by_cases hg:g=h;grind;rw[zj hg];rcases bs.1 hm with hm|hm
  cases hm;exact absurd zz hg;have:=b a.2 hm;cases hk:ia es h with
  |none=>rw[hk]at this;exact this
  |some p=>rw[hk]at this;exact this
theorem rL {es:Kn}(hm:h ∉ es.map (·.1)):lF es h=0:=by unfold lF;rw[Er.2 hm]
theorem GJ {es:Kn}{a:Nat}:(oR es h a).map (·.1)=if h∈es.map (·.1)then es.map (·.1)else es.map (·.1)++[h]:=by
 unfold oR;have hs:=jR es h;cases b:ia es h with
 |none=>grind
 |some p=>obtain⟨j,u⟩:=p;rw[b]at hs;have hm:h∈es.map (·.1):=bI.2 ⟨_,ap hs,zz⟩;rw[zy hm,fs];apply cx;intro i;rw[b6];by_cases e:j=i;grind;rw[zj e]
theorem Hb {es:Kn}(b:LY es)(h:List Int)(a:Nat):LY (oR es h a):=by grind [LY,only,GJ]
theorem QJ {es:Kn}(k:LY es)(h g:List Int)(bit:Nat):lF (oR es h bit) g=if g=h then lF es h ||| bit else lF es g:=by
 have hs:=jR es h;have f:=Hb k h bit;have a:oR es h bit=match ia es h with|none=>es++[(h,bit)]|some (j,u)=>es.set j (h,u ||| bit):=rfl
 cases l:ia es h with
 |none=>have hm:=Er.1 l;rw[l]at a;simp only at a;by_cases hg:g=h;subst hg;rw[zy zz,rL hm,Nat.zero_or];exact nV f (by rw[a];simp);rw[zj hg];by_cases c:g∈es.map (·.1);obtain⟨⟨n,u⟩,b,rfl⟩:=bI.1 c;rw[nV k b];exact nV f (by rw[a];simp [b]);rw[rL c,rL];rw[a];simp only[ea,fb,List.map_nil,a7,a8,not_or];exact⟨c,hg⟩
 |some p=>obtain⟨j,u⟩:=p;rw[l]at hs a;simp only at hs a;have b:=ap hs;have m:=(an.1 hs).1;by_cases hg:g=h;subst hg;rw[zy zz,nV k b];apply nV f;rw[a];exact bk.2 ⟨j,by rw[b6,zy zz,zy m]⟩;rw[zj hg];by_cases c:g∈es.map (·.1);obtain⟨⟨n,v⟩,d,rfl⟩:=bI.1 c;rw[nV k d];apply nV f;rw[a];obtain⟨i,hi⟩:=bk.1 d;refine bk.2 ⟨i,?_⟩;rw[b6,zj (λe=>by subst e;rw[hs]at hi;cases hi;exact hg zz),hi];rw[rL c,rL];rw[GJ];have:h∈es.map (·.1):=bI.2 ⟨_,b,zz⟩;rw[zy this];exact c
theorem C8 (a:Nat): ∀(l:List (List Int)) (es:Kn),LY es->LY (l.foldl (λes h=>oR es h a) es)
 |[],_,b=>b
 |h::l,c,b=>C8 a l _ (Hb b h a)
theorem CF (bit:Nat): ∀(l:List (List Int)) (es:Kn) (g:List Int),LY es->lF (l.foldl (λes h=>oR es h bit) es) g=if g∈l then lF es g ||| bit else lF es g
 |[],es,g,_=>aF
 |h::l,es,g,a=>by simp;rw[CF bit l _ g (Hb a h bit),QJ a];by_cases hg:g=h;subst hg;simp only[if_true,true_or];split;rw[Nat.or_assoc,Nat.or_self];rfl;simp [hg]
theorem Gu {n:Nat}: ∀(a:List (List bc)) (i:Nat) (es:Kn),LY es->LY (kC n a i es)
 |[],_,_,b=>b
 |_xs::a,i,c,b=>Gu a (i+1) _ (C8 _ _ _ b)
theorem uf (u i k:Nat):(u ||| 2^i).testBit k=(u.testBit k||decide (i=k)):=by rw[ho,e8]
theorem CJ {n:Nat}: ∀(a:List (List bc)) (i:Nat) (es:Kn) (g:List Int) (k:Nat),LY es->
  ((lF (kC n a i es) g).testBit k=true↔(lF es g).testBit k=true\/ ∃xs,i<=k/\a[k-i]? =some xs/\g∈dZ n xs [])
 |[],i,es,g,k,_=>by simp [kC]
 |xs::a,i,es,g,k,f=>by
  simp only[kC]
  rw[CJ a (i+1) _ g k (C8 _ _ _ f),CF _ _ _ _ f]
  have c:((if g∈dZ n xs []then lF es g ||| 2^i else lF es g).testBit k=true)↔((lF es g).testBit k=true\/(i=k/\g∈dZ n xs [])):=by
   split
   ·rename_i hm
    rw[uf];simp [hm]
   ·rename_i hm;simp [hm]
  rw[c]
  constructor
  ·rintro ((h|⟨rfl,h⟩)|⟨ys,j,b,d⟩)
   ·exact .inl h
   ·exact .inr ⟨xs,b9 _,aF,h⟩
   ·refine .inr ⟨ys,af,?_,d⟩
    rw[show k-i=(k-(i+1))+1 from af];simpa using b
  ·rintro (h|⟨ys,j,b,d⟩)
   ·exact .inl (.inl h)
   ·by_cases e:i=k
    ·subst e
     simp only[Nat.sub_self,b4,fx]at b
     subst b
     exact .inl (.inr ⟨zz,d⟩)
    ·refine .inr ⟨ys,af,?_,d⟩
     rw[show k-i=(k-(i+1))+1 from af]at b;simpa using b
def me (b:dy)(j:Nat):List (List Int):=match b.ss[j]? with
 |some s=>dZ b.n.toNat (ju b s) []
 |none=>[]
theorem EU (b:dy)(g:List Int)(k:Nat):(lF (dB b) g).testBit k=true↔g∈me b k:=by
 unfold dB;rw[CJ _ 0 [] g k (by simp [LY])];have a:lF ([]:Kn) g=0:=rfl;rw[a];simp only[gx,a6,false_or,Nat.zero_le,true_and,Nat.sub_zero,vj,bt,cR,me];cases b.ss[k]? with
 |none=>simp
 |some s=>simp
theorem Te (b:dy):LY (dB b):=Gu _ 0 [] (by simp [LY])
theorem Ga {b:dy}(he:e∈dB b): ∀k,e.2.testBit k=true↔e.1∈me b k:=by intro k;rw[<-EU,nV (Te b) he]
theorem Qo {b:dy}{g:List Int}(h:g∈me b k): ∃u,(g,u)∈dB b:=by rw[<-EU]at h;apply hp;intro a;have:g ∉ (dB b).map (·.1):=λhm=>bD;rw[rL this]at h;simp at h
def lH (es:Kn)(set:Int):List (List Int):=(es.filter λe=>vW set e.2).map (·.1)
def stepG (p:List Int×Nat)(h:List Int):List Int×Nat:=(if p.2=0\/cY h p.1=true then h else p.1,p.2+1)
theorem PA (set:Int): ∀(es:Kn) (p:List Int×Nat),es.foldl (mB set) p=(lH es set).foldl stepG p
 |[],p=>rfl
 |e::es,p=>by
  simp;have a:mB set p e=if vW set e.2=true then(if p.2=0\/cY e.1 p.1=true then e.1 else p.1,p.2+1)else p:=rfl
  rw[PA set es,a];unfold lH;by_cases h:vW set e.2=true;rw[zy h,List.filter_cons_of_pos (by simpa using h)];rfl;rw[zj h,List.filter_cons_of_neg (by simpa using h)]
theorem CP: ∀(K:List (List Int)) (b:List Int) (m:Nat),m≠0->(∀h∈b::K,tK h)->
  (K.foldl stepG (b,m)).2=m+K.length/\(K.foldl stepG (b,m)).1∈b::K/\ ∀h∈b::K,cY h (K.foldl stepG (b,m)).1=false
 |[],b,m,hm,hk=>by
  refine⟨zz,aF,?_⟩
  intro h hh
  simp only[a8]at hh
  subst hh
  cases c:cY h h with
  |false=>exact c
  |true=>rw[jO (hk h aF) (hk h aF),wN]at c;simp at c
 |h::K,b,m,hm,hk=>by
  simp only[dn]
  have f:stepG (b,m) h=(if cY h b=true then h else b,m+1):=by simp [stepG,hm]
  rw[f]
  have hh:=hk h aF
  have c:=hk b aF
  obtain⟨j,g,a⟩:=CP K (if cY h b=true then h else b) (m+1) af (by
   intro x hx
   rcases bs.1 hx with rfl|hx
   ·split;exact hh;exact c
   ·exact hk x (by simp [hx]))
  generalize K.foldl stepG (if cY h b=true then h else b,m+1)=r at j g a
  have i:tK r.1:=by
   rcases bs.1 g with h2|h2
   ·rw[h2];split;exact hh;exact c
   ·exact hk _ (by simp [h2])
  refine⟨by rw[j];simp;omega,?_,?_⟩
  ·rcases bs.1 g with h2|h2
   ·rw[h2];split<;>simp
   ·simp [h2]
  ·intro x hx
   simp only[bs]at hx
   by_cases hc:cY h b=true
   ·rw[zy hc]at a
    rcases hx with rfl|rfl|hx
    ·cases d:cY x r.1 with
     |false=>rfl
     |true=>
      have:=nK hh c i hc d
      rw[a h aF]at this;cases this
    ·exact a _ aF
    ·exact a _ (by simp [hx])
   ·rw[zj hc]at a
    rcases hx with rfl|rfl|hx
    ·exact a _ aF
    ·cases d:cY x r.1 with
     |false=>rfl
     |true=>
      by_cases e:x=b
      ·subst e;rw[a x aF]at d;cases d
      ·have h2:=wF hh c e (by simpa using hc)
       have:=nK c hh i h2 d
       rw[a b aF]at this;cases this
    ·exact a _ (by simp [hx])
theorem uY {es:Kn}(hk:xF es)(set:Int):(gz es set).2=(lH es set).length/\(lH es set=[]->(gz es set).1=[])/\
  (lH es set≠[]->(gz es set).1∈lH es set/\ ∀h∈lH es set,cY h (gz es set).1=false):=by
 unfold gz;rw[PA];have a: ∀h∈lH es set,tK h:=by intro h hh;obtain⟨e,he,rfl⟩:=bI.1 hh;exact(hk e (b7.1 he).1).1
 cases hK:lH es set with
 |nil=>grind
 |cons h K=>
  rw[hK]at a;simp only[dn];have b:stepG ([],0) h=(h,1):=by simp [stepG]
  rw[b];obtain⟨f,c,d⟩:=CP K h 1 af a;refine⟨?_,?_,λ_=>⟨c,d⟩⟩;grind;grind
theorem Oq {α:Type}(p:α->Bool): ∀{l:List α} {k:Int} {i:Nat} {x:α},l[i]? =some x->p x=true->(∀j y,j<i->l[j]? =some y->p y=false)->bM p l k=k+i
 |[],_,_,_,h,_,_=>by simp at h
 |y::l,k,0,x,h,a,_=>by simp only[b4,fx]at h;subst h;simp [bM,a]
 |y::l,k,i+1,x,h,a,hm=>by have b:=hm 0 y af aF;simp only[bM,b,a6,if_false];rw[Oq p (l:=l) (k:=k+1) (i:=i) (x:=x) (by simpa using h) a (λj z d c=>hm (j+1) z af (by simpa using c))];omega
theorem Ap {α:Type}(p:α->Bool): ∀{l:List α} {k:Int},(∀y∈l,p y=false)->bM p l k= -1
 |[],_,_=>rfl
 |y::l,k,h=>by simp only[bM,h y aF,a6,if_false];exact Ap p (λz a=>h z (by simp [a]))
theorem Jh {K:List (List Int)}(h4: ∀h∈K,H4 h/\h.length<=5)(i: ∀c,c<3125->(p c=true↔ ∃h∈K,fG h=c)){a:List Int}(m:K≠[]->a∈K/\ ∀h∈K,cY h a=false):
  bM id (ld p) 0=if K=[]then -1 else(fG a:Int):=by
 by_cases hK:K=[];rw[zy hK];apply Ap _;intro y hy;obtain⟨c,hc,rfl⟩:=bI.1 hy;cases n:p c with
 |false=>rfl
 |true=>grind
 rw[zj hK];obtain⟨g,l⟩:=m hK;obtain⟨f,b5⟩:=h4 a g;have b:fG a<3125:=by have g1:=uM f;have g2:5^a.length<=5^5:=bn af b5;omega
 rw[Oq id ?_ zz ?_,Int.zero_add];rw[oY p b,(i _ b).2 ⟨a,g,zz⟩];intro j y o hy;rw[oY p af]at hy;cases hy;cases d:p j with
 |false=>rfl
 |true=>obtain⟨h,hh,e⟩:=(i j af).1 d;obtain⟨c4,k⟩:=h4 h hh;have:=(Bk c4 f k b5).2 af;rw[l h hh]at this;cases this
theorem uz {b:dy}(V:Valid b)(hh:h∈me b k):H4 h/\h.length<=5:=by
 unfold me at hh;cases hs:b.ss[k]? with
 |none=>grind
 |some s=>
  rw[hs]at hh;simp only at hh;have n1:=V.n1;have n4:=V.n4;have sp:=V.sp s (ap hs);obtain⟨a,ha,_⟩:=sp.ha;have hl:(ju b s).length=s.t.length:=by simp only[ju,ha,bl]
  have c:=rR _ _ _ _ hh;have d:=sp.t5;exact⟨D6 af _ _ _ hh abN,bD⟩
theorem DF {b:dy}(V:Valid b)(j:Int)(c:Nat):Hr b j c=true↔ ∃h∈me b j.toNat,fG h=c:=by
 unfold Hr me;have n1:=V.n1;have n4:=V.n4;cases b.ss[j.toNat]? with
 |none=>simp
 |some s=>exact WZ af _ _
theorem yJ: ∀(l:List Int) (s k:Nat),(oH l s).testBit k=true↔s.testBit k=true\/ ∃j∈l,j.toNat=k
 |[],s,k=>by simp [oH]
 |n::l,s,k=>by simp only[oH];rw[yJ l _ k,uf];simp;exact or_assoc
theorem Jd (s u:Nat):vW (s:Int) u=true↔ ∀k,s.testBit k=true->u.testBit k=true:=by
 unfold vW;rw[beq_iff_eq,cr,e0];constructor;grind;intro h;apply e6;intro k;rw[Nat.testBit_and];cases hs:s.testBit k with
 |false=>simp
 |true=>grind
theorem pE {b:dy}{l:List Int}(hl:l≠[])(h:List Int):h∈lH (dB b) (oH l 0:Nat)↔ ∀j∈l,h∈me b j.toNat:=by
 unfold lH;rw[bI];constructor;rintro⟨e,he,rfl⟩ j c;obtain⟨i,f⟩:=b7.1 he;rw[Jd]at f;exact(Ga i _).1 (f _ ((yJ l 0 _).2 (.inr ⟨j,c,zz⟩)));intro a;obtain⟨m,d⟩:=b1 l hl;obtain⟨u,g⟩:=Qo (a m d);refine⟨(h,u),b7.2 ⟨g,?_⟩,zz⟩;rw[Jd];intro k hk;rcases (yJ l 0 k).1 hk with hk|⟨j,c,rfl⟩
 simp at hk;exact(Ga g _).2 (a j c)
section
variable {b:dy} (V:Valid b) {l:List Int} (hl:l≠[])
include V hl
theorem Y0: ∀h∈lH (dB b) (oH l 0:Nat),H4 h/\h.length<=5:=by intro h hh;obtain⟨c,a⟩:=b1 l hl;exact uz V ((pE hl h).1 hh c a)
theorem WL (c:Nat):Pd b l c=true↔ ∃h∈lH (dB b) (oH l 0:Nat),fG h=c:=by have e:l.isEmpty=false:=bD;simp only[Pd,e,Bool.not_false,hq,fy];constructor;intro a;obtain⟨k,i⟩:=b1 l hl;obtain⟨h,hh,hc⟩:=(DF V k c).1 (a k i);refine⟨h,(pE hl h).2 (λj f=>?_),hc⟩;obtain⟨g,hg,d⟩:=(DF V j c).1 (a j f);have:=Ra (uz V hh).1 (uz V hg).1 (hc.trans d.symm);rw[this];exact hg;rintro⟨h,hh,hc⟩ j f;exact(DF V j c).2 ⟨h,(pE hl h).1 hh j f,hc⟩
theorem H7 (hk:xF (dB b)):bM id (ld (Pd b l)) 0=if (gz (dB b) (oH l 0:Nat)).2=0 then -1 else(fG (gz (dB b) (oH l 0:Nat)).1:Int):=by obtain⟨a,e,d⟩:=uY hk (oH l 0:Nat);rw[Jh (Y0 V hl) (λc _=>WL V hl c) d,a];simp
end
theorem V5 (k:Nat):((2^k:Nat):Int)=(2:Int)^k:=aF
theorem ng (s:Int)(k:Nat)(h:0<=s):da s k=s.toNat.testBit k:=by rw[<-EW s k h,Nat.testBit_eq_decide_div_mod_eq];unfold AB;rw[cr];obtain⟨m,rfl⟩:=eS h;rw[cr,<-V5,<-Int.natCast_ediv,cB,decide_eq_true_iff,decide_eq_true_iff];omega
theorem wO {s:Int}{n:Nat}(f:0<s)(g:s<2^n): ∃k:Nat,k<n/\da s k=true:=by
 have a:s.toNat≠0:=af;obtain⟨k,hk⟩:=Nat.exists_testBit_of_ne_zero a;refine⟨k,?_,by rw[ng s k af];exact hk⟩;apply er;intro c;have b:s.toNat<2^k:=by have d:s.toNat<2^n:=bD;have e:2^n<=2^k:=bn af af;omega
 rw[Nat.testBit_lt_two_pow b]at hk;cases hk
theorem Cp {n:Nat}: ∀(xs:List bc) (h:List Int),(∀x∈xs,x.q=true\/ ∃k:Nat,k<n/\da x.s k=true)->dZ n xs h≠[]
 |[],h,_=>by simp [dZ]
 |x::xs,h,hx=>by
  intro e;simp only[dZ,List.append_eq_nil_iff,List.flatMap_eq_nil_iff,b7,b0]at e;rcases hx x aF with a|⟨k,hk,hg⟩
  rw[zy a]at e;exact Cp xs h (λy hy=>hx y (by simp [hy])) e.1;exact Cp xs _ (λy hy=>hx y (by simp [hy])) (e.2 k ⟨hk,hg⟩)
theorem Rr {ls:List bc}{c:Int}(h:0<=cT ls c):oh ls c∈ls/\ls[(cT ls c).toNat]? =some (oh ls c):=by
 obtain⟨_,x,hx,_⟩:=qv _ ls 0 af h;rw[hB]at hx;have hx:ls[(cT ls c).toNat]? =some x:=hx;have e:oh ls c=x:=by unfold oh;rw[hx];rfl
 rw[e];exact⟨ap hx,hx⟩
theorem TI {b:dy}(V:Valid b)(hk:k<b.ss.length):me b k≠[]:=by obtain⟨s,hs⟩:=bq hk;have sp:=V.sp s (ap hs);obtain⟨a,ha,hc⟩:=sp.ha;have ok:=V.ZJ a (ap ha);unfold me;rw[hs];apply Cp _ _;intro x hx;simp only[ju,ha]at hx;obtain⟨c,d,rfl⟩:=bI.1 hx;obtain⟨_,_,f,e,g⟩:=ok.acL _ (Rr (hc c d)).1;by_cases h:(oh a.ls c.toNat).s=0;grind;exact .inr (wO af e)
theorem Zj {l:List Int}:oH l 0≠0↔l≠[]:=by
 cases l with
 |nil=>simp [oH]
 |cons n l=>simp;intro h;have:(oH (n::l) 0).testBit n.toNat=true:=(yJ _ _ _).2 (.inr ⟨n,aF,zz⟩);rw[h]at this;simp at this
abbrev lists (l:List (List Nat)):AV:=.sl 1 (l.map λc=>[ints (dt c)])
theorem VB {s:Nat}{n:Nat}(h: ∀k,k<n->s.testBit k=p k):dx (s:Int) n=dt ((az n).filter p):=by unfold dx;congr 1;apply List.filter_congr;intro k hk;rw[ng _ _ af,cr];exact h k (b0.1 hk)
theorem rV (c:List Nat):(dt c).length=c.length:=bl _
section
variable {b:dy} (V:Valid b) (hk:xF (dB b)) (hn:1<=b.ss.length)
include V hk hn
end
theorem nr (c s:Int)(q:Bool):Ev ad 190 [U c,I s,B q] (.agg [U c,I s,B q]):=by refine ar ake.ok<|bE [.aT] zz cI<|Ik zz ⟨⟨zz,zz,zz,aG⟩,zq⟩<|ag (aq zz) (ab (gv (.inr zz) (.one (.nP (n:=some 3) (bN _ _ _) aX zz))))
def Ce:dy:=
 {n:=3
  al:=[⟨[114,111,109,97,110],[⟨97,1,false⟩,⟨101,3,false⟩,⟨107,4,false⟩,⟨104,0,true⟩]⟩,⟨[97,98,106,97,100],[⟨107,4,false⟩,⟨121,2,true⟩,⟨110,1,false⟩]⟩]
  ss:=[⟨0,[107,101]⟩,⟨1,[107,121]⟩,⟨0,[104,107,97]⟩,⟨1,[107,110]⟩]}
theorem Yw:Ev ad 91 [] (.agg Ce.ao):=by refine ar S91.ok<|bE [.aT] zz cI<|bE [.ret (.agg [U 97,I 1,B false]),.ret (.agg [U 101,I 3,B false]),.ret (.agg [U 107,I 4,B false]),.ret (.agg [U 104,I 0,B true]),.bY,.aT] zz ⟨nr 97 1 false,nr 101 3 false,nr 107 4 false,nr 104 0 true,zz,zz,ef,zq⟩<|ag (aq (t:=1) zz)<|bE [.ret (.agg [U 107,I 4,B false]),.ret (.agg [U 121,I 2,B true]),.ret (.agg [U 110,I 1,B false]),.bY,.aT] zz ⟨nr 107 4 false,nr 121 2 true,nr 110 1 false,zz,zz,ef,zq⟩<|ag (aq (t:=2) zz)<|bE [.bY,.bY] zz ⟨zz,zz,⟨zz,zz,zz,aG⟩,zq⟩<|ag (aq zz) (ab (gv (.inr zz) (.one (.nP (n:=some 3) (bN _ _ _) aX zz))))
theorem VF:Ce.wf:=by
 refine⟨aG,aG,?_,?_⟩;intro a ha;simp only[Ce,bs,ga,or_false]at ha;rcases ha with rfl|rfl
 refine⟨aG,?_⟩;intro x hx;simp at hx;rcases hx with rfl|rfl|rfl|rfl<;>exact⟨aG,aG,aG,aG⟩
 refine⟨aG,?_⟩;intro x hx;simp at hx;rcases hx with rfl|rfl|rfl<;>exact⟨aG,aG,aG,aG⟩
 intro s hs;simp only[Ce,bs,ga,or_false]at hs;rcases hs with rfl|rfl|rfl|rfl<;>exact⟨aG,aG,aG⟩
theorem IW (a:List Int):rq a a=true:=Es.2 zz
theorem zA (a:List Int):Ev ad 23 [ints a,ints a] (B true):=by have:=ZT a a;rw[IW]at this;exact this
theorem ub:ad.underlying 4=some .bool:=aX
theorem LI {g:List Int}(hh:H4 h)(hg:H4 g):Hf h g=true↔fG h<fG g:=by
 unfold Hf;by_cases hl:h.length=g.length;rw[zy hl];exact(zI hh hg hl).symm;rw[zj hl,decide_eq_true_iff];rcases Nat.lt_or_gt_of_ne hl with h1|h1
 exact⟨λ_=>yX hh h1,λ_=>h1⟩;have:=yX hg h1;exact⟨λ_=>af,λ_=>af⟩
theorem HG {g:List Int}(hh:H4 h/\h.length<=5)(hg:H4 g/\g.length<=5):Hf h g=cY h g:=by rw[cB,LI hh.1 hg.1,Bk hh.1 hg.1 hh.2 hg.2]
theorem MK {m:Int}{l:List Int}(h: ∀i∈l,0<=i/\i<m):ae 0 (m-1) l=false:=by unfold ae;rw[fk];intro x hx;have:=h x hx;simp;omega
theorem Mm {b:dy}(V:Valid b){m:Int}{l:List Int}(h: ∀i∈l,0<=i/\i<m):iD b m l=0:=by unfold iD;rw[zy (pc.2 V),MK h];rfl
section
variable {b:dy} (V:Valid b) (hw:b.wf)
include V hw
theorem JI:xF (dB b):=(DL hw (pc.2 V)).1
theorem Qz {l:List Int}(hl:l≠[])(ha:BJ l (-1)=true)(n: ∀j∈l,j<b.ss.length):
  (∃g,(∀j∈l,g∈me b j.toNat)/\(∀h,(∀j∈l,h∈me b j.toNat)->Hf h g=false)/\im b l=(g,0))\/((¬ ∃h,∀j∈l,h∈me b j.toNat)/\im b l=([],9)):=by
 have hk:=JI V hw;have i: ∀j∈l,0<=j/\j<b.ss.length:=by
  have key: ∀(l:List Int) (k:Int),BJ l k=true-> ∀j∈l,k<j:=by
   intro l;induction l with
   |nil=>intro k _ j hj;cases hj
   |cons x l o=>
    intro k h j hj;simp only[BJ,cb,decide_eq_true_eq]at h;rcases bs.1 hj with rfl|hj
    exact h.1;have:=o x h.2 j hj;omega
  intro j hj;have:=key l (-1) ha j hj;exact⟨af,n j hj⟩
 have hK:=λh=>pE (b:=b) hl h;obtain⟨c1,p,f⟩:=uY hk (oH l 0:Nat);unfold im;rw[zy (Mm V i),zy ⟨ha,Zj.2 hl⟩,c1];by_cases hx:(lH (dB b) (oH l 0:Nat)).length=0;right;rw[zy hx];refine⟨?_,zz⟩;rintro⟨h,hh⟩;have:=(hK h).2 hh;rw[eT.1 hx]at this;cases this;left;rw[zj hx];obtain⟨h4,m⟩:=f (λe=>hx (by rw[e];rfl));have c:=(hK _).1 h4;refine⟨_,c,λh hh=>?_,zz⟩;obtain⟨d,a⟩:=b1 l hl;rw[HG (uz V (hh d a)) (uz V (c d a))];exact m h ((hK h).2 hh)
end
def eW (p:List Nat):Nat:=p.foldl (λm k=>max m (k+1)) 0
theorem sf (p:List Nat)(k:Nat):eW (p++[k])=max (eW p) (k+1):=by unfold eW;rw[b3];rfl
def pM (p:List Nat):List (List Nat):=(az (eW p+1)).map λk=>p++[k]
def fg:Nat->List (List Nat)
 |0=>[[]]
 |n+1=>(fg n).flatMap pM
def ke:Nat->List Nat->List (List Nat)
 |0,p=>[p]
 |m+1,p=>(pM p).flatMap (ke m)
theorem xU: ∀(m:Nat) (p:List Nat),ke (m+1) p=(ke m p).flatMap pM
 |0,p=>by simp only[ke,fr,List.flatMap_nil,gR];exact List.flatMap_singleton' _
 |m+1,p=>by show (pM p).flatMap (ke (m+1))=((pM p).flatMap (ke m)).flatMap pM;rw[List.flatMap_assoc];congr 1;funext q;exact xU m q
theorem zo: ∀n:Nat,fg n=ke n []
 |0=>rfl
 |n+1=>by rw[xU,<-zo n];rfl
theorem AQ: ∀(m:Nat) (p:List Nat),∀q∈ke m p,q.length=p.length+m/\q.take p.length=p
 |0,p,q,h=>by simp only[ke,a8]at h;subst h;exact⟨zz,gm⟩
 |m+1,p,q,h=>by simp only[ke,cc,pM,bI,b0]at h;obtain⟨r,⟨k,hk,rfl⟩,c⟩:=h;obtain⟨b,a⟩:=AQ m (p++[k]) q c;rw[cd,e3]at b a;refine⟨af,?_⟩;have:=congrArg (List.take p.length) a;rw[List.take_take,Nat.min_eq_left af,List.take_left]at this;exact this
def ue (apart:Nat->Nat->Bool)(last:List Nat->Bool):Nat->List Nat->List (List Nat)
 |0,p=>if last p=true then[p]else[]
 |m+1,p=>(az (eW p+1)).flatMap λk=>if (az p.length).all (λj=> !(p[j]? ==some k&&apart j p.length))=true then ue apart last m (p++[k])else[]
def kJ (apart:Nat->Nat->Bool)(p:List Nat):Bool:=(az p.length).all λi=>(az i).all λj=> !(p[j]? ==p[i]? &&apart j i)
theorem tY (apart:Nat->Nat->Bool)(p:List Nat)(k:Nat):kJ apart (p++[k])=(kJ apart p&&(az p.length).all (λj=> !(p[j]? ==some k&&apart j p.length))):=by unfold kJ;rw[cd,e3,b8,List.all_append,e9,List.all_nil,Bool.and_true];congr 1;grind;grind
theorem Jg (apart:Nat->Nat->Bool){p:List Nat}(h:q.take p.length=p)(a:kJ apart q=true):kJ apart p=true:=by grind [kJ]
theorem xr (apart:Nat->Nat->Bool)(last:List Nat->Bool): ∀(m:Nat) (p:List Nat),kJ apart p=true->ue apart last m p=(ke m p).filter λq=>kJ apart q&&last q
 |0,p,h=>by simp only[ue,ke];by_cases hl:last p=true;rw[zy hl];simp [h,hl];rw[zj hl];simp [hl]
 |m+1,p,h=>by simp only[ue,ke,pM];rw[List.flatMap_map,List.filter_flatMap];congr 1;funext k;by_cases hk:(az p.length).all (λj=> !(p[j]? ==some k&&apart j p.length))=true;rw[zy hk];exact xr apart last m (p++[k]) (by rw[tY,h,hk];rfl);rw[zj hk];symm;rw[List.filter_eq_nil_iff];intro q b hc;simp only[cb]at hc;have a:=Jg apart (AQ m (p++[k]) q b).2 hc.1;rw[tY,cb]at a;exact hk a.2
structure fw where
 sp:Int
 v:Int
 lo:Int
 hi:Int
 eY:Int
 deriving DecidableEq
structure sr where
 a:Int
 b:Int
 same:Bool
 deriving DecidableEq
structure be where
 gK:dy
 tj:Int
 ms:List fw
 dN:List sr
variable {t:be}
abbrev Sp:=Int×Int
variable {d:List Sp}
def kw (x y:Sp):Sp:=(max x.1 (y.1-60),min x.2 (y.2-15))
def iJ (x y:Sp):Sp:=(max y.1 (x.1+15),min y.2 (x.2+60))
def cK (b:List Sp)(k:Nat):Sp:=(b[k]?).getD (0,0)
def gj (b:List Sp)(eY ch:Nat):List Sp:=(b.set eY (kw (cK b eY) (cK b ch))).set ch (iJ (cK b eY) (cK b ch))
def kG (b:List Sp)(eY ch:Nat):Bool:=decide (kw (cK b eY) (cK b ch)≠cK b eY)||decide (iJ (cK b eY) (cK b ch)≠cK b ch)
def kids (ms:List fw)(p:List Nat):List (Nat×Nat):=(az ms.length).filterMap λi=>match ms[i]? with
 |some x=>if x.eY= -1 then none else some ((p[x.eY.toNat]?).getD 0,(p[i]?).getD 0)
 |none=>none
def aV:List (Nat×Nat)->List Sp×Bool->List Sp×Bool
 |[],s=>s
 |(a,c)::l,s=>aV l (gj s.1 a c,s.2||kG s.1 a c)
def bR (b:List Sp):Bool:=b.any λs=>decide (s.1>s.2)
def jy (ks:List (Nat×Nat)):Nat->List Sp->List Sp
 |0,b=>b
 |f+1,b=>if bR b=true then b else if (aV ks (b,false)).2=true then jy ks f (aV ks (b,false)).1 else(aV ks (b,false)).1
def gb (b:List Sp):Nat:=(b.map λs=>(s.2-s.1).toNat).sum
def Bp (x y:Sp):Prop:=y.1<=x.1/\x.2<=y.2
def oU (b c:List Sp):Prop:=b.length=c.length/\ ∀k,Bp (cK b k) (cK c k)
theorem oU.refl (b:List Sp):oU b b:=⟨zz,λ_=>⟨et _,et _⟩⟩
theorem oU.trans {a b c:List Sp}(h:oU a b)(g:oU b c):oU a c:=
 ⟨h.1.trans g.1,λk=>⟨hz (g.2 k).1 (h.2 k).1,hz (h.2 k).2 (g.2 k).2⟩⟩
theorem pA (b:List Sp)(i k:Nat)(x:Sp)(h:i<b.length):cK (b.set i x) k=if i=k then x else cK b k:=by grind [cK]
theorem C0 {b:List Sp}{a c:Nat}(ha:a<b.length)(hc:c<b.length):oU (gj b a c) b/\(kG b a c=false->gj b a c=b):=by constructor;refine⟨by simp [gj],λk=>?_⟩;unfold gj;rw[pA _ _ _ _ bD,pA _ _ _ _ ha];by_cases d:c=k;rw[zy d];subst d;simp only[Bp,iJ];omega;rw[zj d];by_cases e:a=k;rw[zy e];subst e;simp only[Bp,kw];omega;rw[zj e];exact⟨et _,et _⟩;intro h;unfold kG at h;simp at h;unfold gj;rw[h.1,h.2];apply cx;intro k;rw[b6,b6];by_cases d:c=k;subst d;rw[zy zz,List.length_set,zy hc];unfold cK;rw[eM hc];rfl;rw[zj d];by_cases e:a=k;subst e;rw[zy zz,zy ha];unfold cK;rw[eM ha];rfl;rw[zj e]
theorem iv: ∀(ks:List (Nat×Nat)) (b:List Sp) (m:Bool),(∀k∈ks,k.1<b.length/\k.2<b.length)->oU (aV ks (b,m)).1 b/\((aV ks (b,m)).2=false->(aV ks (b,m)).1=b/\m=false)
 |[],b,m,_=>⟨oU.refl b,λh=>⟨zz,h⟩⟩
 |(a,c)::ks,b,m,h=>by obtain⟨ha,hc⟩:=h (a,c) aF;obtain⟨s1,g⟩:=C0 (b:=b) ha hc;have hl:=s1.1;obtain⟨e,f⟩:=iv ks (gj b a c) (m||kG b a c) (λk hk=>by rw[hl];exact h k (by simp [hk]));simp only[aV];refine⟨e.trans s1,λd=>?_⟩;obtain⟨g1,g2⟩:=f d;rw[bx]at g2;exact⟨by rw[g1];exact g g2.2,g2.1⟩
theorem AS (x:Sp)(b:List Sp):bR (x::b)=(decide (x.1>x.2)||bR b):=rfl
theorem Cr: ∀{b c:List Sp},oU b c->bR c=true->bR b=true
 |[],[],_,h=>h
 |[],_::_,h,_=>by have:=h.1;simp at this
 |_::_,[],h,_=>by have:=h.1;simp at this
 |x::b,y::c,h,g=>by
  have a:=h.2 0;have d:oU b c:=⟨by have:=h.1;simpa using this,λk=>by have:=h.2 (k+1);simpa [cK]using this⟩;rw[AS,dk,decide_eq_true_eq]at g ⊢;simp only[cK,Bp,b4,eU]at a;rcases g with g|g
  left;omega;right;exact Cr d g
theorem yC: ∀{b c:List Sp},oU b c->gb b<=gb c/\(bR b=false->gb b=gb c->b=c)
 |[],[],_=>⟨b9 _,λ_ _=>rfl⟩
 |[],_::_,h=>by have:=h.1;simp at this
 |_::_,[],h=>by have:=h.1;simp at this
 |x::b,y::c,h=>by
  have e:=h.2 0;have g:oU b c:=⟨by have:=h.1;simpa using this,λk=>by have:=h.2 (k+1);simpa [cK]using this⟩;obtain⟨l,i⟩:=yC g;simp only[cK,Bp,b4,eU]at e;have a:gb (x::b)=(x.2-x.1).toNat+gb b:=by simp [gb]
  have d:gb (y::c)=(y.2-y.1).toNat+gb c:=by simp [gb]
  rw[a,d];refine⟨af,λhe j=>?_⟩;rw[AS,bx,decide_eq_false_iff_not]at he;have f:=i he.2 af;have h4:x=y:=hG af af;rw[f,h4]
theorem oU.antisymm: ∀{b c:List Sp},oU b c->oU c b->b=c
 |[],[],_,_=>rfl
 |[],_::_,h,_=>by have:=h.1;simp at this
 |_::_,[],h,_=>by have:=h.1;simp at this
 |x::b,y::c,h,g=>by have e:=h.2 0;have a:=g.2 0;have f:oU b c:=⟨by have:=h.1;simpa using this,λk=>by have:=h.2 (k+1);simpa [cK]using this⟩;have d:oU c b:=⟨by have:=g.1;simpa using this,λk=>by have:=g.2 (k+1);simpa [cK]using this⟩;simp only[cK,Bp,b4,eU]at e a;rw[oU.antisymm f d,show x=y from hG af af]
theorem Kt {b:List Sp}{a c:Nat}(ha:a<b.length)(hc:c<b.length)(d:a≠c)(h:gj b a c=b):kG b a c=false:=by grind [cK,gj,kG]
theorem oN: ∀(ks:List (Nat×Nat)) (b:List Sp) (m:Bool),(∀k∈ks,k.1<b.length/\k.2<b.length/\k.1≠k.2)->(aV ks (b,m)).1=b->(aV ks (b,m)).2=m
 |[],b,m,_,_=>rfl
 |(a,c)::ks,b,m,h,e=>by obtain⟨ha,hc,d⟩:=h (a,c) aF;obtain⟨s1,_⟩:=C0 (b:=b) ha hc;have hl:=s1.1;simp only[aV]at e ⊢;obtain⟨f,_⟩:=iv ks (gj b a c) (m||kG b a c) (λk hk=>by rw[hl];exact⟨(h k (by simp [hk])).1,(h k (by simp [hk])).2.1⟩);rw[e]at f;have eb:gj b a c=b:=oU.antisymm s1 f;have em:=Kt ha hc d eb;rw[eb,em,cA]at e ⊢;exact oN ks b m (λk hk=>h k (by simp [hk])) e
section
variable {ks:List (Nat×Nat)}
theorem tS: ∀(f g:Nat) (b:List Sp),(∀k∈ks,k.1<b.length/\k.2<b.length/\k.1≠k.2)->gb b<f->gb b<g->jy ks f b=jy ks g b
 |0,_,_,_,h,_=>af
 |_,0,_,_,_,h=>af
 |f+1,g+1,b,hk,l,hg=>by
  simp only[jy];by_cases he:bR b=true;rw[zy he,zy he];rw[zj he,zj he];by_cases hm:(aV ks (b,false)).2=true;rw[zy hm,zy hm];obtain⟨s1,_⟩:=iv ks b false (λk h=>⟨(hk k h).1,(hk k h).2.1⟩);obtain⟨w1,j⟩:=yC s1;have c: ∀k∈ks,k.1<(aV ks (b,false)).1.length/\k.2<(aV ks (b,false)).1.length/\k.1≠k.2:=λk h=>(by rw[s1.1];exact hk k h);by_cases a:bR (aV ks (b,false)).1=true;have i: ∀n,jy ks n (aV ks (b,false)).1=(aV ks (b,false)).1:=by
   intro n;cases n with
   |zero=>rfl
   |succ n=>simp only[jy];rw[zy a]
  rw[i,i]
  have d:(aV ks (b,false)).1≠b:=λe=>(by rw[oN ks b false hk e]at hm;cases hm);have:gb (aV ks (b,false)).1≠gb b:=λh=>d (j (by simpa using a) h);exact tS f g _ c af af
  rw[zj hm,zj hm]
def lJ (ks:List (Nat×Nat))(b:List Sp):List Sp:=jy ks (gb b+1) b
theorem oK {b:List Sp}(h:bR b=true):lJ ks b=b:=by unfold lJ;simp only[jy];rw[zy h]
theorem uJ {b:List Sp}(h:bR b=false)(hm:(aV ks (b,false)).2=false):lJ ks b=(aV ks (b,false)).1:=by unfold lJ;simp only[jy];rw[zj (by simp [h]),zj (by simp [hm])]
theorem tQ {b:List Sp}(hk: ∀k∈ks,k.1<b.length/\k.2<b.length/\k.1≠k.2)(h:bR b=false)(hm:(aV ks (b,false)).2=true):lJ ks b=lJ ks (aV ks (b,false)).1:=by
 obtain⟨s1,_⟩:=iv ks b false (λk h=>⟨(hk k h).1,(hk k h).2.1⟩);have c: ∀k∈ks,k.1<(aV ks (b,false)).1.length/\k.2<(aV ks (b,false)).1.length/\k.1≠k.2:=λk h=>by rw[s1.1];exact hk k h
 by_cases a:bR (aV ks (b,false)).1=true;rw[oK a];unfold lJ;simp only[jy];rw[zj (by simp [h]),zy hm];cases j:gb b with
 |zero=>rfl
 |succ n=>simp only[jy];rw[zy a]
 obtain⟨w1,i⟩:=yC s1;have d:(aV ks (b,false)).1≠b:=λe=>by rw[oN ks b false hk e]at hm;cases hm
 have g:gb (aV ks (b,false)).1≠gb b:=λh=>d (i bD h);have f:lJ ks b=jy ks (gb b) (aV ks (b,false)).1:=by unfold lJ;simp only[jy];rw[zj (by simp [h]),zy hm]
 rw[f];exact tS _ _ _ c af af
theorem A0 {b:List Sp}(hk: ∀k∈ks,k.1<b.length/\k.2<b.length/\k.1≠k.2)(hm:(aV ks (b,false)).2=true)(he:bR (aV ks (b,false)).1=false):gb (aV ks (b,false)).1<gb b:=by
 obtain⟨s1,_⟩:=iv ks b false (λk h=>⟨(hk k h).1,(hk k h).2.1⟩);obtain⟨w1,d⟩:=yC s1;have a:(aV ks (b,false)).1≠b:=λe=>by rw[oN ks b false hk e]at hm;cases hm
 have c:gb (aV ks (b,false)).1≠gb b:=λh=>a (d he h);omega
end
theorem KE (n lo hi:Int):Ev ad 216 [I n,.pi [I lo],.pi [I hi]] (B (decide (n<lo)||decide (n>hi))):=by
 refine ar ahr.ok<|aJ zz ?_;by_cases h:n<lo
 refine vS [(8,true)] [] zz (by simp [h])<|ab (aD ?_);show B _=B _;simp [h]
 refine vS [(8,false)] [] zz (by simp [h])<|ab (aD ?_);show B _=B _;simp [h]
theorem nE (lo hi:Int)(l:List Int):Ev ad 105 [I lo,I hi,ints l] (B (ae lo hi l)):=by refine ar ahW.ok<|bE [.bY,.bY] zz eE<|bE [.ret (B (ae lo hi l))] zz ⟨jY l _ _ _ (λn _=>KE n lo hi),zq⟩<|ab (aD ?_);rfl
theorem Bt (set:Int)(n:Nat)(a:0<=set)(f:set<9223372036854775808)(g:n<=60):Ev ad 354 [I set,I n] (.aT 3 1 ((dx set n).map λx=>[I x])):=by
 refine ar ahI.ok<|aJ zz<|aa (aa ?_);refine cZ zz<|cj True (el [(4,.aT 3 1 ((dx set n).map λx=>[I x]))]) [] [] ?_ ?_
 refine gf (λk:Nat=>k<=n) (λk=>el [(0,I set),(4,.aT 3 1 ((dx set k).map λx=>[I x])),(6,I n),(7,I k)]) (λk=>n-k) 0 af
  (ai (bO.mM (t:=4) 3 1 zz) eL) ?_
 refine λk hk=>aJ zz<|aa (aj zz (λhc=>?_) (λhc=>?_))
 simp at hc;have d:0<=set/2^((k:Nat):Int).toNat:=gQ a (ht (eu af));have e:set/2^((k:Nat):Int).toNat<=set:=Int.ediv_le_self _ a;refine ak (aa (ay ?_));refine aJ zz<|aa<|fE zz ⟨⟨a,af,af⟩,⟨⟨d,af⟩,af,af⟩,zq⟩<|aj (b:=da set k) zz (λc=>?_) (λc=>?_)
 have hl:=oW set k;refine kn [.bY] zz ⟨zz,⟨by simp only[bl,chunk,bA,ds];omega,by simp only[bl,chunk,bA,ds];omega⟩,zq⟩<|fE zz bL ?_;refine⟨k+1,hc,af,au ⟨zz,?_,zz,zz,zq⟩⟩;rw[jd,c,ea];rfl
 refine ak<|fE zz bL ?_;refine⟨k+1,hc,af,au ⟨zz,?_,zz,zz,zq⟩⟩;show AV.aT 3 1 _=AV.aT 3 1 _;rw[jd,c];simp
 simp at hc;have:k=n:=af;subst this;exact aE ⟨(),zq,eL⟩
 refine λ_ _=>aJ zz ?_;exact ab (gv (.inr zz) (.aT zz zz))
abbrev fw.ao (x:fw):List AV:=[I x.sp,I x.v,I x.lo,I x.hi,I x.eY]
abbrev oF (l:List fw):AV:=.sl 5 (l.map fw.ao)
abbrev sr.ao (x:sr):List AV:=[I x.a,I x.b,B x.same]
abbrev qR (l:List sr):AV:=.sl 3 (l.map sr.ao)
abbrev be.ao (t:be):List AV:=t.gK.ao++[I t.tj,oF t.ms,qR t.dN]
structure fw.wf (x:fw):Prop where
 Pf: -9223372036854775808<=x.sp
 Oc:x.sp<=9223372036854775807
 v0: -9223372036854775808<=x.v
 v1:x.v<=9223372036854775807
 Xp: -9223372036854775808<=x.lo
 lo1:x.lo<=9223372036854775807
 uT: -9223372036854775808<=x.hi
 MR:x.hi<=9223372036854775807
 zL: -9223372036854775808<=x.eY
 zl:x.eY<=9223372036854775807
def nX (t:be)(x:fw)(at_:Int):Int:=
 if ((ae 0 ((t.gK.ss.length:Int)-1) [x.sp]||ae (-1) (t.tj-1) [x.v])||ae (-1) ((t.ms.length:Int)-1) [x.eY])=true then 4
 else if ae 0 199 [x.lo,x.hi]=true then 7
 else if x.hi<x.lo\/x.eY=at_ then 2 else 0
theorem Dk (t:be)(x:fw)(at_:Int)(l: -9223372036854775807<=t.tj)(m:t.tj<=9223372036854775807)(j:t.ms.length<=1000)(k:t.gK.ss.length<=1000):Ev ad 108 [.agg t.ao,I at_,.agg x.ao] (I (nX t x at_)):=by
 have e:(t.gK.ss.map cL.ao).length=t.gK.ss.length:=bl _;have d:(t.ms.map fw.ao).length=t.ms.length:=bl _;have b:=nE 0 (((t.gK.ss.map cL.ao).length:Int)-1) [x.sp];have b2:=nE (-1) (t.tj-1) [x.v];have f:=nE (-1) (((t.ms.map fw.ao).length:Int)-1) [x.eY];have i:=nE 0 199 [x.lo,x.hi];have a:nX t x at_=if ((ae 0 (((t.gK.ss.map cL.ao).length:Int)-1) [x.sp]||ae (-1) (t.tj-1) [x.v])||ae (-1) (((t.ms.map fw.ao).length:Int)-1) [x.eY])=true then 4
  else if ae 0 199 [x.lo,x.hi]=true then 7
  else if x.hi<x.lo\/x.eY=at_ then 2 else 0:=by rw[e,d];rfl
 generalize ae 0 (((t.gK.ss.map cL.ao).length:Int)-1) [x.sp]=c1 at b a;generalize ae (-1) (t.tj-1) [x.v]=c2 at b2 a;generalize ae (-1) (((t.ms.map fw.ao).length:Int)-1) [x.eY]=c3 at f a;generalize ae 0 199 [x.lo,x.hi]=c4 at i a;refine ar aks.ok<|bE [.bY,.bY] zz eE<|aU.pD<|eZ True (el [(1,I at_),(5,.pi x.ao),(7,B ((c1||c2)||c3))]) [] [] ?_ ?_
 ·cases c1 with
  |true=>refine kD [(17,true),(26,true)] [.bY,.ret (B true)] zz (by(repeat' (with_reducible apply ej));(all_goals first|exact zk _|((first|exact b)))) ?_;exact⟨(),zq,eL⟩
  |false=>
   cases c2 with
   |true=>refine kD [(17,false),(26,true)] [.bY,.ret (B false),.bY,.ret (B true)] zz (by(repeat' (with_reducible apply ej));(all_goals first|exact zk _|((first|exact b|exact b2)))) ?_;exact⟨(),zq,eL⟩
   |false=>refine kD [(17,false),(26,false)] [.bY,.ret (B false),.bY,.ret (B false),.bY,.ret (B c3)] zz (by(repeat' (with_reducible apply ej));(all_goals first|exact zk _|((first|exact b|exact b2|exact f)))) ?_;exact⟨(),zq,eL⟩
 refine λ_ _=>aj zz (λh=>?_) (λh=>?_);rw[zy h]at a;rw[a];refine aJ zz<|ab (aD ?_);rfl
 rw[zj (by simp [h])]at a;refine bE [.bY,.ret (B c4)] zz (by(repeat' (with_reducible apply ej));(all_goals first|exact zk _|((first|exact i)))) ?_;cases c4 with
 |true=>rw[zy zz]at a;rw[a];refine aC zz zz<|aJ zz<|ab (aD ?_);rfl
 |false=>
  rw[zj aG]at a;refine dm zz zz<|eZ True (el [(45,B (decide (x.hi<x.lo\/x.eY=at_)))]) [] [] ?_ ?_
  ·by_cases c:x.hi<x.lo
   ·have g:decide (x.lo>x.hi)=true:=decide_eq_true c;refine kD [(53,true)] [] zz (by(repeat' (with_reducible apply ej));(all_goals first|exact zk _|((skip)))) ?_;exact⟨(),zq,au ⟨by exact congrArg B (decide_eq_true (.inl c)).symm,zq⟩⟩
   have g:decide (x.lo>x.hi)=false:=decide_eq_false c;refine kD [(53,false)] [] zz (by(repeat' (with_reducible apply ej));(all_goals first|exact zk _|((skip)))) ?_;exact⟨(),zq,au ⟨by apply congrArg B;rw[cB];simp [c],zq⟩⟩
  refine λ_ _=>aj zz (λh=>?_) (λh=>ak ?_);rw[zy (of_decide_eq_true h)]at a;rw[a];refine aJ zz<|ab (aD ?_);rfl
  rw[zj (of_decide_eq_false h)]at a;rw[a];refine aJ zz<|ab (aD ?_);rfl
theorem RI (t:be)(x:fw)(i:Int)(c: -9223372036854775807<=t.tj)(d:t.tj<=9223372036854775807)(a:t.ms.length<=1000)(b:t.gK.ss.length<=1000):Ev ad 107 [I i,.agg x.ao,.pi t.ao] (I (nX t x i)):=by have e:=Dk t x i c d a b;refine ar ai7.ok<|bE [.bY] zz aK<|bE [.ret (I (nX t x i))] zz ⟨e,zq⟩<|ab (aD ?_);rfl
def DE (t:be)(x:sr):Int:=if ae 0 ((t.ms.length:Int)-1) [x.a,x.b]=true then 4 else if x.a=x.b then 2 else 0
theorem Re (t:be)(x:sr)(i:Int)(f:t.ms.length<=1000):Ev ad 110 [I i,.agg x.ao,.pi t.ao] (I (DE t x)):=by
 have e:(t.ms.map fw.ao).length=t.ms.length:=bl _;have b:=nE 0 (((t.ms.map fw.ao).length:Int)-1) [x.a,x.b];have d:DE t x=if ae 0 (((t.ms.map fw.ao).length:Int)-1) [x.a,x.b]=true then 4 else if x.a=x.b then 2 else 0:=by rw[e];rfl
 generalize ae 0 (((t.ms.map fw.ao).length:Int)-1) [x.a,x.b]=c at b d;refine ar aj2.ok<|bE [.bY] zz aK<|aU.pD<|bE [.bY,.ret (B c)] zz (by(repeat' (with_reducible apply ej));(all_goals first|exact zk _|((first|exact b)))) ?_;cases c with
 |true=>rw[zy zz]at d;rw[d];refine aC zz zz<|aJ zz<|ab (aD ?_);rfl
 |false=>
  rw[zj aG]at d;refine dm zz zz<|aJ zz ?_;by_cases h:x.a=x.b
  rw[zy h]at d;rw[d];refine aj (by exact congrArg B (by rw[beq_iff_eq];exact h)) (λ_=>?_) (λh=>by cases h);refine aJ zz<|ab (aD ?_);rfl
  rw[zj h]at d;rw[d];refine aj (by exact congrArg B (by rw[beq_eq_false_iff_ne];exact h)) (λh=>by cases h) (λ_=>ak ?_);refine aJ zz<|ab (aD ?_);rfl
instance:Inhabited fw:=⟨⟨0,0,0,0,0⟩⟩
instance:Inhabited sr:=⟨⟨0,0,false⟩⟩
theorem IZ (l:List fw)(g:Nat)(e:List AV)(f:Nat->Int)(h: ∀(i:Nat) (x:fw),l[i]? =some x->Ev ad g (I i::.agg x.ao::e) (I (f i))):
  Ev ad 106 [.sl 5 (l.map fw.ao),.fn (.func g) [] e] (.cG [I (aB f l.length 0).1,I (aB f l.length 0).2]):=by
 obtain⟨A,a,b,c,d⟩:=fO f l.length;generalize aB f l.length 0=r at *;have zh:=λk (hk:k<l.length)=>h k _ (bP hk)
 exact Ev.gl 0 zz aib.ok [] [(0,{n:=l.length,E:=λk=>[(1,.fn (.func g) [] e),(9,.sl 5 (l.map fw.ao)),(10,I l.length),(11,I k)],I:=A,K:=λk=>[(14,[.i (.cells (nx l k).ao)]),(16,[.fz 7]),(19,[.i (.ret (I (f k)))])]})]
theorem KR (l:List sr)(g:Nat)(e:List AV)(f:Nat->Int)(h: ∀(i:Nat) (x:sr),l[i]? =some x->Ev ad g (I i::.agg x.ao::e) (I (f i))):
  Ev ad 109 [.sl 3 (l.map sr.ao),.fn (.func g) [] e] (.cG [I (aB f l.length 0).1,I (aB f l.length 0).2]):=by
 obtain⟨A,a,b,c,d⟩:=fO f l.length;generalize aB f l.length 0=r at *;have zh:=λk (hk:k<l.length)=>h k _ (bP hk)
 exact Ev.gl 0 zz aii.ok [] [(0,{n:=l.length,E:=λk=>[(1,.fn (.func g) [] e),(9,.sl 3 (l.map sr.ao)),(10,I l.length),(11,I k)],I:=A,K:=λk=>[(14,[.i (.cells (nx l k).ao)]),(16,[.fz 7]),(19,[.i (.ret (I (f k)))])]})]
def kq (t:be)(i:Nat):Int:=match t.ms[i]? with|none=>0|some x=>nX t x i
def kA (t:be)(i:Nat):Int:=match t.dN[i]? with|none=>0|some x=>DE t x
def gV (t:be):Int×Int×Int:=
 if (check t.gK).2.2≠0 then(1,0,(check t.gK).2.2)
 else if ae 1 4 [t.tj]=true then(2,0,7)
 else if 5<t.ms.length then(3,0,3)
 else if (aB (kq t) t.ms.length 0).2≠0 then(3,(aB (kq t) t.ms.length 0).1,(aB (kq t) t.ms.length 0).2)
 else if 4<t.dN.length then(4,0,3)
 else if (aB (kA t) t.dN.length 0).2≠0 then(4,(aB (kA t) t.dN.length 0).1,(aB (kA t) t.dN.length 0).2)
 else(0,0,0)
structure be.wf (t:be):Prop where
 gK:t.gK.wf
 Zp: -9223372036854775808<=t.tj
 Rp:t.tj<=9223372036854775807
 ms: ∀x∈t.ms,x.wf
def be.m (t:be)(i:Nat):fw:=(t.ms[i]?).getD ⟨0,0,0,0,0⟩
theorem be.qI {i:Nat}{x:fw}(h:t.ms[i]? =some x):t.m i=x:=by unfold be.m;rw[h];rfl
def jn (b:dy)(s:Nat):Bool:=decide ((im b (dx (s:Int) b.ss.length)).2=0)
def vX (t:be)(a b:Nat):Int:=
 if jn t.gK (2^(t.m a).sp.toNat ||| 2^(t.m b).sp.toNat)=false then 1
 else if (t.m a).v≠(t.m b).v/\(t.m a).v≠ -1/\(t.m b).v≠ -1 then 2
 else if max (t.m a).lo (t.m b).lo>min (t.m a).hi (t.m b).hi then 3
 else if (t.m a).eY=b\/(t.m b).eY=a then 4 else 0
def oO (t:be)(p:List Nat)(k a:Nat):Nat:=(az k).foldl (λs i=>if aP p i=a then s ||| 2^(t.m i).sp.toNat else s) 0
def rz (t:be)(p:List Nat):Bool:=(az 6).all λa=>oO t p t.ms.length a==0||jn t.gK (oO t p t.ms.length a)
def Hy (p:List Nat)(x:sr):Bool:=(aP p x.a.toNat==aP p x.b.toNat)==x.same
def yd (t:be)(but:Nat->Bool)(p:List Nat):Bool:=(az t.dN.length).all λi=>but i||(match t.dN[i]? with|some x=>Hy p x|none=>true)
def BO (t:be)(p:List Nat):Bool:=(az t.ms.length).all λi=>(t.m i).eY== -1||(aP p (t.m i).eY.toNat !=aP p i&&
 (az i).all λk=>(t.m k).eY== -1||aP p k !=aP p i||aP p (t.m i).eY.toNat==aP p (t.m k).eY.toNat)
def gD (t:be)(p:List Nat)(k a:Nat):Sp:=(az k).foldl (λs i=>if aP p i=a then(max s.1 (t.m i).lo,min s.2 (t.m i).hi)else s) (0,199)
def jo (t:be)(p:List Nat)(w:Nat):List Sp:=(az w).map (gD t p t.ms.length)
def dH (t:be)(p:List Nat)(w:Nat):List Sp:=lJ (kids t.ms p) (jo t p w)
def jI (t:be)(p:List Nat):Bool:= !bR (dH t p 6)&&BO t p
def eG (t:be):List (List Nat):=ue (λj i=>vX t j i !=0) (jI t) t.ms.length []
def kM (t:be)(but:Nat->Bool):List (List Nat):=(eG t).filter λp=>rz t p&&yd t but p
def xE (p:List Nat)(a:Nat):List Nat:=(az p.length).filter λi=>aP p i==a
def BG (t:be):List Nat->Int->Bool
 |[],_=>true
 |i::l,v=>if (t.m i).v≠ -1/\v≠ -1/\(t.m i).v≠v then false else BG t l (max v (t.m i).v)
def B3 (b:dy)(l:List Int):Bool:=decide (0<=bM id (ld (Pd b l)) 0)
def xm (t:be)(l:List Nat):Bool:=BG t l (-1)&&(decide (l.length<2)||B3 t.gK (l.map λi=>(t.m i).sp))
def BP (t:be)(but:Nat->Bool)(p:List Nat):Bool:=
 (az (eW p)).all (λa=>xm t (xE p a))&&yd t but p&&(BO t p&& !bR (dH t p (eW p)))
def db (t:be)(but:Nat->Bool):List (List Nat):=(fg t.ms.length).filter (BP t but)
structure fw.OK (t:be)(i:Nat)(x:fw):Prop where
 Pf:0<=x.sp
 Oc:x.sp<t.gK.ss.length
 v0: -1<=x.v
 v1:x.v<t.tj
 zL: -1<=x.eY
 zl:x.eY<t.ms.length
 Xp:0<=x.lo
 lh:x.lo<=x.hi
 MR:x.hi<=199
 own:x.eY≠i
structure be.OK (t:be):Prop where
 gK:Valid t.gK
 wf:t.gK.wf
 Zp:1<=t.tj
 Rp:t.tj<=4
 zf:t.ms.length<=6
 R2: ∀(i:Nat) (x:fw),t.ms[i]? =some x->fw.OK t i x
 FJ:t.dN.length<=4
 tie: ∀x∈t.dN,0<=x.a/\x.a<t.ms.length/\0<=x.b/\x.b<t.ms.length/\x.a≠x.b
theorem be.OK.at (h:t.OK){i:Nat}(hi:i<t.ms.length):fw.OK t i (t.m i):=by obtain⟨x,hx⟩:=bq hi;rw[be.qI hx];exact h.R2 i x hx
theorem kQ (q:List Nat)(k i:Nat):aP (q++[k]) i=if i<q.length then aP q i else if i=q.length then k else 0:=by grind [aP]
structure yI (n:Nat)(p:List Nat):Prop where
 len:p.length=n
 lt: ∀i,i<n->aP p i<eW p
 le:eW p<=n
 on: ∀w,w<eW p-> ∃i,i<n/\aP p i=w
theorem Kc {n:Nat}(h:yI n q)(hk:k<=eW q):yI (n+1) (q++[k]) where
 len:=by rw[cd,h.len];rfl
 lt:=by
  intro i hi
  rw[sf,kQ,h.len]
  by_cases e:i<n
  ·rw[zy e]
   have:=h.lt i e
   omega
  ·grind
 le:=by
  rw[sf]
  have:=h.le
  omega
 on:=by
  intro w a
  rw[sf]at a
  by_cases e:w<eW q
  ·obtain⟨i,hi,he⟩:=h.on w e
   exact⟨i,af,by rw[kQ,h.len,zy hi];exact he⟩
  ·exact⟨n,af,by rw[kQ,h.len,zj af,zy zz];omega⟩
theorem N7:yI 0 []:=⟨zz,λi h=>af,b9 0,λw h=>by cases h⟩
theorem Jo {n:Nat}{p:List Nat}:p∈fg (n+1)↔ ∃q k,q∈fg n/\k<=eW q/\p=q++[k]:=by grind [only,fg,pM]
theorem jc: ∀{n:Nat} {p:List Nat},p∈fg n->yI n p
 |0,p,h=>by simp only[fg,a8]at h;subst h;exact N7
 |n+1,p,h=>by obtain⟨q,k,a,hk,rfl⟩:=Jo.1 h;exact Kc (jc a) hk
def Dj (t:be)(p:List Nat)(a:Nat):Prop:= ∃h,∀i,i<t.ms.length->aP p i=a->h∈me t.gK (t.m i).sp.toNat
theorem F3: ∀{l:List Nat} {k:Int},l.Pairwise (·< ·)->(∀x∈l,k<(x:Int))->BJ (dt l) k=true
 |[],_,_,_=>rfl
 |x::l,k,h,g=>by rw[List.pairwise_cons]at h;show (decide (k<(x:Int))&&BJ (dt l) (x:Int))=true;rw[Bool.and_eq_true,decide_eq_true_eq];exact⟨g x aF,F3 h.2 (λy hy=>by have:=h.1 y hy;omega)⟩
theorem Ec {b:dy}(V:Valid b)(q:b.wf){s:Nat}(hs: ∃k,k<b.ss.length/\s.testBit k=true):jn b s=true↔ ∃h,∀k,k<b.ss.length->s.testBit k=true->h∈me b k:=by
 have o:dx (s:Int) b.ss.length=dt ((az b.ss.length).filter λk=>s.testBit k):=VB (λk _=>rfl);unfold jn;rw[o,decide_eq_true_iff];obtain⟨r,f,e⟩:=hs;have hm: ∀{j:Int},j∈dt ((az b.ss.length).filter λk=>s.testBit k)↔ ∃k:Nat,k<b.ss.length/\s.testBit k=true/\j=k:=bD;have i:dt ((az b.ss.length).filter λk=>s.testBit k)≠[]:=List.ne_nil_of_mem (hm.2 ⟨r,f,e,zz⟩);have a:BJ (dt ((az b.ss.length).filter λk=>s.testBit k)) (-1)=true:=
  F3 (hE _ List.pairwise_lt_range) (λx _=>af)
 have p: ∀j∈dt ((az b.ss.length).filter λk=>s.testBit k),j<(b.ss.length:Int):=bD;rcases Qz V q i a p with⟨g,c,_,m⟩|⟨c,l⟩
 rw[m];refine⟨λ_=>⟨g,λk hk d=>?_⟩,λ_=>rfl⟩;have:=c (k:Int) (hm.2 ⟨k,hk,d,zz⟩);simpa using this;rw[l];refine⟨λh=>by simp at h,λ⟨g,hg⟩=>absurd ⟨g,λj n=>?_⟩ c⟩;obtain⟨k,hk,d,rfl⟩:=hm.1 n;simpa using hg k hk d
theorem AK (t:be)(p:List Nat)(k a:Nat):oO t p (k+1) a=if aP p k=a then oO t p k a ||| 2^(t.m k).sp.toNat else oO t p k a:=by unfold oO;rw[b8,b3];rfl
theorem rO (t:be)(p:List Nat)(a b:Nat): ∀k,(oO t p k a).testBit b=true↔ ∃i,i<k/\aP p i=a/\(t.m i).sp.toNat=b
 |0=>by constructor;intro h;simp [oO]at h;rintro⟨i,hi,_⟩;omega
 |k+1=>by rw[AK];have j:=rO t p a b k;by_cases e:aP p k=a;rw[zy e,ho,dk,j,e8];simp;constructor;rintro (⟨i,g,c,d⟩|h);exact⟨i,af,c,d⟩;exact⟨k,af,e,h⟩;rintro⟨i,g,c,d⟩;by_cases f:i=k;right;rw[<-f];exact d;left;exact⟨i,af,c,d⟩;rw[zj e,j];constructor;rintro⟨i,g,c,d⟩;exact⟨i,af,c,d⟩;rintro⟨i,g,c,d⟩;have f:i≠k:=λh=>e (by rw[<-h];exact c);exact⟨i,af,c,d⟩
theorem Ha {t:be}(h:t.OK)(p:List Nat)(a:Nat): ∀k,k<=t.ms.length->oO t p k a<32
 |0,_=>by show (0:Nat)<32;omega
 |k+1,hk=>by rw[AK];have b:=Ha h p a k af;have hm:=h.at (i:=k) af;have c:=h.gK.Xq;split;exact ey (n:=5) b (e7 af (by have:=hm.Pf;have:=hm.Oc;omega));exact b
theorem GM (h:t.OK){i:Nat}(hi:i<t.ms.length):(t.m i).sp.toNat<t.gK.ss.length:=by have hm:=h.at hi;have:=hm.Pf;have:=hm.Oc;omega
theorem FK (h:t.OK){p:List Nat}{a:Nat}(hi: ∃i,i<t.ms.length/\aP p i=a):jn t.gK (oO t p t.ms.length a)=true↔Dj t p a:=by obtain⟨j,uT,b⟩:=hi;rw[Ec h.gK h.wf ⟨_,GM h uT,(rO t p a _ _).2 ⟨j,uT,b,zz⟩⟩];refine exists_congr λg=>⟨λhg i hi he=>hg _ (GM h hi) ((rO t p a _ _).2 ⟨i,hi,he,zz⟩),λhg k _ f=>?_⟩;obtain⟨i,c,d,e⟩:=(rO t p a _ _).1 f;rw[<-e];exact hg i c d
theorem FR {p:List Nat}{a:Nat}:oO t p t.ms.length a=0↔ ¬ ∃i,i<t.ms.length/\aP p i=a:=by constructor;rintro h ⟨i,hi,he⟩;have:=(rO t p a _ _).2 ⟨i,hi,he,zz⟩;rw[h]at this;simp at this;intro h;apply e6;intro b;rw[gx,Bool.eq_false_iff];intro e;obtain⟨i,c,d,_⟩:=(rO t p a _ _).1 e;exact h ⟨i,c,d⟩
theorem NK (h:t.OK){a b:Nat}(ha:a<t.ms.length)(d:b<t.ms.length):jn t.gK (2^(t.m a).sp.toNat ||| 2^(t.m b).sp.toNat)=true↔ ∃g,g∈me t.gK (t.m a).sp.toNat/\g∈me t.gK (t.m b).sp.toNat:=by
 have c: ∀k,(2^(t.m a).sp.toNat ||| 2^(t.m b).sp.toNat).testBit k=true↔(t.m a).sp.toNat=k\/(t.m b).sp.toNat=k:=bD;rw[Ec h.gK h.wf ⟨_,GM h ha,(c _).2 (.inl zz)⟩];refine exists_congr λg=>⟨λhg=>⟨hg _ (GM h ha) ((c _).2 (.inl zz)),hg _ (GM h d) ((c _).2 (.inr zz))⟩,λ⟨f,i⟩ k _ hk=>?_⟩;rcases (c k).1 hk with e|e
 grind;grind
theorem La {b:dy}(V:Valid b)(f:b.wf){l:List Int}(hl:l≠[]):B3 b l=true↔ ∃h,∀j∈l,h∈me b j.toNat:=by
 have hk:=JI V f;unfold B3;rw[decide_eq_true_iff,H7 V hl hk];obtain⟨c,i,k⟩:=uY hk (oH l 0:Nat);have hm:=pE (b:=b) hl;rw[c];generalize lH (dB b) (oH l 0:Nat)=K at*
 constructor;intro h;by_cases hK:K.length=0;grind;have a:K≠[]:=λe=>hK (by rw[e];rfl);obtain⟨g,hg⟩:=b1 _ a;exact⟨g,(hm g).1 hg⟩;rintro⟨g,hg⟩;have d:g∈K:=(hm g).2 hg;have hK: ¬K.length=0:=bD;rw[zj hK];omega
def Y8 (x y:Int):Prop:=x= -1\/y= -1\/x=y
theorem KZ {t:be}: ∀{l:List Nat} {v:Int},-1<=v->(∀i∈l,-1<=(t.m i).v)->(BG t l v=true↔(∀i∈l,Y8 v (t.m i).v)/\ ∀i∈l,∀j∈l,Y8 (t.m i).v (t.m j).v)
 |[],v,_,_=>by simp [BG]
 |i::l,v,f,hl=>by
  have hi:=hl i aF;unfold BG;by_cases h:(t.m i).v≠ -1/\v≠ -1/\(t.m i).v≠v;rw[zy h];refine⟨λh=>by(cases h),λ⟨g,_⟩=>?_⟩;have:=g i aF;unfold Y8 at this;omega;rw[zj h,KZ (l:=l) (v:=max v (t.m i).v) af (λj hj=>hl j (by simp [hj]))];unfold Y8 at*
  constructor;rintro⟨a,b⟩;refine⟨λj hj=>?_,λj hj k hk=>?_⟩;rcases bs.1 hj with rfl|hj;omega;have:=a j hj;have:=hl j (by simp [hj]);omega;rcases bs.1 hj with d|hj2;rcases bs.1 hk with c|hk2;rw[d,c];omega;have:=a k hk2;have:=hl k (by simp [hk2]);rw[d];omega;have:=a j hj2;have:=hl j (by simp [hj2]);rcases bs.1 hk with c|hk2
  rw[c];omega;exact b j hj2 k hk2
  rintro⟨a,b⟩;refine⟨λj hj=>?_,λj hj k hk=>b j (by simp [hj]) k (by simp [hk])⟩;have a1:=a j (by simp [hj]);have e:=b i aF j (by simp [hj]);have:=hl j (by simp [hj]);omega
end Go.Px
