/- Part 7 of the proof of a statement of this seat (a logic of pure contracts; the functions; their contracts). No conditions. -/
import Derived.Test.YtbpalbakembgiaaGreatDoorA6
set_option linter.all false
open And renaming intro->az
open Bool renaming eq_iff_iff->a7,and_true->cd,true_and->dn,and_assoc->e1
open ByteArray renaming size->bk,mk->e9
open Classical renaming not_not->fu
open Function renaming comp_def->fv
open Go.Lib renaming countB->e2,count_miss->e3,splitK->e4,join_cons->e5,index->e8,splitB->fs,count->fy
open Go.Lit renaming int->ff
open Go.Program renaming keyLits->e0
open Go.Proofs.Any renaming strings_Join_none->c7
open Go.Proofs.Tryz renaming prog->ad,underlying149->ec,underlying516->ej
open Go.RowKit.Below renaming refl->cc
open Go.Utf8 renaming decode->bx
open Go.Value renaming string->bA,formed->fj,cells->fr
open Int renaming toNat_natCast->bI,pow_pos->cb,ediv_le_self->cy,ediv_nonneg->cD,toNat_of_nonneg->de,le_of_lt->ek,le_refl->eS,pow_succ->fb
open List renaming getElem?_eq_some_iff->an,mem_of_getElem?->ap,range->a6,length_cons->bl,mem_range->bm,length_map->bn,range_succ->bs,mem_iff_getElem?->bt,flatMap_cons->b1,getElem?_map->b6,mem_map->b7,size_toArray->b8,map_map->b9,all_cons->cr,map_cons->cx,getElem?_cons_zero->cA,take_of_length_le->cB,all_append->cR,take_succ_cons->dk,length_append->ds,mem_singleton->ea,all_eq_false->en,foldl_append->er,pairwise_map->et,take_add_one->eu,cons_append->ey,mem_flatMap->eM,nil_sublist->eP,isPrefixOf->eT,length_nil->eU,map_take->e6,mem_cons->e7,all_nil->fe
open List.Pairwise renaming imp->b0
open List.Sublist renaming refl->fx
open Nat renaming le_refl->a8,pow_lt_pow_right->c8,zero_le->fk,rec->fD
open Option.some renaming injEq->ew
set_option maxRecDepth 20000
set_option maxHeartbeats 4000000
namespace Go.Px
variable {k F q:Nat}{p:List Nat}{a:Int}{C:Nat->Prop}{o:Option (Nat×AV)}{e:Nat->Nat}{h:ln}{i:Value}{j:Type}{v:AV}
open Go.Proofs Go.MapKept
def kB (t:be)(x:fw):be:={t with ms:=t.ms++[x]}
theorem W2 {t:be}(h:t.OK)(p:t.ms.length<=5){x:fw}(hx:nX t x t.ms.length=0):(kB t x).OK:=by
 obtain⟨⟨a1,d⟩,⟨f,g⟩,⟨j,n⟩,k,l,m,b⟩:=zE.1 hx;have hl:(kB t x).ms.length=t.ms.length+1:=by simp [kB]
 refine⟨h.gK,h.wf,h.Zp,h.Rp,af,λi y hy=>?_,h.FJ,λy hy=>?_⟩;have a:(i<t.ms.length/\t.ms[i]? =some y)\/(i=t.ms.length/\y=x):=by simp only[kB]at hy;by_cases hi:i<t.ms.length;rw[List.getElem?_append_left hi]at hy;exact .inl ⟨hi,hy⟩;rw[List.getElem?_append_right af]at hy;have c:=(an.1 hy).1;simp at c;have e:i=t.ms.length:=af;subst e;rw[Nat.sub_self]at hy;exact .inr ⟨zz,by simpa using hy.symm⟩
 rcases a with⟨_,hi⟩|⟨rfl,rfl⟩;have o:=h.R2 i y hi;have:=o.zl;exact⟨o.Pf,o.Oc,o.v0,o.v1,o.zL,af,o.Xp,o.lh,o.MR,o.own⟩;exact⟨a1,d,f,g,j,af,k,l,m,b⟩
 have:=h.tie y hy;refine⟨this.1,?_,this.2.2.1,?_,this.2.2.2.2⟩<;>omega
def CQ (p:List Nat)(n:Nat)(s:Nat)(k:Nat):Nat:=(a6 k).foldl (λs i=>if aP p i=aP p n then s ||| 2^i else s) s
theorem FW (p:List Nat)(n s k:Nat):CQ p n s (k+1)=if aP p k=aP p n then CQ p n s k ||| 2^k else CQ p n s k:=by unfold CQ;rw[bs,er];rfl
theorem HU (p:List Nat)(n:Nat){s:Nat}(hs:s<32): ∀k,k<=5->CQ p n s k<32
 |0,_=>hs
 |k+1,hk=>by rw[FW];have a:=HU p n hs k af;split;exact Nat.or_lt_two_pow (n:=5) a (c8 af af);exact a
def zP (n:Nat)(L:List (List Nat)):Nat:=L.foldl (λs p=>CQ p n s n) 0
abbrev XI (n:Nat)(s:Nat)(p:List Nat):J×Nat:=(.go,CQ p n s n)
theorem I8 (n:Nat)(L:List (List Nat)):aZ (XI n) L 0=(.go,zP n L):=B4 (λ_ _=>rfl) L 0
theorem Gb (n:Nat)(h:n<=5)(L:List (List Nat)):zP n L<32:=by
 have key: ∀(L:List (List Nat)) (s:Nat),s<32->L.foldl (λs p=>CQ p n s n) s<32:=by
  intro L;induction L with
  |nil=>grind
  |cons p L a=>exact λs hs=>a _ (HU p n hs n h)
 exact key L 0 af
def vh (t:be)(x:fw):List Int×Int:=
 if ja t (uv t (nX t x t.ms.length))=0 then(dx (zP t.ms.length (db (kB t x) iR):Nat) t.ms.length,0)else([],ja t (uv t (nX t x t.ms.length)))
theorem Zr (t:be)(J:t.wf)(x:fw):Ev ad 261 [.agg t.ao,.agg x.ao] (.cG [ints (vh t x).1,I (vh t x).2]):=by
 have i:(t.ms.map fw.ao).length=t.ms.length:=bn _;refine ar alV.ok<|bE [.aT,.bY] zz eE<|bW (t:=2) zz λb2=>ag (aw zz)<|aa (aA ?_);refine mO [.at 0] 2 zz zz cI<|ah (cC (zu t J 352 [.po b2 0,.pi x.ao] (nX t x t.ms.length) [(b2,.cells 33 t.ao)] (λh=>by
  have z:=(jP J).1 h
  have:=z.1.gK.Xq
  have:=z.1.Zp
  have:=z.1.Rp
  exact XL t x b2 af af af af)) zz zz (aW _) zz ?_)
 rintro W L (⟨r,g1,g2,m,rfl,rfl⟩|⟨r,rfl,rfl⟩);case inr=>
  have C:vh t x=([],ja t (uv t (nX t x t.ms.length))):=by unfold vh;rw[zj r]
  rw[C];refine gk zz<|aa (aa ?_);refine cZ zz<|aj (b:=true) (by exact congrArg B bD) (λ_=>?_) (λh=>by cases h);refine aJ zz<|ag (bO.ky (t:=4) 1 zz)<|ab (fJ ?_ ?_)
  rfl;rfl
 obtain⟨y,_⟩:=nt.1 r;obtain⟨H,v⟩:=Gv.1 y;obtain⟨A,w⟩:=(jP J).1 H;have g:=W2 A w v;have R:(kB t x).ms.length=t.ms.length+1:=by simp [kB]
 have C:vh t x=(dx (zP t.ms.length (db (kB t x) iR):Nat) t.ms.length,0):=by unfold vh;rw[zy r]
 have E:kM (kB t x) (jm 0)=db (kB t x) iR:=by rw[G1,nR g]
 have o:(kB t x).ao=t.gK.ao++[I t.tj,.sl 5 (t.ms.map fw.ao++[x.ao]),qR t.dN]:=by simp only[kB,be.ao,oF,List.map_append,cx,List.map_nil]
 rw[C];refine gk zz<|aa (aa ?_);refine cZ zz<|aH zz zz<|ag (ai (aw (H':=m.heap g1 g2++[(b2,.cells 33 t.ao)]) zz) (dW (H':=[(b2,.cells 33 t.ao)]) (List.sublist_append_right _ _)))<|bE [.at 0,.aT] zz ⟨zz,zz,⟨zz,zz,zz,a8 1⟩,zq⟩<|ag (aq (t:=8) zz) ?_;have D:=Wj t.ms af;refine aa (zg [] [.at 0,.ret (.aT 133 5 (t.ms.map fw.ao)),.bY] zz ⟨zz,D,zz,⟨by simp only[i,chunk,bl,eU];omega,by simp only[i,chunk,bl,eU];omega⟩,zq⟩ ?_);refine aR (bO.gp (t:=29) zz)<|aY.hd (gs:=[]) (hs:=[.iL 0]) zz ⟨⟨zz,zz,zz,zz,(show 5<=6 from af)⟩,zq⟩<|ag (ai (aw (H':=[(b2,.cells 33 (kB t x).ao)]) (by rw[o];rfl)) (au (l:=[(2,.po b2 0),(8,.pi [I (t.ms.length:Nat)])]) ⟨zz,by show AV.pi [I _]=_;rw[i],zq⟩))<|bE [.aT] zz ⟨zz,⟨zz,zz,zz,a8 1⟩,zq⟩<|bW (t:=9) zz λd=>ag (aw (H':=[(d,.cells 3 [I (0:Nat)]),(b2,.cells 33 (kB t x).ao)]) zz)<|aa (aa (aA ?_));refine mO [.at 1] 1 zz zz cI<|ah (cC (Hin:=[]) (H0:=[(d,.cells 3 [I (0:Nat)]),(b2,.cells 33 (kB t x).ao)]) (IV (kB t x) 0) zz zz (aW _) zz ?_);rintro Y M ⟨g1,g2,rfl,rfl⟩;refine VR [.ret (.fn (.func 231) [] [.pi [tp (kB t x) 0 g1 g2]])] zz ⟨B6 (kB t x) 0 g1 g2,zq⟩<|ay<|aU.fair g (but:=0) af af (X:=Nat) (XI t.ms.length) (λs=>[(d,.cells 3 [I (s:Nat)])]) 0 (H0:=[(b2,.cells 33 (kB t x).ao)]) (MS.new _) (el [(8,.pi [I (t.ms.length:Nat)]),(9,.po d 0)]) zz zz (td jA zz) aG zz ?_ ?_
 intro l u p T m U _ hg;have f:(aZ (XI t.ms.length) u 0).2<32:=by rw[I8];exact Gb _ w u
 generalize (aZ (XI t.ms.length) u 0).2=s at f;obtain⟨Q,P⟩:=se g.zf hg;refine kn [.aT] zz ⟨zz,⟨zz,zz,zz,a8 6⟩,zq⟩ ?_;refine⟨zz,ag (aq (t:=10) zz) ?_⟩;refine iF [(8,.pi [I (t.ms.length:Nat)]),(9,.po d 0),(10,.pi (cN p))]<|ay<|aJ zz<|ay<|bJ (λk:Nat=>k<=t.ms.length) (λk=>el [(8,.pi [I (t.ms.length:Nat)]),(9,.po d 0),(10,.pi (cN p)),(36,I (t.ms.length:Nat)),(37,I k)]) (λk=>m.heap g1 g2++[(d,.cells 3 [I (CQ p t.ms.length s k:Nat)])]) (λ_=>[]) (λk=>t.ms.length-k) 0 af
  (ai (aw (H':=m.heap g1 g2++[(d,.cells 3 [I (CQ p t.ms.length s 0:Nat)])]) zz) (au (l:=[(8,.pi [I (t.ms.length:Nat)]),(9,.po d 0),(10,.pi (cN p)),(36,I (t.ms.length:Nat)),(37,I 0)]) ⟨zz,zz,zz,zz,zz,zq⟩)) ?_
 intro k hk;have K:=HU p t.ms.length f k af;have c:=FW p t.ms.length s k;refine aJ zz<|aa (aj zz (λhc=>?_) (λhc=>?_))
 simp only[nL]at hc;have l1:=oi (aP p) (k:=k) af;have l2:=oi (aP p) (k:=t.ms.length) af;have G:(2:Nat)^k<32:=(by have:=c8 (a:=2) (m:=k) (n:=5) af af;omega);have j:(1:Int)*2^((k:Nat):Int).toNat=((2^k:Nat):Int):=aF;have N:(1:Int)*2^((k:Nat):Int).toNat<32:=(by rw[j];exact Int.ofNat_lt.2 G);have O:0<=(1:Int)*2^((k:Nat):Int).toNat:=(by rw[j];exact Int.natCast_nonneg _);generalize CQ p t.ms.length s k=S at K c;refine ak (aa (ay ?_));refine aJ zz<|xe [] [.pre [I (aP p k:Nat)],.pre [I (aP p t.ms.length:Nat)]] zz ⟨⟨fR,l1⟩,⟨fR,l2⟩,zq⟩ ?_;by_cases he:aP p k=aP p t.ms.length
 rw[zy he]at c;refine aj (b:=true) (by show B _=B _;exact congrArg B (by rw[beq_iff_eq,he])) (λ_=>?_) (λh=>by cases h);refine zg [] [.at 2] zz ⟨zz,⟨af,af,af,af⟩,⟨⟨af,af⟩,af,af⟩,zq⟩<|aY.hd (gs:=[]) (hs:=[.iL 2]) zz ⟨⟨zz,zz,zz,zz,a8 1⟩,zq⟩<|fE zz bL ?_;refine⟨k+1,af,af,ai (aw ?_) eL⟩;show m.heap g1 g2++[(d,dp.cells _ [I ((((S:Nat):Int).toNat ||| ((1:Int)*2^((k:Nat):Int).toNat).toNat:Nat))])]=_;rw[c,j,bI,bI]
 rw[zj he]at c;refine aj (b:=false) (by show B _=B _;exact congrArg B (by rw[beq_eq_false_iff_ne];omega)) (λh=>by cases h) (λ_=>ak ?_);refine fE zz bL ?_;refine⟨k+1,af,af,ai (aw (by rw[c])) eL⟩
 simp only[nL]at hc;have e:k=t.ms.length:=af;subst e;exact aE ⟨zz,m,fx _⟩
 intro V Z;rw[E,I8];have F:=Gb t.ms.length w (db (kB t x) iR);generalize zP t.ms.length (db (kB t x) iR)=s at F;show aU _ _ _ _ _ _ _ _;have q:Ev ad 354 [I (s:Nat),I (t.ms.length:Nat)] (ints (dx (s:Nat) t.ms.length)):=eB (Bt (s:Nat) t.ms.length af af af);refine bE [.at 3,.ret (ints (dx (s:Nat) t.ms.length))] zz ⟨zz,q,zq⟩ ?_;exact ab ⟨.inr zz,_,⟨0,zz,zz⟩,.many aG ⟨.tmp zz zz,.tmp zz zz,zq⟩⟩
theorem Dn (lo hi a b:Int):ae lo hi [a,b]=(ae lo hi [a]||ae lo hi [b]):=by unfold ae;simp
def F0 (s:Sp)(a b:Int):Int:=if ae a b [s.1,s.2]=true then 7 else if s.2<s.1 then 2 else 0
theorem nI (p:List Nat)(h:k<p.length):p.take (k+1)=p.take k++[aP p k]:=by rw[eu,km h];rfl
structure Small (p:List Nat):Prop where
 len:p.length<=1000
 lt: ∀i,aP p i<=1000
theorem A5 {p:List Nat}(h: ∀i,aP p i<=1000): ∀k,k<=p.length->eW (p.take k)<=1001
 |0,_=>by show 0<=1001;omega
 |k+1,hk=>by rw[nI p af,sf];have:=A5 h k af;have:=h k;omega
def Z6 (p:List Nat)(a k:Nat):List Nat:=(a6 k).filter λi=>aP p i==a
theorem Jc (p:List Nat)(a k:Nat):Z6 p a (k+1)=Z6 p a k++(if (aP p k==a)=true then[k]else[]):=by unfold Z6;rw[bs,List.filter_append];congr 1;simp only[List.filter_cons,List.filter_nil]
theorem Z9 (p:List Nat)(a k:Nat):(Z6 p a k).length<=k:=by grind [aP,Z6]
abbrev Kw (b:List Sp):AV:=.sl 2 (b.map jr)
theorem zX {b:List Sp}(h:k<b.length):(b.map jr)[k]? =some (jr (cK b k)):=by rw[b6];unfold cK;rw[List.getElem?_eq_getElem h];rfl
theorem aef (n lo hi:Int):Ev ad 37 [I n,I lo,I hi] (B (decide (lo<=n)&&decide (n<=hi))):=Ev.gg S37.ok [] []
theorem TW (bits k:Int)(e:0<=bits)(f:bits<=9223372036854775807)(hk:k<=9223372036854775807):Ev ad 185 [I bits,I k] (B (AB bits k)):=by
 obtain⟨q,a,b,c,d⟩: ∃q:Nat->Int,q 0=bits/\(∀i,q (i+1)=q i/2)/\(∀i,0<=q i/\q i<=9223372036854775807)/\AB bits k=decide (q k.toNat%2=1):=⟨λi=>bits/2^i,by simp,λi=>by have g:(0:Int)<2^i:=cb (by omega);show bits/2^(i+1)=bits/2^i/2;rw[Int.ediv_ediv,zj (λh=>by omega),fb,Int.sub_zero],λi=>⟨cD e (ek (cb (by omega))),Int.le_trans (cy (2^i) e) f⟩,zz⟩
 rw[d];clear d;exact Ev.gg ahw.ok [] [(0,{n:=k.toNat,E:=λi=>[(0,I (q i)),(1,I k),(5,I i)]})]
theorem acK (l:List Int)(n:Int):Ev ad 288 [ints l,I n] (B (l.any (·==n))):=by
 obtain⟨A,a,b,c⟩:=WD (·==n) l
 exact Ev.gl 0 zz akf.ok [] [(0,{n:=l.length,E:=λk=>[(0,ints l),(1,I n),(5,B (A k)),(6,I k)],K:=λk=>[(17,[.i (.cells [I (nx l k)])])]})]
theorem Uy (l:List Bool):Ev ad 374 [SL l] (I (bM id l 0)):=by
 obtain⟨Z,a,b,c,d⟩:=uG id l;generalize bM id l 0=r at *
 exact Ev.gl 0 zz ama.ok [] [(0,{n:=l.length,E:=λk=>[(0,SL l),(3,I k)],I:=Z,K:=λk=>[(12,[.i (.cells [B (nx l k)])])]})]
theorem cO (n lo hi:Int):Ev ad 37 [I n,I lo,I hi] (B (!ae lo hi [n])):=by rw[<-abT];exact aef n lo hi
theorem J2 (c:UInt8):IntKind.i64.wrap (c.toNat:Int)=c.toNat:=fh af (by have:=c.toNat_lt;omega)
theorem VG (l:List UInt8)(hl:l.length<=9223372036854775807):Ev ad 278 [bh l] (B (eI l)):=by
 obtain⟨A,a,b,c⟩: ∃A:Nat->Bool,A 0=true/\(∀k,k<=l.length-> ¬k<l.length->A k=xS l 0)/\ ∀k,k<l.length->A (k+1)=(A k&&Lf k (nx l k).toNat):=
  ⟨λk=>fD true (λk b=>b&&Lf k (nx l k).toNat) k,zz,λk h g=>by
   have key: ∀k,k<=l.length->xS l 0=((fD true (λk b=>b&&Lf k (nx l k).toNat) k:Bool)&&xS (l.drop k) k):=by
    intro k;induction k with
    |zero=>intro _;show xS l 0=(true&&xS (l.drop 0) 0);simp
    |succ k j=>intro hk;rw[j (by omega),drop_cons (bP (show k<l.length by omega)),xS,e1]
   rw[key k h,drop_nil g,xS,cd],λk _=>rfl⟩
 have o: ∀k,Lf k (nx l k).toNat=((!ae 97 122 [((nx l k).toNat:Int)])||(decide (0<k)&&(((nx l k).toNat:Int)==46|| !ae 48 57 [((nx l k).toNat:Int)]))):=λk=>by unfold Lf;rw[a7];simp [ae];omega
 have d:eI l=(xS l 0&& !ae 1 16 [(l.length:Int)]):=by unfold eI;congr 1;rw[a7];simp [ae];omega
 simp only[o]at c;clear o;rw[d];clear d;generalize f:(!ae 1 16 [(l.length:Int)])=F
 have e: ∀k:Nat,k<l.length->l[k]? =some (nx l k):=λk h=>bP h
 have z:(⟨l.toArray⟩:ByteArray).size=l.length:=by simp [bk]
 have w:=λk=>J2 (nx l k)
 exact Ev.gg aly.ok [(8,[.ev (f▸cO l.length 1 16)])] [(0,{n:=l.length,E:=λk=>[(0,bh l),(3,B (F&&A k)),(4,I k)],K:=λk=>[(20,[.i (.byte (nx l k))]),(25,[.i (.byte (nx l k))]),(34,[.i (.byte (nx l k))]),(27,[.ev (cO (nx l k).toNat 48 57)]),(36,[.ev (cO (nx l k).toNat 97 122)])]})]
theorem Dt (l:List (List UInt8))(s:List UInt8):Ev ad 180 [strs l,bh s] (I (bM (λx=>x==s) l 0)):=by
 obtain⟨Z,a,b,c,d⟩:=uG (λx=>x==s) l;have t: ∀u:List UInt8,(⟨u.toArray⟩:ByteArray).toList=u:=λu=>by simp
 generalize bM (λx=>x==s) l 0=r at *
 exact Ev.gl 0 zz ajQ.ok [] [(0,{n:=l.length,E:=λk=>[(0,strs l),(1,bh s),(5,I k)],I:=Z,K:=λk=>[(13,[.i (.cells [bh (nx l k)])])]})]
theorem Dy (s:List UInt8)(hl:s.length<=9223372036854775807)(l:List (List UInt8)):Ev ad 171 [bh s,strs l] (I (dL s l)):=by
 have h:=Dt l s;have g:=qz (λx=>x==s) l 0 aG;generalize bM (λx=>x==s) l 0=r at *;unfold dL
 exact Ev.gg ahU.ok [(8,[.ev h]),(11,[.ev (VG s hl)])] []
theorem DJ (a:iB)(c:Int)(hl:a.ls.length<=1000):Ev ad 373 [.agg a.ao,U c] (I (cT a.ls c)):=by
 obtain⟨Z,e,b,f,d⟩:=uG (λx:bc=>x.c==c) a.ls;unfold cT;generalize bM (λx:bc=>x.c==c) a.ls 0=r at *
 exact Ev.gg aia.ok [(2,[.i .bY])] [(0,{n:=a.ls.length,E:=λk=>[(1,U c),(2,.pi a.ao),(5,I k)],I:=Z,K:=λk=>[(16,[.i (.cells (nx a.ls k).ao)])]})]
theorem Lx {f:Nat}(ok:sI ad f 14 [.tmp 2] ae9.lc)(n:Nat)(h:n<=61):Ev ad f [I n] (I (2^n-1)):=by
 obtain⟨q,a,b,c,d⟩: ∃q:Nat->Int,q 0=0/\(∀k,q (k+1)=2*q k+1)/\(∀k,k<=n->0<=q k/\q k<=2305843009213693951)/\(2:Int)^n-1=q n:=⟨λk=>2^k-1,zz,λk=>by show (2:Int)^(k+1)-1=2*(2^k-1)+1;rw[fb];omega,λk hk=>by have:=yL (k:=k) (by omega);have:(0:Int)<2^k:=cb (by omega);show 0<=(2:Int)^k-1/\(2:Int)^k-1<=2305843009213693951;omega,zz⟩
 rw[d];clear d;exact Ev.gg ok [] [(0,{n:=n,E:=λk=>[(0,I n),(3,I (q k)),(4,I k)]})]
theorem abo (n:Int)(a:0<=n)(b:n<62):Ev ad 372 [I n] (I (2^n.toNat-1)):=by have h:=Lx amk.ok n.toNat (by omega);rwa [de a]at h
structure kW where
 nm:List UInt8
 pe:Int
 fo:Int
 deriving DecidableEq
structure rc where
 sa:Int
 su:Int
 of:Int
 ba:Int
 ca:Bool
 deriving DecidableEq
structure EB where
 su:Int
 cl:Int
 deriving DecidableEq
structure gO where
 cl:List (List UInt8)
 su:List kW
 wo:List rc
 pa:List EB
 deriving DecidableEq
variable {c:gO}
def dv (f:Nat->Int)(n a:Nat):Int×Int:=if a<n then(0,3)else aB f n 0
def dT (l:List (List UInt8))(i:Nat):Int:=match l[i]? with
 |none=>0
 |some s=>if eI s=false then 6 else if (l.take i).contains s=true then 5 else 0
def tc (m:gO)(i:Nat):Int:=match m.su[i]? with
 |none=>0
 |some s=>if eI s.nm=false then 6 else if (m.su.take i).any (λy=>y.nm==s.nm)=true then 5 else if (ae 1 99 [s.pe]||ae 1 (2^m.cl.length-1) [s.fo])=true then 7 else 0
def rj (m:gO)(i:Nat):Int:=match m.wo[i]? with
 |none=>0
 |some w=>if ae 0 3 [w.sa]=true then 7
  else if (ae 0 ((m.su.length:Int)-1) [w.su]||ae 0 ((if 2<=w.sa then(m.su.length:Int)else m.cl.length)-1) [w.of]||ae (-1) ((m.wo.length:Int)-1) [w.ba])=true then 4
  else if w.ba=i\/(2<=w.sa/\w.of=w.su)then 2 else 0
def tD (m:gO)(i:Nat):Int:=match m.pa[i]? with
 |none=>0
 |some p=>if (ae 0 ((m.su.length:Int)-1) [p.su]||ae 0 ((m.cl.length:Int)-1) [p.cl])=true then 4 else 0
def ei (m:gO):Int×Int×Int:=
 if (dv (dT m.cl) m.cl.length 4).2≠0 then(1,(dv (dT m.cl) m.cl.length 4).1,(dv (dT m.cl) m.cl.length 4).2)
 else if (dv (tc m) m.su.length 5).2≠0 then(2,(dv (tc m) m.su.length 5).1,(dv (tc m) m.su.length 5).2)
 else if (dv (rj m) m.wo.length 6).2≠0 then(3,(dv (rj m) m.wo.length 6).1,(dv (rj m) m.wo.length 6).2)
 else if (dv (tD m) m.pa.length 5).2≠0 then(4,(dv (tD m) m.pa.length 5).1,(dv (tD m) m.pa.length 5).2)
 else(0,0,0)
def df (m:gO)(more:Nat):Nat:=(a6 m.wo.length).foldl (λs i=>match m.wo[i]? with|some w=>if w.ca=true then s ||| 2^i else s|none=>s) more
def qJ (m:gO)(came:Nat)(i:Nat):Bool:=(a6 m.wo.length).all (λk=> !(((m.wo[k]?).map (·.ba))==some (i:Int)&&came.testBit k))&&came.testBit i
def ZW (sa:Int)(a b:Int):Bool:=if sa=0\/sa=2 then a==b else a !=b
def Rl (m:gO)(came:Nat)(t:Nat->Nat)(a i:Nat):Bool:=match m.wo[i]? with
 |none=>true
 |some w=>if 2<=w.sa then !(max w.su w.of==(a:Int)&&qJ m came i&& !ZW w.sa (t w.su.toNat) (t w.of.toNat))else !(w.su==(a:Int)&&qJ m came i&& !ZW w.sa (t w.su.toNat) w.of)
def yA (m:gO)(came:Nat)(t:Nat->Nat)(a:Nat):Bool:=(a6 m.wo.length).all (Rl m came t a)
def JB (m:gO)(i c:Nat):Bool:=match m.su[i]? with
 |none=>false
 |some s=>s.fo.toNat.testBit c
def wR (m:gO)(came:Nat)(p:List Nat):List Nat:=(a6 m.cl.length).filter λc=>JB m p.length c&&yA m came (aP (p++[c])) p.length
def bu (m:gO)(came:Nat):List (List Nat):=du (wR m came) m.su.length []
def dI (L:List (List Nat))(i:Nat):Nat:=L.foldl (λs t=>s ||| 2^aP t i) 0
def ig (m:gO)(below:Int)(l:List Int):Int:=
 if (ei m).2.2≠0 then(ei m).2.2 else if ae 0 (below-1) l=true then 4 else if (bu m (df m 0)).isEmpty=true then 8 else 0
def vd (n:Nat):Bool:=n &&& (n-1)==0
def qY (m:gO)(a:Int):Int×Int:=
 if ig m m.su.length [a]≠0 then(0,ig m m.su.length [a])
 else if vd (dI (bu m (df m 0)) a.toNat)=false then(0,9)
 else((dx (dI (bu m (df m 0)) a.toNat:Nat) m.cl.length).headD 0,0)
def E7 (m:gO)(L:List (List Nat)):List Int:=((a6 m.su.length).filter λi=> !vd (dI L i)).map λ(i:Nat)=>(i:Int)
def rK (m:gO):List Int×Int:=
 if ig m 0 []≠0 then([],ig m 0 [])else(E7 m (bu m (df m 0)),0)
theorem KD (n lo hi:Int):Ev ad 221 [I n,.pi [I lo],.pi [I hi]] (B (decide (n<lo)||decide (n>hi))):=by
 refine ar ahy.ok<|aJ zz ?_;by_cases h:n<lo
 refine vS [(8,true)] [] zz (by simp [h])<|ab (aD ?_);show B _=B _;simp [h]
 refine vS [(8,false)] [] zz (by simp [h])<|ab (aD ?_);show B _=B _;simp [h]
theorem jl (lo hi:Int)(l:List Int):Ev ad 124 [I lo,I hi,ints l] (B (ae lo hi l)):=by refine ar amv.ok<|bE [.bY,.bY] zz eE<|bE [.ret (B (ae lo hi l))] zz ⟨jY l _ _ _ (λn _=>KD n lo hi),zq⟩<|ab (aD ?_);rfl
theorem GF (l:List (List UInt8))(s:List UInt8):Ev ad 137 [strs l,bh s] (I (bM (λx=>s==x) l 0)):=by
 refine ar aml.ok<|gn 0 zz λha=>?_;simp at ha;refine aJ zz<|aa<|aJ zz<|cj (bM (λx=>s==x) l 0= -1) (el []) [] [] ?_ ?_
 refine gf (λk:Nat=>k<=l.length/\bM (λx=>s==x) l 0=bM (λx=>s==x) (l.drop k) k) (λk=>el [(0,strs l),(1,bh s),(7,I l.length),(8,I k)]) (λk=>l.length-k) 0 nN
  (au ⟨zz,zz,by show I _=I _;simp,zz,zq⟩) ?_
 rintro k ⟨hk,hi⟩;refine aJ zz<|aa (aj zz (λhc=>?_) (λhc=>?_));simp at hc;obtain⟨x,hx⟩:=bq hc;rw[drop_cons hx,bM]at hi;refine ak (aa (ay ?_));refine aJ zz<|bE [.cells [bh x]] zz ⟨⟨af,by simp [hx]⟩,zq⟩<|aj zz (λa=>?_) (λa=>?_)
 have a:(s==x)=true:=(by simpa using a);refine aJ zz<|ab (aD ?_);rw[hi,a];rfl
 have a:(s==x)=false:=(by simpa using a);refine ak<|fE zz bL ?_;exact⟨k+1,⟨hc,by rw[hi,a];rfl⟩,af,eL⟩
 simp only[nL]at hc;refine aE ⟨(),?_,au zq⟩;rw[hi,drop_nil hc];rfl
 refine λ_ h=>aJ zz<|ab (aD ?_);rw[h];rfl
theorem nG (l:List (List UInt8))(s:List UInt8):Ev ad 59 [strs l,bh s] (B (l.contains s)):=by refine ar S59.ok<|aJ zz<|bE [.ret (I (bM (λx=>s==x) l 0))] zz ⟨GF l s,zq⟩<|ab (aD ?_);rw[qz _ l 0 af];apply congrArg B;rw[a7];simp
abbrev kW.ao (x:kW):List AV:=[bh x.nm,I x.pe,I x.fo]
abbrev rc.ao (x:rc):List AV:=[I x.sa,I x.su,I x.of,I x.ba,B x.ca]
abbrev EB.ao (x:EB):List AV:=[I x.su,I x.cl]
abbrev vi (l:List kW):AV:=.sl 3 (l.map kW.ao)
abbrev qD (l:List rc):AV:=.sl 5 (l.map rc.ao)
abbrev wJ (l:List EB):AV:=.sl 2 (l.map EB.ao)
abbrev gO.ao (m:gO):List AV:=[strs m.cl,vi m.su,qD m.wo,wJ m.pa]
structure gO.wf (m:gO):Prop where
 cl: ∀x∈m.cl,x.length<=9223372036854775807
 su: ∀x∈m.su,x.nm.length<=9223372036854775807
 cn:m.cl.length<=9223372036854775807
 sn:m.su.length<=9223372036854775807
 wn:m.wo.length<=9223372036854775807
 pn:m.pa.length<=9223372036854775807
structure pC where
 nu:Int
 wo:Int
 fa:Int
 ma:Int
 deriving DecidableEq
structure Ss where
 Li:Int
 th:Int
 deriving DecidableEq
structure mh where
 wo:Int
 fa:Int
 pe:List (List UInt8)
 la:Int
 co:List pC
 ru:List Ss
 deriving DecidableEq
def tF (c:mh)(i:Nat):Int:=match c.co[i]? with
 |none=>0
 |some x=>if ae 1 c.la [x.nu]=true then 7
  else if (decide (0<i)&&(match c.co[i-1]? with|some y=>decide (x.nu<=y.nu)|none=>false))=true then 2
  else if (ae 0 (2^c.wo.toNat-1) [x.wo]||ae 0 (2^c.fa.toNat-1) [x.fa]||ae 0 (2^c.pe.length-1) [x.ma])=true then 4 else 0
def tG (c:mh)(i:Nat):Int:=match c.ru[i]? with
 |none=>0
 |some x=>if (ae 0 (2^c.fa.toNat-1) [x.Li]||ae 0 (c.fa-1) [x.th])=true then 4 else if x.Li=0 then 2 else 0
def eK (c:mh):Int×Int×Int:=
 if (ae 1 5 [c.wo]||ae 1 6 [c.fa]||ae 0 30 [c.la])=true then(1,0,7)
 else if 3<c.pe.length then(2,0,3)
 else if (aB (dT c.pe) c.pe.length 0).2≠0 then(2,(aB (dT c.pe) c.pe.length 0).1,(aB (dT c.pe) c.pe.length 0).2)
 else if 6<c.co.length then(3,0,3)
 else if (aB (tF c) c.co.length 0).2≠0 then(3,(aB (tF c) c.co.length 0).1,(aB (tF c) c.co.length 0).2)
 else if 4<c.ru.length then(4,0,3)
 else if (aB (tG c) c.ru.length 0).2≠0 then(4,(aB (tG c) c.ru.length 0).1,(aB (tG c) c.ru.length 0).2)
 else(0,0,0)
def kt (c:mh)(p:Nat):Nat:=(a6 c.co.length).foldl (λs i=>match c.co[i]? with|some x=>if x.ma.toNat.testBit p=true then s ||| 2^i else s|none=>s) 0
def oc (l:List Int)(below:Int):Int×Int:=
 if ae 0 (below-1) l=true then(0,4)else if (a6 l.length).all (λi=>i==0||decide (l.getD (i-1) 0<l.getD i 0))=false then(0,2)else(((l.foldl (λ(s:Nat) (n:Int)=>s ||| 2^n.toNat) 0:Nat):Int),0)
def ib (c:mh)(l:List (Int×Int)):Int:=if (eK c).2.2≠0 then(eK c).2.2 else if l.any (λx=>ae 0 (x.2-1) [x.1])=true then 4 else 0
def qt (x:List pC×List Int)(n:Nat):List pC×List Int:=match x.1 with
 |y::r=>if y.nu=(n:Int)+1 then(r,x.2)else(x.1,x.2++[(n:Int)+1])
 |[]=>([],x.2++[(n:Int)+1])
def tB (c:mh):List Int×Int:=if ib c []≠0 then([],ib c [])else(((a6 c.la.toNat).foldl qt (c.co,[])).2,0)
def sB (c:mh)(i words:Nat):Bool:=match c.co[i]? with
 |none=>false
 |some x=>words &&& x.wo.toNat==words
def qM (c:mh)(p words:Nat):Nat:=(a6 c.co.length).foldl (λs i=>if ((kt c p).testBit i&&sB c i words)=true then s ||| 2^i else s) 0
def qq (c:mh)(p:Int)(words:List Int):List Int×Int:=
 if ib c [(p,c.pe.length)]≠0 then([],ib c [(p,c.pe.length)])
 else if (oc words c.wo).2≠0 then([],(oc words c.wo).2)
 else(dx (qM c p.toNat (oc words c.wo).1.toNat:Nat) c.co.length,0)
def uk (n:Nat):Nat->Nat->Nat->Nat->List Nat
 |_,_,0,set=>[set]
 |0,_,_+1,_=>[]
 |d+1,i,left+1,set=>if i+(left+1)<=n then uk n d (i+1) left (set ||| 2^i)++uk n d (i+1) (left+1) set else[]
def xf (c:mh)(p nu:Int):List Int×Int:=
 if ib c [(p,c.pe.length)]≠0 then([],ib c [(p,c.pe.length)])
 else if bM (λx=>x.nu==nu) c.co 0<0 then([],7)
 else if (kt c p.toNat).testBit (bM (λx=>x.nu==nu) c.co 0).toNat=false then([],2)
 else match ((a6 (c.wo.toNat+1)).flatMap λmany=>uk c.wo.toNat c.wo.toNat 0 many 0).find? (λs=>qM c p.toNat s==2^(bM (λx=>x.nu==nu) c.co 0).toNat)with
  |some s=>(dx (s:Nat) c.wo.toNat,0)
  |none=>([],9)
theorem Uk (l:List kW)(a:Nat)(g:Nat)(b:List AV)(f:Nat->Int)(j:l.length<=9223372036854775807)(h: ∀(i:Nat) (x:kW),l[i]? =some x->Ev ad g (I i::.agg x.ao::b) (I (f i))):
  Ev ad 120 [vi l,I a,.fn (.func g) [] b] (.cG [I (dv f l.length a).1,I (dv f l.length a).2]):=by
 refine ar akM.ok<|aJ zz<|aa (aa ?_)
 apply cZ zz;by_cases hm:a<l.length;refine aC zz bD<|aJ zz<|ab (fJ ?_ ?_)
 show I _=I _;unfold dv;rw[zy hm];show I _=I _;unfold dv;rw[zy hm]
 apply aH zz bD;rw[show dv f l.length a=aB f l.length 0 by unfold dv;rw[zj hm]];refine aa (aa ?_);refine cZ zz<|ag (au (l:=[(2,.fn (.func g) [] b),(15,vi l),(16,I l.length),(17,I (0:Nat))]) ⟨zz,zz,by show I _=I _;simp,zz,zq⟩)<|vu (.fn (.func g) [] b) (vi l) l.length f j zz zz (λk hk C Q K=>?_) (λenv d e=>?_) (λc=>?_)
 obtain⟨x,hx⟩:=bq hk;refine bE [.cells x.ao,.aT] zz ⟨⟨af,by simp [hx]⟩,zz,ef,zq⟩<|bE [.ret (I (f k))] zz ⟨h k x hx,zq⟩<|ag ?_ K;exact eL;exact gv (.inr zz) (.many aG ⟨.tmp d zz,.tmp e zz,zq⟩);refine aJ zz<|ab (fJ ?_ ?_)
 rw[c];rfl;rw[c];rfl
theorem Ti (l:List rc)(a:Nat)(g:Nat)(b:List AV)(f:Nat->Int)(j:l.length<=9223372036854775807)(h: ∀(i:Nat) (x:rc),l[i]? =some x->Ev ad g (I i::.agg x.ao::b) (I (f i))):
  Ev ad 125 [qD l,I a,.fn (.func g) [] b] (.cG [I (dv f l.length a).1,I (dv f l.length a).2]):=by
 refine ar ajS.ok<|aJ zz<|aa (aa ?_)
 apply cZ zz;by_cases hm:a<l.length;refine aC zz bD<|aJ zz<|ab (fJ ?_ ?_)
 show I _=I _;unfold dv;rw[zy hm];show I _=I _;unfold dv;rw[zy hm]
 apply aH zz bD;rw[show dv f l.length a=aB f l.length 0 by unfold dv;rw[zj hm]];refine aa (aa ?_);refine cZ zz<|ag (au (l:=[(2,.fn (.func g) [] b),(15,qD l),(16,I l.length),(17,I (0:Nat))]) ⟨zz,zz,by show I _=I _;simp,zz,zq⟩)<|vu (.fn (.func g) [] b) (qD l) l.length f j zz zz (λk hk C Q K=>?_) (λenv d e=>?_) (λc=>?_)
 obtain⟨x,hx⟩:=bq hk;refine bE [.cells x.ao,.aT] zz ⟨⟨af,by simp [hx]⟩,zz,ef,zq⟩<|bE [.ret (I (f k))] zz ⟨h k x hx,zq⟩<|ag ?_ K;exact eL;exact gv (.inr zz) (.many aG ⟨.tmp d zz,.tmp e zz,zq⟩);refine aJ zz<|ab (fJ ?_ ?_)
 rw[c];rfl;rw[c];rfl
theorem Wg (l:List EB)(a:Nat)(g:Nat)(b:List AV)(f:Nat->Int)(j:l.length<=9223372036854775807)(h: ∀(i:Nat) (x:EB),l[i]? =some x->Ev ad g (I i::.agg x.ao::b) (I (f i))):
  Ev ad 127 [wJ l,I a,.fn (.func g) [] b] (.cG [I (dv f l.length a).1,I (dv f l.length a).2]):=by
 refine ar ajf.ok<|aJ zz<|aa (aa ?_)
 apply cZ zz;by_cases hm:a<l.length;refine aC zz bD<|aJ zz<|ab (fJ ?_ ?_)
 show I _=I _;unfold dv;rw[zy hm];show I _=I _;unfold dv;rw[zy hm]
 apply aH zz bD;rw[show dv f l.length a=aB f l.length 0 by unfold dv;rw[zj hm]];refine aa (aa ?_);refine cZ zz<|ag (au (l:=[(2,.fn (.func g) [] b),(15,wJ l),(16,I l.length),(17,I (0:Nat))]) ⟨zz,zz,by show I _=I _;simp,zz,zq⟩)<|vu (.fn (.func g) [] b) (wJ l) l.length f j zz zz (λk hk C Q K=>?_) (λenv d e=>?_) (λc=>?_)
 obtain⟨x,hx⟩:=bq hk;refine bE [.cells x.ao,.aT] zz ⟨⟨af,by simp [hx]⟩,zz,ef,zq⟩<|bE [.ret (I (f k))] zz ⟨h k x hx,zq⟩<|ag ?_ K;exact eL;exact gv (.inr zz) (.many aG ⟨.tmp d zz,.tmp e zz,zq⟩);refine aJ zz<|ab (fJ ?_ ?_)
 rw[c];rfl;rw[c];rfl
theorem VC (l:List (List UInt8))(a:Nat)(g:Nat)(b:List AV)(f:Nat->Int)(j:l.length<=9223372036854775807)(h: ∀(i:Nat) (x:List UInt8),l[i]? =some x->Ev ad g (I i::bh x::b) (I (f i))):
  Ev ad 118 [strs l,I a,.fn (.func g) [] b] (.cG [I (dv f l.length a).1,I (dv f l.length a).2]):=by
 refine ar akb.ok<|aJ zz<|aa (aa ?_)
 apply cZ zz;by_cases hm:a<l.length;refine aC zz bD<|aJ zz<|ab (fJ ?_ ?_)
 show I _=I _;unfold dv;rw[zy hm];show I _=I _;unfold dv;rw[zy hm]
 apply aH zz bD;rw[show dv f l.length a=aB f l.length 0 by unfold dv;rw[zj hm]];refine aa (aa ?_);refine cZ zz<|ag (au (l:=[(2,.fn (.func g) [] b),(15,strs l),(16,I l.length),(17,I (0:Nat))]) ⟨zz,zz,by show I _=I _;simp,zz,zq⟩)<|vu (.fn (.func g) [] b) (strs l) l.length f j zz zz (λk hk C Q K=>?_) (λenv d e=>?_) (λc=>?_)
 obtain⟨x,hx⟩:=bq hk;refine bE [.cells [bh x]] zz ⟨⟨af,by simp [hx]⟩,zq⟩<|bE [.ret (I (f k))] zz ⟨h k x hx,zq⟩<|ag ?_ K;exact eL;exact gv (.inr zz) (.many aG ⟨.tmp d zz,.tmp e zz,zq⟩);refine aJ zz<|ab (fJ ?_ ?_)
 rw[c];rfl;rw[c];rfl
section
variable (m:gO) (hw:m.wf)
include hw
theorem Nv (i:Nat)(x:List UInt8)(hx:m.cl[i]? =some x):Ev ad 119 [I i,bh x,.pi m.ao] (I (dT m.cl i)):=by
 have f:=(an.1 hx).1;have e:=hw.cn;have a:dT m.cl i=if eI x=false then 6 else if (m.cl.take i).contains x=true then 5 else 0:=by unfold dT;rw[hx]
 have c:=vM x (hw.cl x (ap hx));have b:=nG (m.cl.take i) x;generalize eI x=d at a c;generalize (m.cl.take i).contains x=b2 at a b;refine ar als.ok<|aJ zz<|dw (dT m.cl i=0) (el []) [] [] ?_ ?_
 refine bE [.ret (B d)] zz ⟨c,zq⟩ ?_;cases d with
 |false=>rw[zy zz]at a;refine aC zz zz<|aJ zz<|ab (aD ?_);rw[a];rfl
 |true=>
  rw[zj aG]at a;refine dm zz zz<|bE [.yt [.sl 1 ((m.cl.take i).map λs=>[bh s]),bh x] (B b2)] zz ⟨⟨⟨zq,af⟩,aF,by simp;omega⟩,⟨b,gN (by rw[e6];rfl)⟩,zq⟩ ?_;cases b2 with
  |true=>rw[zy zz]at a;refine aC zz zz<|aJ zz<|ab (aD ?_);rw[a];rfl
  |false=>rw[zj aG]at a;exact aH zz zz ⟨(),a,au zq⟩
 refine λ_ h=>aJ zz<|ab (aD ?_);rw[h];rfl
theorem Jv (x y:kW):Ev ad 123 [.agg y.ao,.pi x.ao] (B (y.nm==x.nm)):=by have:=hw;refine ar akP.ok<|bE [.bY] zz aK<|aJ zz<|ab (aD ?_);show B _=B _;simp
theorem Qt (l:List kW)(g:Nat)(a:List AV)(p:kW->Bool)(h: ∀x∈l,Ev ad g (.agg x.ao::a) (B (p x))):Ev ad 220 [vi l,.fn (.func g) [] a] (I (bM p l 0)):=by have:=hw;refine vH aic.ok kW.ao 3 l p _ zz (λk x hx C Q K=>?_);refine bE [.cells x.ao,.ret (B (p x))] zz ⟨⟨af,by simp [hx]⟩,h x (ap hx),zq⟩<|ag ?_ K;exact eL
theorem LF (h4:m.cl.length<=4)(i:Nat)(x:kW)(hx:m.su[i]? =some x):Ev ad 121 [I i,.agg x.ao,.pi m.ao] (I (tc m i)):=by
 have p:=(an.1 hx).1;have t:=hw.sn;have a:tc m i=if eI x.nm=false then 6 else if (m.su.take i).any (λy=>y.nm==x.nm)=true then 5 else if (ae 1 99 [x.pe]||ae 1 (2^m.cl.length-1) [x.fo])=true then 7 else 0:=by unfold tc;rw[hx]
 have e:=vM x.nm (hw.su x (ap hx));have b:=yc aiu.ok (m.su.take i) (λy=>y.nm==x.nm) (Qt m hw (m.su.take i) 123 [.pi x.ao] (λy=>y.nm==x.nm) (λy _=>Jv m hw x y));have c:=jl 1 99 [x.pe];have d:=jl 1 (2^m.cl.length-1) [x.fo];generalize eI x.nm=j at a e;generalize (m.su.take i).any (λy=>y.nm==x.nm)=b2 at a b;generalize ae 1 99 [x.pe]=l at a c;generalize ae 1 (2^m.cl.length-1) [x.fo]=k at a d;refine ar akR.ok<|bE [.bY] zz aK<|dw (tc m i=0) (el []) [] [] ?_ ?_
 ·refine bE [.ret (B j)] zz ⟨e,zq⟩ ?_;cases j with
  |false=>rw[zy zz]at a;refine aC zz zz<|aJ zz<|ab (aD ?_);rw[a];rfl
  |true=>
  rw[zj aG]at a;refine dm zz zz<|bE [.yt [.sl 3 ((m.su.take i).map kW.ao),.fn (.func 123) [] [.pi x.ao]] (B b2)] zz ⟨⟨⟨zq,af⟩,aF,by simp;omega⟩,⟨b,gN (by rw[e6];rfl)⟩,zq⟩ ?_;cases b2 with
  |true=>rw[zy zz]at a;refine aC zz zz<|aJ zz<|ab (aD ?_);rw[a];rfl
  |false=>
  rw[zj aG]at a;apply dm zz zz;have f:((m.cl.map λs=>[bh s]).length:Int)=m.cl.length:=aF;have r:(2:Nat)^m.cl.length<=16:=by have:=Nat.pow_le_pow_right (n:=2) af h4;omega
  have q:(1:Nat)<=2^m.cl.length:=Nat.one_le_two_pow;have g:(1:Int)*2^(((m.cl.map λs=>[bh s]).length:Int)).toNat=((2^m.cl.length:Nat):Int):=by rw[f];simp
  have o:(1:Int)*2^(((m.cl.map λs=>[bh s]).length:Int)).toNat-1=2^m.cl.length-1:=by rw[g];simp
  rw[<-o]at d;cases l with
  |true=>rw[Bool.true_or,zy zz]at a;refine xe [(23,true)] [.bY,.ret (B true)] zz (by(repeat' (with_reducible apply az));(all_goals first|exact zk _|((first|exact c|rfl))))<|aC zz zz<|aJ zz<|ab (aD ?_);rw[a];rfl
  |false=>
  rw[Bool.false_or]at a;refine xe [(23,false)] [.bY,.ret (B false),.bY,.ret (B k)] zz (by(repeat' (with_reducible apply az));(all_goals first|exact zk _|((first|exact c|exact d|rfl)))) ?_;cases k with
  |true=>rw[zy zz]at a;refine aC zz zz<|aJ zz<|ab (aD ?_);rw[a];rfl
  |false=>rw[zj aG]at a;exact aH zz zz ⟨(),a,au zq⟩
 refine λ_ h=>aJ zz<|ab (aD ?_);rw[h];rfl
end
theorem Tr (n lo hi:Int):Ev ad 222 [I n,.pi [I lo],.pi [I hi]] (B (decide (n<lo)||decide (n>hi))):=by
 refine ar aih.ok<|aJ zz ?_;by_cases h:n<lo
 refine vS [(8,true)] [] zz (by simp [h])<|ab (aD ?_);show B _=B _;simp [h]
 refine vS [(8,false)] [] zz (by simp [h])<|ab (aD ?_);show B _=B _;simp [h]
theorem mG (lo hi:Int)(l:List Int):Ev ad 129 [I lo,I hi,ints l] (B (ae lo hi l)):=by refine ar al4.ok<|bE [.bY,.bY] zz eE<|bE [.ret (B (ae lo hi l))] zz ⟨jY l _ _ _ (λn _=>Tr n lo hi),zq⟩<|ab (aD ?_);rfl
abbrev pC.ao (x:pC):List AV:=[I x.nu,I x.wo,I x.fa,I x.ma]
abbrev Ss.ao (x:Ss):List AV:=[I x.Li,I x.th]
abbrev lQ (l:List pC):AV:=.sl 4 (l.map pC.ao)
abbrev PC (l:List Ss):AV:=.sl 2 (l.map Ss.ao)
abbrev mh.ao (c:mh):List AV:=[I c.wo,I c.fa,strs c.pe,I c.la,lQ c.co,PC c.ru]
structure mh.wf (c:mh):Prop where
 pe: ∀x∈c.pe,x.length<=9223372036854775807
 pn:c.pe.length<=9223372036854775807
 cn:c.co.length<=9223372036854775807
 rn:c.ru.length<=9223372036854775807
abbrev ad4:=List UInt8
theorem TP (l:List pC)(g:Nat)(a:List AV)(f:Nat->Int)(e:l.length<=9223372036854775807)(h: ∀(i:Nat) (x:pC),l[i]? =some x->Ev ad g (I i::.agg x.ao::a) (I (f i))):
  Ev ad 132 [lQ l,.fn (.func g) [] a] (.cG [I (aB f l.length 0).1,I (aB f l.length 0).2]):=by
 refine ar alo.ok<|aJ zz<|aa (aa ?_)
 refine cZ zz<|ag (au (l:=[(1,.fn (.func g) [] a),(9,lQ l),(10,I l.length),(11,I (0:Nat))]) ⟨zz,zz,by show I _=I _;simp,zz,zq⟩)<|vN (.fn (.func g) [] a) (lQ l) l.length f e zz zz (λk hk C Q K=>?_) (λenv c d=>?_) (λb=>?_)
 obtain⟨x,hx⟩:=bq hk;refine bE [.cells x.ao,.aT] zz ⟨⟨af,by simp [hx]⟩,zz,ef,zq⟩<|bE [.ret (I (f k))] zz ⟨h k x hx,zq⟩<|ag ?_ K;exact eL;exact gv (.inr zz) (.many aG ⟨.tmp c zz,.tmp d zz,zq⟩);refine aJ zz<|ab (fJ ?_ ?_)
 rw[b];rfl;rw[b];rfl
theorem SZ (l:List Ss)(g:Nat)(a:List AV)(f:Nat->Int)(e:l.length<=9223372036854775807)(h: ∀(i:Nat) (x:Ss),l[i]? =some x->Ev ad g (I i::.agg x.ao::a) (I (f i))):
  Ev ad 134 [PC l,.fn (.func g) [] a] (.cG [I (aB f l.length 0).1,I (aB f l.length 0).2]):=by
 refine ar akC.ok<|aJ zz<|aa (aa ?_)
 refine cZ zz<|ag (au (l:=[(1,.fn (.func g) [] a),(9,PC l),(10,I l.length),(11,I (0:Nat))]) ⟨zz,zz,by show I _=I _;simp,zz,zq⟩)<|vN (.fn (.func g) [] a) (PC l) l.length f e zz zz (λk hk C Q K=>?_) (λenv c d=>?_) (λb=>?_)
 obtain⟨x,hx⟩:=bq hk;refine bE [.cells x.ao,.aT] zz ⟨⟨af,by simp [hx]⟩,zz,ef,zq⟩<|bE [.ret (I (f k))] zz ⟨h k x hx,zq⟩<|ag ?_ K;exact eL;exact gv (.inr zz) (.many aG ⟨.tmp c zz,.tmp d zz,zq⟩);refine aJ zz<|ab (fJ ?_ ?_)
 rw[b];rfl;rw[b];rfl
theorem R3 (l:List ad4)(g:Nat)(a:List AV)(f:Nat->Int)(e:l.length<=9223372036854775807)(h: ∀(i:Nat) (x:ad4),l[i]? =some x->Ev ad g (I i::bh x::a) (I (f i))):
  Ev ad 130 [strs l,.fn (.func g) [] a] (.cG [I (aB f l.length 0).1,I (aB f l.length 0).2]):=by
 refine ar ag9.ok<|aJ zz<|aa (aa ?_)
 refine cZ zz<|ag (au (l:=[(1,.fn (.func g) [] a),(9,strs l),(10,I l.length),(11,I (0:Nat))]) ⟨zz,zz,by show I _=I _;simp,zz,zq⟩)<|vN (.fn (.func g) [] a) (strs l) l.length f e zz zz (λk hk C Q K=>?_) (λenv c d=>?_) (λb=>?_)
 obtain⟨x,hx⟩:=bq hk;refine bE [.cells [bh x]] zz ⟨⟨af,by simp [hx]⟩,zq⟩<|bE [.ret (I (f k))] zz ⟨h k x hx,zq⟩<|ag ?_ K;exact eL;exact gv (.inr zz) (.many aG ⟨.tmp c zz,.tmp d zz,zq⟩);refine aJ zz<|ab (fJ ?_ ?_)
 rw[b];rfl;rw[b];rfl
abbrev aeX (e:Int):Value:=.iface 149 (.agg #[.int .i64 e])
abbrev xz (e:Int):List PanicEntry:=[{v:=aeX e,recovered:=false}]
theorem aaM (d:(ff .i64 a).wf=true):bS ad 5 149 (.agg #[.int .i64 a]):=by have b:ad.cellsOf 149=1:=aX;have c:ad.cellsOf 50=1:=aX;refine⟨?_,[.int .i64 a],?_⟩;simp [fj,ec,b];simp [fr,e0,ec,Tryz.underlying50,b,c,d]
theorem dE (e:Int)(h:(ff .i64 e).wf=true):FX ad 78 [I e] [] (e==0) (.cG []) [] (xz e) (·=[]):=by
 refine cV S78.ok (kh [(2,[.i .aT]),(7,[.i (.op (B (e !=0)))])]) (lh []) ?_;repeat' first|apply aN|apply aM|apply aL|apply ax|apply az|(intro a;(try simp at a);(try contradiction))
 all_goals try exact fi _
 exact⟨λr N D=>Q1.of λK k=>aO.pK (m:=3) aG aX aX aX aX zz zz (aaM h) (aaM zz) (e==0) aF k⟩
theorem cu (so:Bool)(e:Int)(h:(ff .i64 e).wf=true)(he:e≠0):FX ad 72 [B so,I e] [] so (.cG []) [] (xz e) (·=[]):=FX.go S72.ok [(7,[.u 0 (dE e h)])] []
abbrev Wd:=List UInt8
variable {l:List Wd}
def ra (s w:Wd):Bool:=decide (s=[])||decide (s=w)
def GZ (f:List Wd->Nat)(w:Wd):List Wd->Nat
 |[]=>f []+1
 |s::ss=>if ra s w=true then min (f ss) (min (1+f (s::ss)) (1+GZ f w ss))else min (1+f ss) (min (1+f (s::ss)) (1+GZ f w ss))
def oG:List Wd->List Wd->Nat
 |[],ss=>ss.length
 |w::ws,ss=>GZ (oG ws) w ss
theorem HK (ws:List Wd):oG ws []=ws.length:=by
 induction ws with
 |nil=>rfl
 |cons w ws a=>simp only[oG,GZ,a,bl]
theorem JK (w:Wd)(ws:List Wd)(s:Wd)(ss:List Wd):oG (w::ws) (s::ss)=if ra s w=true then min (oG ws ss) (min (1+oG ws (s::ss)) (1+oG (w::ws) ss))else min (1+oG ws ss) (min (1+oG ws (s::ss)) (1+oG (w::ws) ss)):=rfl
theorem TB (w:Wd)(ws ss:List Wd):oG (w::ws) ss<=oG ws ss+1:=by
 cases ss with
 |nil=>simp [HK]
 |cons s ss=>rw[JK];split<;>omega
def zH:List Wd->List Wd->Bool
 |[],[]=>true
 |s::ss,w::ws=>ra s w&&zH ss ws
 |_,_=>false
theorem CZ: ∀{ss ws:List Wd},zH ss ws=true->ss.length=ws.length
 |[],[],_=>rfl
 |_::ss,_::ws,h=>by simp only[zH,Bool.and_eq_true]at h;simp [CZ h.2]
def gI:List Wd->List Wd->Nat
 |[],[]=>4
 |[],_::_=>3
 |_::_,[]=>2
 |w::ws,s::ss=>
  if ra s w=true then(if oG ws ss<=1+oG ws (s::ss)/\oG ws ss<=1+oG (w::ws) ss then 0 else if oG ws (s::ss)<=oG (w::ws) ss then 2 else 3)
  else(if oG ws ss<=oG ws (s::ss)/\oG ws ss<=oG (w::ws) ss then 1 else if oG ws (s::ss)<=oG (w::ws) ss then 2 else 3)
def mU (s:Wd):Bool:=(decide (1<=s.length)&&decide (s.length<=8))&&s.all λc=>decide (97<=c.toNat)&&decide (c.toNat<=122)
def iU (l:List Wd):Bool:=l.all mU
def cJ (l:List Wd):Int:=if 15<l.length then 3 else if iU l=true then 0 else 6
theorem lX:cJ l=0↔l.length<=15/\iU l=true:=by grind [cJ,iU]
structure Mark where
 k:Int
 w:Wd
 deriving DecidableEq
def ny:Nat->List Wd->List Wd->List Mark
 |0,_,_=>[]
 |f+1,ws,ss=>
  if gI ws ss=0 then⟨0,[]⟩::ny f ws.tail ss.tail
  else if gI ws ss=1 then⟨1,ss.headD []⟩::ny f ws.tail ss.tail
  else if gI ws ss=2 then⟨2,[]⟩::ny f ws.tail ss
  else if gI ws ss=3 then⟨3,ss.headD []⟩::ny f ws ss.tail
  else[]
def lB (a b:List Wd):Int:=if cJ a=0 then cJ b else cJ a
def jD (a b:List Wd):List Mark×Int×Int:=if lB a b=0 then(ny (a.length+b.length) a b,(oG a b:Nat),0)else([],0,lB a b)
theorem oQ {a b:List Wd}:lB a b=0↔cJ a=0/\cJ b=0:=by grind [lB,cJ]
structure Part where
 words:List Wd
 lo:Int
 hi:Int
 deriving DecidableEq
variable {b:List Part}
structure Form where
 name:Wd
 parts:List Part
 deriving DecidableEq
structure Shelf where
 w:Int
 bi:List Form
 deriving DecidableEq
def Part.roomy (p:Part):Bool:=decide (p.words=[])
def bK (ps:List Part):List (Int×Int):=(ps.filter Part.roomy).map λp=>(p.lo,p.hi)
def upto (lo hi:Int):List Nat:=(a6 (hi+1-lo).toNat).map λk=>lo.toNat+k
def jW:List (Int×Int)->List (List Nat)
 |[]=>[[]]
 |r::rs=>(upto r.1 r.2).flatMap λn=>(jW rs).map (n:: ·)
def sY (n:Nat):List Wd:=List.replicate n []
def gu:List Part->List Nat->List Wd
 |[],_=>[]
 |p::ps,ms=>if p.roomy=true then sY (ms.headD 0)++gu ps ms.tail else p.words++gu ps ms
def uo:List Part->List (List Wd)->List Wd
 |[],_=>[]
 |p::ps,a=>if p.roomy=true then a.headD []++uo ps a.tail else p.words++uo ps a
def ll:List Part->List Nat->List Wd->List (List Wd)
 |[],_,_=>[]
 |p::ps,ms,l=>if p.roomy=true then l.take (ms.headD 0)::ll ps ms.tail (l.drop (ms.headD 0))else ll ps ms (l.drop p.words.length)
def nS (ps:List Part)(l:List Wd):List (List Nat):=(jW (bK ps)).filter λm=>zH (gu ps m) l
theorem Je {lo hi:Int}(h:0<=lo){n:Nat}:n∈upto lo hi↔lo<=n/\(n:Int)<=hi:=by unfold upto;simp;constructor;grind;rintro⟨a,b⟩;exact⟨n-lo.toNat,af,af⟩
theorem J0 (lo hi:Int):(upto lo hi).Pairwise (·< ·):=by unfold upto;rw[et];exact b0 (λh=>af) List.pairwise_lt_range
def InR:List (Int×Int)->List Nat->Prop
 |[],[]=>True
 |r::rs,m::ms=>(r.1<=m/\(m:Int)<=r.2)/\InR rs ms
 |_,_=>False
def RNN (rs:List (Int×Int)):Prop:= ∀r∈rs,0<=r.1
theorem Jz: ∀{rs:List (Int×Int)} {ms:List Nat},RNN rs->(ms∈jW rs↔InR rs ms)
 |[],ms,_=>by simp only[jW,ea];cases ms<;>simp [InR]
 |r::rs,ms,h=>by
  have a:=h r aF;have b:=λms=>Jz (rs:=rs) (ms:=ms) (λx hx=>h x (by simp [hx]));simp only[jW,eM,b7];constructor;rintro⟨n,c,m,hm,rfl⟩;exact⟨(Je a).1 c,(b m).1 hm⟩;intro hm;cases ms with
  |nil=>exact hm.elim
  |cons m ms=>exact⟨m,(Je a).2 hm.1,ms,(b ms).2 hm.2,zz⟩
def Gx:List Nat->List Nat->Bool
 |_,[]=>false
 |[],_::_=>true
 |a::x,b::y=>if a=b then Gx x y else decide (a<b)
theorem JZ: ∀{rs:List (Int×Int)} {ms:List Nat},ms∈jW rs->ms.length=rs.length
 |[],ms,h=>by simp only[jW,ea]at h;subst h;rfl
 |r::rs,ms,h=>by simp only[jW,eM,b7]at h;obtain⟨n,_,m,hm,rfl⟩:=h;simp [JZ hm]
theorem Ba: ∀rs:List (Int×Int),(jW rs).Pairwise (λa b=>Gx a b=true)
 |[]=>by simp [jW]
 |r::rs=>by have d:=Ba rs;simp only[jW];rw[List.pairwise_flatMap];refine⟨?_,?_⟩;intro n _;rw[et];exact b0 (λh=>by simp only[Gx,if_true];exact h) d;refine b0 ?_ (J0 r.1 r.2);intro a b c x hx y hy;obtain⟨e,_,rfl⟩:=b7.1 hx;obtain⟨f,_,rfl⟩:=b7.1 hy;simp only[Gx];rw[zj af,decide_eq_true_iff];exact c
theorem yT: ∀a:List Nat,Gx a a=false
 |[]=>rfl
 |x::a=>by simp [Gx,yT a]
theorem MM (rs:List (Int×Int)):(jW rs).Nodup:=b0 (λ{a b} h e=>by rw[e,yT]at h;cases h) (Ba rs)
theorem Af: ∀{rs:List (Int×Int)},(∀r∈rs,0<=r.1/\r.2<=3)->(jW rs).length<=4^rs.length
 |[],_=>by simp [jW]
 |r::rs,h=>by
  obtain⟨b,c⟩:=h r aF;have a:=Af (rs:=rs) (λx hx=>h x (by simp [hx]));simp only[jW,List.length_flatMap,bn,List.map_const',List.sum_replicate_nat,bl];have:(upto r.1 r.2).length<=4:=by simp [upto];omega
  rw[Nat.pow_succ,Nat.mul_comm (4^rs.length)];exact Nat.mul_le_mul this a
theorem ul (p:Part)(ps:List Part):bK (p::ps)=if p.roomy=true then(p.lo,p.hi)::bK ps else bK ps:=by grind [bK]
def br (c:UInt8):List UInt8->List (List UInt8)
 |[]=>[[]]
 |x::l=>if x=c then[]::br c l else match br c l with
  |[]=>[[x]]
  |w::ws=>(x::w)::ws
theorem Gr (c:UInt8): ∀t,br c t≠[]
 |[]=>by simp [br]
 |x::l=>by simp only[br];split;simp;split<;>simp
structure IA (p:Part):Prop where
 w3:p.words.length<=3
 ok:iU p.words=true
 room:(p.words≠[]/\p.lo=0/\p.hi=0)\/(p.words=[]/\0<=p.lo/\p.lo<=p.hi/\1<=p.hi/\p.hi<=3)
structure Df (f:Form):Prop where
 p5:f.parts.length<=5
 parts: ∀p∈f.parts,IA p
theorem Nq {ps:List Part}{r:Int×Int}(h:r∈bK ps): ∃p∈ps,p.words=[]/\r=(p.lo,p.hi):=by grind [bK,Part.roomy]
theorem DK {ps:List Part}(h: ∀p∈ps,IA p): ∀r∈bK ps,0<=r.1/\r.1<=r.2/\1<=r.2/\r.2<=3:=by
 intro r b;obtain⟨p,a,c,rfl⟩:=Nq b;rcases (h p a).room with⟨g,_⟩|⟨_,g⟩
 grind;exact g
theorem RL (ps:List Part):(bK ps).length<=ps.length:=by unfold bK;rw[bn];exact List.length_filter_le _ _
def mH (p:Part):Int:=
 if 3<p.words.length then 3
 else if iU p.words=true then
  (if p.words≠[]then(if p.lo=0/\p.hi=0 then 0 else 2)else if (ae 0 3 [p.lo,p.hi]||decide (p.hi=0))=true then 7 else if p.hi<p.lo then 2 else 0)
 else 6
def lE (ps:List Part)(k:Nat):Int:=match ps[k]? with|none=>0|some p=>mH p
def iY (a:List Form)(i:Nat):Int:=match a[i]? with
 |none=>0
 |some f=>if eI f.name=true then(if (a.take i).any (λx=>x.name==f.name)=true then 5 else if 5<f.parts.length then 3 else(aB (lE f.parts) f.parts.length 0).2)else 6
def eh (s:Shelf):Int×Int×Int:=
 if ae 8 30 [s.w]=true then(1,0,7)
 else if 4<s.bi.length then(2,0,3)
 else if (aB (iY s.bi) s.bi.length 0).2=0 then(0,0,0)else(2,(aB (iY s.bi) s.bi.length 0).1,(aB (iY s.bi) s.bi.length 0).2)
structure DU (s:Shelf):Prop where
 w8:8<=s.w
 w30:s.w<=30
 f4:s.bi.length<=4
 bi: ∀f∈s.bi,eI f.name=true/\Df f
 names:(s.bi.map (·.name)).Nodup
theorem FZ {p:Part}:mH p=0↔IA p:=by
 unfold mH;by_cases e:3<p.words.length;rw[zy e];exact⟨λh=>(by cases h),λh=>absurd h.w3 af⟩;rw[zj e];by_cases c:iU p.words=true;case neg=>rw[zj c];exact⟨λh=>(by cases h),λh=>absurd h.ok c⟩
 rw[zy c];by_cases d:p.words≠[];rw[zy d];by_cases h4:p.lo=0/\p.hi=0;rw[zy h4];exact⟨λ_=>⟨af,c,.inl ⟨d,h4.1,h4.2⟩⟩,λ_=>rfl⟩;rw[zj h4];refine⟨λh=>(by cases h),λh=>?_⟩;rcases h.room with⟨_,a⟩|⟨a,_⟩
 exact absurd a h4;exact absurd a d
 rw[zj d];have b:p.words=[]:=fu.1 d;by_cases h4:(ae 0 3 [p.lo,p.hi]||decide (p.hi=0))=true;rw[zy h4];refine⟨λh=>(by cases h),λh=>?_⟩;rcases h.room with⟨a,_⟩|⟨_,a⟩
 exact absurd b a;exfalso;simp [ae]at h4;omega
 rw[zj h4];have g:0<=p.lo/\p.lo<=3/\0<=p.hi/\p.hi<=3/\p.hi≠0:=(by simp [ae]at h4;omega);by_cases f:p.hi<p.lo;rw[zy f];refine⟨λh=>(by cases h),λh=>?_⟩;rcases h.room with⟨a,_⟩|⟨_,a⟩
 exact absurd b a;omega
 rw[zj f];exact⟨λ_=>⟨af,c,.inr ⟨b,af,af,af,af⟩⟩,λ_=>rfl⟩
theorem Bx {f:Nat->Int}: ∀{m k:Nat},(aB f m k).2=0-> ∀j,k<=j->j<k+m->f j=0
 |0,k,_,j,b,c=>af
 |m+1,k,h,j,b,c=>by simp only[aB]at h;by_cases a:f k=0;rw[zy a]at h;by_cases e:j=k;subst e;exact a;exact Bx h j af af;rw[zj a]at h;exact absurd h a
theorem xY {f:Nat->Int}: ∀{m k:Nat},(∀j,k<=j->j<k+m->f j=0)->(aB f m k).2=0
 |0,k,_=>rfl
 |m+1,k,h=>by simp only[aB];rw[zy (h k af af)];exact xY (λj a b=>h j af af)
theorem CM {f:Nat->Int}{m:Nat}:(aB f m 0).2=0↔ ∀j,j<m->f j=0:=
 ⟨λh j a=>Bx h j af af,λh=>xY (λj _ a=>h j af)⟩
theorem BN {α β:Type}[DecidableEq β](f:α->β)(l:List α):(l.map f).Nodup↔ ∀(i:Nat) (x:α),l[i]? =some x-> ∀y∈l.take i,f y≠f x:=by constructor;intro h i x hx y hy e;obtain⟨j,a⟩:=bt.1 hy;rw[List.getElem?_take]at a;split at a;rename_i k;have c:(l.map f)[j]? =some (f x):=(by rw[b6,a];simp [e]);have d:(l.map f)[i]? =some (f x):=(by rw[b6,hx];rfl);obtain⟨a1,b⟩:=an.1 c;obtain⟨m,b2⟩:=an.1 d;have:=(List.getElem_inj h).1 (b.trans b2.symm);omega;cases a;intro h;rw[List.Nodup,List.pairwise_iff_getElem];intro i j hi a g e;simp at hi a;simp at e;refine h j l[j] aF l[i] ?_ e;rw[bt];exact⟨i,bD⟩
theorem Lq {ps:List Part}:(aB (lE ps) ps.length 0).2=0↔ ∀p∈ps,IA p:=by rw[CM];constructor;intro h p b;obtain⟨j,a⟩:=bt.1 b;have:=h j (an.1 a).1;unfold lE at this;rw[a]at this;exact FZ.1 this;intro h j a;unfold lE;have hx:ps[j]? =some ps[j]:=aF;rw[hx];exact FZ.2 (h _ (ap hx))
theorem zJ {a:List Form}{i:Nat}{f:Form}(e:a[i]? =some f):iY a i=0↔(eI f.name=true/\Df f)/\ ∀y∈a.take i,y.name≠f.name:=by
 simp only[iY,e];by_cases b:eI f.name=true;case neg=>rw[zj b];exact⟨λh=>(by cases h),λh=>absurd h.1.1 b⟩
 rw[zy b];by_cases c:(a.take i).any (λx=>x.name==f.name)=true;grind;rw[zj c];simp at c;by_cases d:5<f.parts.length;rw[zy d];exact⟨λh=>(by cases h),λh=>absurd h.1.2.p5 af⟩;rw[zj d,Lq];exact⟨λh=>⟨⟨b,af,h⟩,c⟩,λh=>h.1.2.parts⟩
theorem zF {s:Shelf}:(eh s).2.2=0↔DU s:=by
 unfold eh;by_cases b:ae 8 30 [s.w]=true;rw[zy b];refine⟨λh=>(by cases h),λh=>?_⟩;have:=h.w8;have:=h.w30;simp [ae]at b;omega;rw[zj b];have d:8<=s.w/\s.w<=30:=by simp [ae]at b;omega
 by_cases c:4<s.bi.length;rw[zy c];exact⟨λh=>(by cases h),λh=>absurd h.f4 af⟩;rw[zj c];have key:(aB (iY s.bi) s.bi.length 0).2=0↔(∀f∈s.bi,eI f.name=true/\Df f)/\(s.bi.map (·.name)).Nodup:=by rw[CM,BN];constructor;intro h;constructor;intro f e;obtain⟨i,hi⟩:=bt.1 e;exact((zJ hi).1 (h i (an.1 hi).1)).1;intro i f hi;exact((zJ hi).1 (h i (an.1 hi).1)).2;rintro⟨a,h4⟩ i hi;have hx:s.bi[i]? =some s.bi[i]:=aF;exact(zJ hx).2 ⟨a _ (ap hx),h4 i _ hx⟩
 by_cases a:(aB (iY s.bi) s.bi.length 0).2=0;rw[zy a];exact⟨λ_=>⟨d.1,d.2,af,(key.1 a).1,(key.1 a).2⟩,λ_=>rfl⟩;rw[zj a];exact⟨λh=>absurd h a,λh=>absurd (key.2 ⟨h.bi,h.names⟩) a⟩
def iw (s:Shelf)(n:Int):Int:=if (eh s).2.2=0 then(if ae 0 ((s.bi.length:Int)-1) [n]=true then 4 else 0)else(eh s).2.2
def rZ (e:Int)(l:List Wd):Int:=if e=0 then cJ l else e
def partsOf (s:Shelf)(n:Int):List Part:=match s.bi[n.toNat]? with|some f=>f.parts|none=>[]
def gh (s:Shelf)(n:Int)(l:List Wd):List (List Wd)×Int×Int:=
 if rZ (iw s n) l=0 then(match nS (partsOf s n) l with
  |[]=>([],0,9)
  |m::ms=>(ll (partsOf s n) m l,((m::ms).length:Nat),0))
 else([],0,rZ (iw s n) l)
theorem O7: ∀{rs:List (Int×Int)} {ms:List Nat} {i:Nat} {r:Int×Int} {m:Nat},InR rs ms->rs[i]? =some r->ms[i]? =some m->r.1<=m/\(m:Int)<=r.2
 |r0::rs,c::ms,0,r,m,h,a,b=>by simp only[cA,ew]at a b;subst a b;exact h.1
 |r0::rs,c::ms,i+1,r,m,h,a,b=>O7 h.2 (by simpa using a) (by simpa using b)
 |[],_,i,r,m,h,a,b=>by simp at a
 |_::_,[],i,r,m,h,a,b=>h.elim
theorem An: ∀(ps:List Part) (a:List (List Wd)),(∀p∈ps,p.words.length<=3)->(∀f∈a,f.length<=3)->(uo ps a).length<=3*ps.length
 |[],_,_,_=>by simp [uo]
 |p::ps,a,b,hf=>by
  simp only[uo];split;have d:=An ps a.tail (λq c=>b q (by simp [c])) (λf h=>hf f (List.mem_of_mem_tail h));have:(a.headD []).length<=3:=by
   cases a with
   |nil=>simp
   |cons f a=>exact hf f aF
  rw[ds,bl];omega
  have d:=An ps a (λq c=>b q (by simp [c])) hf;have:=b p aF;simp;omega
section
variable {s:Shelf} (V:DU s) {n:Nat} {f:Form} (hf:s.bi[n]? =some f)
include V hf
end
abbrev Part.ao (p:Part):List AV:=[strs p.words,I p.lo,I p.hi]
abbrev ic (l:List Part):AV:=.sl 3 (l.map Part.ao)
abbrev Form.ao (f:Form):List AV:=[bh f.name,ic f.parts]
abbrev uO (l:List Form):AV:=.sl 2 (l.map Form.ao)
abbrev Shelf.ao (s:Shelf):List AV:=[I s.w,uO s.bi]
abbrev Mark.ao (m:Mark):List AV:=[I m.k,bh m.w]
abbrev M4 (l:List Mark):AV:=.sl 2 (l.map Mark.ao)
abbrev sR (l:List (List Wd)):AV:=.sl 1 (l.map λf=>[strs f])
def M1 (s:Wd):Prop:=s.length<=9223372036854775807
def aaE (l:List Wd):Prop:= ∀s∈l,M1 s
structure Part.wf (p:Part):Prop where
 words:aaE p.words
 Xp: -9223372036854775808<=p.lo
 lo1:p.lo<=9223372036854775807
 uT: -9223372036854775808<=p.hi
 MR:p.hi<=9223372036854775807
structure Form.wf (f:Form):Prop where
 name:M1 f.name
 parts: ∀p∈f.parts,p.wf
structure Shelf.wf (s:Shelf):Prop where
 w0: -9223372036854775808<=s.w
 w1:s.w<=9223372036854775807
 bi: ∀f∈s.bi,f.wf
instance:Inhabited Form:=⟨⟨[],[]⟩⟩
theorem QZ (l:List Wd)(g:Nat)(e:List AV)(p:Wd->Bool)(h: ∀x∈l,Ev ad g (bh x::e) (B (p x))):Ev ad 70 [.sl 1 (l.map (λs=>[bh s])),.fn (.func g) [] e] (I (bM p l 0)):=by
 obtain⟨Z,a,b,c,d⟩:=uG p l;generalize bM p l 0=r at *;have zh:=λk (hk:k<l.length)=>h _ (dh hk)
 exact Ev.gl 0 zz S70.ok [] [(0,{n:=l.length,E:=λk=>[(0,.sl 1 (l.map (λs=>[bh s]))),(1,.fn (.func g) [] e),(7,I l.length),(8,I k)],I:=Z,K:=λk=>[(14,[.i (.cells [bh (nx l k)])]),(16,[.i (.ret (B (p (nx l k))))])]})]
theorem Hw (l:List Wd)(g:Nat)(a:List AV)(p:Wd->Bool)(h: ∀x∈l,Ev ad g (bh x::a) (B (p x))):Ev ad 30 [.sl 1 (l.map (λs=>[bh s])),.fn (.func g) [] a] (B (l.any p)):=by refine ar S30.ok<|aJ zz<|bE [.ret (I (bM p l 0))] zz ⟨QZ l g a p h,zq⟩<|ab (aD ?_);show B _=B _;rw[qz p l 0 af]
theorem RN (l:List Form)(g:Nat)(e:List AV)(p:Form->Bool)(h: ∀x∈l,Ev ad g (.agg x.ao::e) (B (p x))):Ev ad 204 [.sl 2 (l.map Form.ao),.fn (.func g) [] e] (I (bM p l 0)):=by
 obtain⟨Z,a,b,c,d⟩:=uG p l;generalize bM p l 0=r at *;have zh:=λk (hk:k<l.length)=>h _ (dh hk)
 exact Ev.gl 0 zz ahs.ok [] [(0,{n:=l.length,E:=λk=>[(0,.sl 2 (l.map Form.ao)),(1,.fn (.func g) [] e),(7,I l.length),(8,I k)],I:=Z,K:=λk=>[(14,[.i (.cells (nx l k).ao)]),(16,[.i (.ret (B (p (nx l k))))])]})]
theorem He (l:List Form)(g:Nat)(a:List AV)(p:Form->Bool)(h: ∀x∈l,Ev ad g (.agg x.ao::a) (B (p x))):Ev ad 101 [.sl 2 (l.map Form.ao),.fn (.func g) [] a] (B (l.any p)):=by refine ar alS.ok<|aJ zz<|bE [.ret (I (bM p l 0))] zz ⟨RN l g a p h,zq⟩<|ab (aD ?_);show B _=B _;rw[qz p l 0 af]
theorem Y4 (n lo hi:Int):Ev ad 202 [I n,.pi [I lo],.pi [I hi]] (B (decide (n<lo)||decide (n>hi))):=by
 refine ar ai6.ok<|aJ zz ?_;by_cases h:n<lo
 refine vS [(8,true)] [] zz (by simp [h])<|ab (aD ?_);show B _=B _;simp [h]
 refine vS [(8,false)] [] zz (by simp [h])<|ab (aD ?_);show B _=B _;simp [h]
theorem Ii (lo hi:Int)(l:List Int):Ev ad 99 [I lo,I hi,ints l] (B (ae lo hi l)):=by refine ar S99.ok<|bE [.bY,.bY] zz eE<|bE [.ret (B (ae lo hi l))] zz ⟨jY l _ _ _ (λn _=>Y4 n lo hi),zq⟩<|ab (aD ?_);rfl
def sL (c:Nat):Bool:=decide (97<=c)&&decide (c<=122)
theorem IT (l:Wd):mU l=(!ae 1 8 [(l.length:Int)]&&l.all λc=>sL c.toNat):=by unfold mU sL;congr 1;rw[a7];simp [ae];omega
theorem Zl (l:Wd):Ev ad 306 [bh l] (B (mU l)):=by
 refine ar akI.ok<|aJ zz<|aa (aa (aA ?_));refine aY.xq (gs:=[]) (hs:=[]) zz zq<|ah (aO.xD zz (λb=>?_));refine gk zz<|cj (l.all (λc=>sL c.toNat)=true) (el [(0,bh l)]) [] [] ?_ ?_
 ·refine bJ (λk:Nat=>k<=l.length/\l.all (λc=>sL c.toNat)=(l.drop k).all (λc=>sL c.toNat)) (λk=>el [(0,bh l),(6,.po b 0)]) (λk=>[(b,.raw (.stringIter ⟨l.toArray⟩ k))]) (λ_=>[]) (λk=>l.length-k) 0 nN
   eL ?_
  rintro k ⟨hk,hi⟩;refine aa (aA (ah (aO.TO (i:=0) zz zz (λd=>?_) (λd=>?_))))
  ·simp only[b8,bk]at d;obtain⟨c,hc⟩:=bq d;have hg:(e9 l.toArray).get! k=c:=(by have r:=(an.1 hc).2;show l.toArray[k]! =c;rw[getElem!_pos l.toArray k (by simpa using d)];simpa using r);rw[drop_cons hc,cr]at hi;have e:128<=c.toNat->128<=(bx ⟨l.toArray⟩ k).1:=λh=>zT _ _ (by rw[hg];exact h);have g:c.toNat<128->bx ⟨l.toArray⟩ k=(c.toNat,1):=λh=>(by rw[AD _ _ (by rw[hg];exact h),hg]);generalize s:bx ⟨l.toArray⟩ k=o at e g;obtain⟨u,n⟩:=o;simp only at e;have f:sL c.toNat=sL u/\(sL u=true->(u,n)=(c.toNat,1)):=(by by_cases j:c.toNat<128;have:=g j;simp at this;obtain⟨rfl,rfl⟩:=this;exact⟨zz,λ_=>rfl⟩;have:=e af;have p:sL c.toNat=false:=(by simp [sL];omega);have q:sL u=false:=(by simp [sL];omega);rw[p,q];exact⟨zz,λh=>by cases h⟩);refine gk zz<|aa (aj zz (λ_=>ak ?_) (λh=>by cases h));refine ay<|aJ zz<|eZ True (el [(0,bh l),(6,.po b 0),(15,B (!sL u))]) [(b,.raw (.stringIter ⟨l.toArray⟩ (k+n)))] [] ?_ ?_
   ·by_cases m:(u:Int)<97
    ·have g1:decide ((u:Int)<97)=true:=decide_eq_true m;refine kD [(12,true)] [] zz (by(and_intros);(all_goals try exact zt _)) ?_;refine⟨(),zq,au ⟨zz,zz,?_,zq⟩⟩;have:sL u=false:=(by simp [sL];omega);rw[this];rfl
    have g1:decide ((u:Int)<97)=false:=decide_eq_false m;refine kD [(12,false)] [] zz (by(and_intros);(all_goals try exact zt _)) ?_;refine⟨(),zq,au ⟨zz,zz,?_,zq⟩⟩;have:(!sL u)=decide ((u:Int)>122):=(by rw[a7];simp [sL];omega);rw[this];rfl
   refine λ_ _=>aj zz (λa=>?_) (λa=>?_);have a:sL u=false:=(by simpa using a);refine aJ zz<|ab (aD ?_);show B _=B _;rw[IT,hi,f.1,a];simp
   have a:sL u=true:=(by simpa using a);have:=f.2 a;simp at this;obtain⟨rfl,rfl⟩:=this;exact ak ⟨k+1,⟨d,by rw[hi,a,dn]⟩,af,eL⟩
  simp only[b8,bk]at d;refine gk zz<|aa (aj (b:=false) zz (λh=>by cases h) (λ_=>aE ⟨(),?_,?_⟩))
  rw[hi,drop_nil d];rfl;exact ai (bO.Kb 0) eL
 intro _ h;refine bE [.bY,.ret (B (ae 1 8 [(l.length:Int)]))] zz ⟨zz,Ii 1 8 [(l.length:Int)],zq⟩<|ab (aD ?_);show B _=B _;rw[IT,h,cd]
theorem L4 (s:Wd):Ev ad 305 [bh s] (B (!mU s)):=by refine ar ahj.ok<|aJ zz<|bE [.ret (B (mU s))] zz ⟨Zl s,zq⟩<|ab (aD ?_);rfl
theorem Fa (l:List Wd):Ev ad 205 [strs l] (I (if iU l=true then 0 else 6)):=by
 refine ar aje.ok<|aJ zz ?_;have hc:=Hw l 305 [] (λs=> !mU s) (λs _=>L4 s);have he:l.any (λs=> !mU s)= !iU l:=by unfold iU;rw[List.all_eq_not_any_not];simp
 rw[he]at hc;refine aa (aa ?_);refine kn [.ret (B (!iU l))] zz ⟨hc,zq⟩<|aj zz (λh=>?_) (λh=>ak ?_)
 have h:iU l=false:=by simpa using h
 rw[h];refine aJ zz<|ab (aD ?_);rfl
 have h:iU l=true:=by simpa using h
 rw[h];refine aJ zz<|ab (aD ?_);rfl
theorem uL (l:List Wd):Ev ad 223 [strs l] (I (cJ l)):=by
 refine ar amj.ok<|aJ zz<|aa (aa ?_);refine cZ zz<|aj zz (λh=>?_) (λh=>ak ?_)
 have h:15<l.length:=bD;refine aJ zz<|ab (aD ?_);show I _=I _;unfold cJ;rw[zy h]
 have h: ¬15<l.length:=bD;refine bE [.ret (I (if iU l=true then 0 else 6))] zz ⟨Fa l,zq⟩<|ab (aD ?_);show I _=I _;unfold cJ;rw[zj h]
instance:Inhabited kW:=⟨⟨[],0,0⟩⟩
instance:Inhabited qm:=⟨⟨[],[]⟩⟩
instance:Inhabited pC:=⟨⟨0,0,0,0⟩⟩
theorem W4 (l:List Form)(g:Nat)(a:List AV)(f:Form->Wd)(c:l.length<=1000000)(h: ∀x∈l,Ev ad g (.agg x.ao::a) (bh (f x))):Ev ad 237 [uO l,.fn (.func g) [] a] (strs (l.map f)):=by
 refine di ajL.ok (kh []) (lh [(0,{n:=l.length,E:=λk=>[(1,.fn (.func g) [] a),(5,.aT 9 1 ((l.take k).map λx=>[bh (f x)])),(8,uO l),(9,I l.length),(10,I k)],I:=λk=>True,K:=λk=>[(12,[.i (.cells (nx l k).ao)]),(17,[.i (.ret (bh (f (nx l k))))])]})]) ?_;repeat' first|apply aN|apply aM|apply aL|apply ax|apply az|(intro b;(try simp only[nL]at b);(try contradiction))
 all_goals try exact fi _
 exact⟨h _ (dh b)⟩;exact⟨zz,by rw[Ek b,b9];rfl⟩
theorem Vj (l:List qm)(g:Nat)(a:List AV)(f:qm->Wd)(c:l.length<=1000000)(h: ∀x∈l,Ev ad g (.agg x.ao::a) (bh (f x))):Ev ad 239 [mW l,.fn (.func g) [] a] (strs (l.map f)):=by
 refine di ajU.ok (kh []) (lh [(0,{n:=l.length,E:=λk=>[(1,.fn (.func g) [] a),(5,.aT 9 1 ((l.take k).map λx=>[bh (f x)])),(8,mW l),(9,I l.length),(10,I k)],I:=λk=>True,K:=λk=>[(12,[.i (.cells (nx l k).ao)]),(17,[.i (.ret (bh (f (nx l k))))])]})]) ?_;repeat' first|apply aN|apply aM|apply aL|apply ax|apply az|(intro b;(try simp only[nL]at b);(try contradiction))
 all_goals try exact fi _
 exact⟨h _ (dh b)⟩;exact⟨zz,by rw[Ek b,b9];rfl⟩
theorem TE (l:List kW)(g:Nat)(a:List AV)(f:kW->Wd)(c:l.length<=1000000)(h: ∀x∈l,Ev ad g (.agg x.ao::a) (bh (f x))):Ev ad 241 [vi l,.fn (.func g) [] a] (strs (l.map f)):=by
 refine di ahB.ok (kh []) (lh [(0,{n:=l.length,E:=λk=>[(1,.fn (.func g) [] a),(5,.aT 9 1 ((l.take k).map λx=>[bh (f x)])),(8,vi l),(9,I l.length),(10,I k)],I:=λk=>True,K:=λk=>[(12,[.i (.cells (nx l k).ao)]),(17,[.i (.ret (bh (f (nx l k))))])]})]) ?_;repeat' first|apply aN|apply aM|apply aL|apply ax|apply az|(intro b;(try simp only[nL]at b);(try contradiction))
 all_goals try exact fi _
 exact⟨h _ (dh b)⟩;exact⟨zz,by rw[Ek b,b9];rfl⟩
theorem KG (l:List Int)(g:Nat)(a:List AV)(f:Int->Wd)(c:l.length<=1000000)(h: ∀x∈l,Ev ad g (I x::a) (bh (f x))):Ev ad 337 [ints l,.fn (.func g) [] a] (strs (l.map f)):=by
 refine di alY.ok (kh []) (lh [(0,{n:=l.length,E:=λk=>[(1,.fn (.func g) [] a),(5,.aT 9 1 ((l.take k).map λx=>[bh (f x)])),(8,ints l),(9,I l.length),(10,I k)],I:=λk=>True,K:=λk=>[(12,[.i (.cells [I (nx l k)])]),(17,[.i (.ret (bh (f (nx l k))))])]})]) ?_;repeat' first|apply aN|apply aM|apply aL|apply ax|apply az|(intro b;(try simp only[nL]at b);(try contradiction))
 all_goals try exact fi _
 exact⟨h _ (dh b)⟩;exact⟨zz,by rw[Ek b,b9];rfl⟩
theorem R7 (x:Form):Ev ad 238 [.agg x.ao] (bh x.name):=iG ajh.ok [] []
theorem LM (x:qm):Ev ad 240 [.agg [bh x.nm,ints x.ed]] (bh x.nm):=iG ajF.ok [] []
theorem SF (x:kW):Ev ad 242 [.agg x.ao] (bh x.nm):=iG aju.ok [] []
theorem Sy {lo hi:Int}{l:List Int}{k:Nat}(h:k<l.length):ae lo hi (l.take (k+1))=(ae lo hi (l.take k)||ae lo hi [nx l k]):=by unfold ae;rw[eu,bP h,List.any_append];rfl
theorem El (l:List Int)(lo:Int):Ev ad 175 [ints l,I lo] (B (!ae lo 9 l)):=by
 have a:= @Sy lo 9 l;have b: ∀k,¬k<l.length->l.take k=l:=λk h=>cB af
 exact Ev.gl 0 zz akF.ok [] [(0,{n:=l.length,E:=λk=>[(0,ints l),(1,I lo),(5,B (!ae lo 9 (l.take k))),(6,I k)],K:=λk=>[(17,[.i (.cells [I (nx l k)])]),(20,[.ev (cO (nx l k) lo 9)])]})]
theorem AN (n m:Int)(b:0<=m)(h:m<=10):Ev ad 178 [I n,I m] (B (!ae 0 (2^m.toNat-1) [n])):=by
 have a:=Lx ae9.ok m.toNat af;rw[de b]at a;exact Ev.gg alW.ok [(7,[.ev a]),(8,[.ev (cO n 0 (2^m.toNat-1))])] []
structure cQ where
 sh:Shelf
 ix:List Wd
 tw:be
 dr:ln
 li:gO
 ch:mh
 le:List (List Wd)
 ca:Int
def Ep (ix l:List Wd):List Bool:=(a6 5).map λi=>match ix[i]? with|some s=>l.contains s|none=>false
def Ly (n:Int):List Bool:=(a6 5).map λi=>n.toNat.testBit i
def acM (h:List Bool):Nat:=(a6 5).foldl (λs i=>if h.getD i false=true then s ||| 2^i else s) 0
def Kj (a:cQ)(i:Nat):Int:=match a.ix[i]? with
 |none=>0
 |some s=>if cJ [s]≠0 then 6 else if (a.ix.take i).contains s=true then 5 else 0
def Lh (a:cQ)(i:Nat):Int:=match a.le[i]?,a.ch.co[i]? with
 |some l,some x=>if cJ l≠0 then cJ l else if Ep a.ix l≠Ly x.wo then 2 else 0
 |_,_=>0
def dA (a:cQ):Nat->Int
 |0=>(eh a.sh).2.2
 |1=>(gV a.tw).2.2
 |2=>(dF a.dr).2.2
 |3=>(ei a.li).2.2
 |4=>(eK a.ch).2.2
 |5=>if (a.ix.length:Int)≠a.ch.wo then 3 else(aB (Kj a) a.ix.length 0).2
 |6=>if a.le.length≠a.ch.co.length then 3 else(aB (Lh a) a.le.length 0).2
 |7=>if a.ca<0\/9999<a.ca then 7 else 0
 |8=>(gP a.tw).2.2
 |9=>ig a.li 0 []
 |_=>0
def cF (a:cQ):Int×Int:=if (aB (dA a) 10 0).2=0 then(0,0)else((aB (dA a) 10 0).1+1,(aB (dA a) 10 0).2)
inductive Kd where
 |num (none:Bool)
 |Bg (s:Wd)
 |bi
 |mw
 |D7
 |oJ
 |iT
 |fresh
 deriving DecidableEq
def qf (a:cQ):Kd->List Wd
 | .Bg s=>[s]
 | .bi=>a.sh.bi.map (·.name)
 | .mw=>a.ch.pe
 | .D7=>a.dr.hs.map (·.nm)
 | .oJ=>a.li.su.map (·.nm)
 | .iT=>a.li.cl
 |_=>[]
def Xa (c:UInt8):Bool:=decide (48<=c)&&decide (c<=57)
def Yu (s:Wd):Nat:=s.foldl (λn c=>10*n+(c.toNat-48)) 0
def tM (s:Wd):Int:=if s≠[]/\s.all Xa=true/\(s.length=1\/s.headD 0≠48)/\s.length<=3 then(Yu s:Int)else -1
def iZ (a:cQ)(k:Kd)(s:Wd):Option (Int×Int):=
 if s=[]then none else match k with
 | .num o=>if o=true/\s=[45]then some (-1,0)else if tM s<0 then none else some (tM s,0)
 | .Bg w=>if s=w then some (0,0)else none
 | .fresh=>some (0,0)
 |k=>if bM (λx=>x==s) (qf a k) 0<0 then some (0,4)else some (bM (λx=>x==s) (qf a k) 0,0)
structure bC where
 ws:List Kd
 more:Option Kd
 id:Nat
def aam:Wd:=[115,101,97,108]
def aaz:Wd:=[102,105,110,100]
def aab:Wd:=[99,111,112,121]
def aec:Wd:=[107,101,121]
def aaT:Wd:=[104,97,108,102]
def aac:Wd:=[114,101,97,100]
def IF:Wd:=[109,101,110,116,105,111,110]
def K6:Wd:=[115,97,109,101]
def HP:Wd:=[111,116,104,101,114]
def AR:Wd:=[119,111,114,100]
def wIs:Wd:=[105,115]
def ZQ:Wd:=[110,111,116]
def aas:Wd:=[99,111,109,101]
def ad2:Wd:=[112,97,121]
def aaA:Wd:=[104,101,108,100]
def aat:Wd:=[108,111,115,116]
def JO:Wd:=[112,101,114,115,111,110,115]
def wP:List (Wd×List bC):=
 [(aam,[⟨[.bi,.mw],some .fresh,0⟩]),(aaz,[⟨[.mw],some .fresh,1⟩]),(aab,[⟨[.mw,.num false],none,2⟩]),(aec,[⟨[.mw,.num false],none,3⟩]),
  (aaT,[⟨[.fresh],some (.num true),4⟩]),(aac,[⟨[.D7],none,5⟩]),(IF,[⟨[.num false,.num true,.num false,.num false,.num true],none,6⟩]),
  (K6,[⟨[.num false,.num false],none,7⟩]),(HP,[⟨[.num false,.num false],none,8⟩]),
  (AR,[⟨[.oJ,.Bg wIs,.iT],none,9⟩,⟨[.oJ,.Bg ZQ,.iT],none,10⟩,⟨[.oJ,.Bg K6,.oJ],none,11⟩,⟨[.oJ,.Bg HP,.oJ],none,12⟩]),
  (aas,[⟨[.num false],none,13⟩]),(ad2,[⟨[.oJ],none,14⟩]),(aaA,[⟨[],none,15⟩]),(aat,[⟨[],none,16⟩]),(JO,[⟨[],none,17⟩])]
def bQ (w:Wd):List bC:=match wP.find? (λx=>x.1==w)with|some x=>x.2|none=>[]
def okB (c:UInt8):Bool:=(decide (97<=c)&&decide (c<=122))||Xa c||c==46||c==45||c==32
def dC (s:Wd):Bool:=s.all okB&&decide (s≠[])&&decide (s.length<=70)
def eA (x:bC)(own:List Wd):Bool:=decide (x.ws.length<=own.length)&&(decide (own.length=x.ws.length)||x.more.isSome)&&
 (a6 x.ws.length).all λi=>match x.ws[i]? with|some (.Bg s)=>own[i]? ==some s|_=>true
def iS (x:bC)(i:Nat):Kd:=match x.ws[i]? with|some k=>k|none=>x.more.getD .fresh
def Ak (a:cQ)(x:bC):List Wd->Nat->Int->List Int->Option (List Int×Int)
 |[],_,e,out=>some (out,e)
 |s::l,i,e,out=>match iZ a (iS x i) s with
  |none=>none
  |some (n,f)=>Ak a x l (i+1) (if f=0 then e else f) (out++[n])
def pL:List Wd->Wd
 |[]=>[]
 |[w]=>w
 |w::ws=>w++32::pL ws
def wc (l:List Wd):Wd:=if l=[]then[45]else pL l
def fX (n:Int):Wd:=Lib.itoa n
def nQ (l:List Int):Wd:=wc (l.map fX)
def wz (a:List Wd)(l:List Int):Wd:=wc (l.map λi=>a.getD i.toNat [])
abbrev jx:=Int ⊕ (cQ×Wd)
def lP (a:cQ)(r:jx):jx:=if (cF a).2≠0 then .inl (cF a).2 else r
def uC (a:cQ):jx:=if (rK a.li).2≠0 then .inl (rK a.li).2 else .inr (a,wz (a.li.su.map (·.nm)) (rK a.li).1)
def nth (n:List Int)(i:Nat):Int:=n.getD i 0
def FC (a:cQ)(ws:List Wd)(n:List Int):jx:=
 let l:=ws.drop 3
 let f:=gh a.sh (nth n 0) l
 if f.2.2≠0 then .inl f.2.2 else
 let b:cQ:={a with ch:={a.ch with la:=a.ch.la+1,co:=a.ch.co++[⟨a.ch.la+1,(acM (Ep a.ix l):Nat),0,2^(nth n 1).toNat⟩]},le:=a.le++[l]}
 lP b (.inr (b,nQ [a.ch.la+1,f.2.1]))
def FQ (a:cQ)(ws:List Wd)(n:List Int):jx:=
 let own:=ws.drop 2
 if own.all (λs=>a.ix.contains s)=false then .inl 4 else
 let words:=((a6 a.ix.length).filter λi=>own.contains (a.ix.getD i [])).map λ(i:Nat)=>(i:Int)
 let f:=qq a.ch (nth n 0) words
 if f.2≠0 then .inl f.2 else .inr (a,nQ (f.1.map λi=>(a.ch.co.getD i.toNat ⟨0,0,0,0⟩).nu))
def vQ (a:cQ)(n:List Int):jx:=
 let i:=bM (λx=>x.nu==nth n 1) a.ch.co 0
 if i<0 then .inl 4 else if (a.ch.co.getD i.toNat ⟨0,0,0,0⟩).ma.toNat.testBit (nth n 0).toNat=false then .inl 2 else .inr (a,wc (a.le.getD i.toNat []))
def P1 (a:cQ)(n:List Int):jx:=
 let f:=xf a.ch (nth n 0) (nth n 1)
 if f.2≠0 then .inl f.2 else .inr (a,wz a.ix f.1)
def Jx (a:cQ)(ws:List Wd)(n:List Int):jx:=
 let b:cQ:={a with dr:={a.dr with hs:=a.dr.hs++[⟨ws.getD 1 [],n.drop 1⟩]}}
 lP b (let f:=jF b.dr ((b.dr.hs.length:Int)-1);if f.2=9 then .inr (b,[45])else .inr (b,(b.dr.cs.getD f.1.toNat ⟨[],[]⟩).nm))
def Gk (a:cQ)(n:List Int):jx:=
 let f:=jF a.dr (nth n 0)
 if f.2≠0 then .inl f.2 else .inr (a,(a.dr.cs.getD f.1.toNat ⟨[],[]⟩).nm)
def sj (a:cQ)(n:List Int):jx:=
 let x:fw:=⟨nth n 0,nth n 1,nth n 2,nth n 3,nth n 4⟩
 let f:=vh a.tw x
 if f.2≠0 then .inl f.2 else
 let b:cQ:={a with tw:={a.tw with ms:=a.tw.ms++[x]}}
 lP b (.inr (b,nQ f.1))
def zO (a:cQ)(n:List Int)(same:Bool):jx:=
 let b:cQ:={a with tw:={a.tw with dN:=a.tw.dN++[⟨nth n 0,nth n 1,same⟩]}}
 lP b (.inr (b,nQ [(gP b.tw).2.1]))
def mn (a:cQ)(n:List Int)(c:Int):jx:=
 let b:cQ:={a with li:={a.li with wo:=a.li.wo++[⟨c,nth n 0,nth n 2,-1,true⟩]}}
 lP b (uC b)
def Fg (a:cQ)(n:List Int):jx:=
 match a.li.wo[(nth n 0).toNat]? with
 |none=>.inl 4
 |some w=>if w.ca=true then .inl 5 else
  let b:cQ:={a with li:={a.li with wo:=a.li.wo.set (nth n 0).toNat {w with ca:=true}}}
  lP b (uC b)
def Q9 (a:cQ)(n:List Int):jx:=
 if a.li.pa.any (λp=>p.su==nth n 0)=true then .inl 5 else
 let f:=qY a.li (nth n 0)
 if f.2≠0 then .inl f.2 else
 let pe:=(a.li.su.getD (nth n 0).toNat ⟨[],0,0⟩).pe
 if a.ca<pe then .inl 9 else
 let b:cQ:={a with ca:=a.ca-pe,li:={a.li with pa:=a.li.pa++[⟨nth n 0,f.1⟩]}}
 lP b (.inr (b,b.li.cl.getD f.1.toNat []))
def wQ (a:cQ):jx:=if (tB a.ch).2≠0 then .inl (tB a.ch).2 else .inr (a,nQ (tB a.ch).1)
def pR (a:cQ):jx:=if (fQ a.tw).2≠0 then .inl (fQ a.tw).2 else .inr (a,nQ [(fQ a.tw).1.1,(fQ a.tw).1.2])
def Bj (a:cQ)(ws:List Wd)(n:List Int):Nat->jx
 |0=>FC a ws n
 |1=>FQ a ws n
 |2=>vQ a n
 |3=>P1 a n
 |4=>Jx a ws n
 |5=>Gk a n
 |6=>sj a n
 |7=>zO a n true
 |8=>zO a n false
 |9=>mn a n 0
 |10=>mn a n 1
 |11=>mn a n 2
 |12=>mn a n 3
 |13=>Fg a n
 |14=>Q9 a n
 |15=>uC a
 |16=>wQ a
 |_=>pR a
def iq (a:cQ)(s:Wd):jx:=
 if dC s=false then .inl 6 else
 let ws:=br 32 s
 match (bQ (ws.headD [])).find? (λx=>eA x (ws.drop 1))with
 |none=>.inl 6
 |some x=>match Ak a x (ws.drop 1) 0 0 []with
  |none=>.inl 6
  |some (n,e)=>if e≠0 then .inl e else Bj a ws n x.id
def dU (a:cQ)(l:List Wd):Int:=if (cF a).2≠0 then(cF a).2 else if 14<l.length then 3 else if l.all dC=false then 6 else 0
def yh (i:Nat)(s:Wd)(c:jx):Wd:=match c with
 | .inl e=>fX (i+1)++[58,32]++s++[32,35,32]++fX e
 | .inr (_,r)=>fX (i+1)++[58,32]++s++[32,62,32]++r
def qN (a:cQ)(c:jx):cQ:=match c with| .inl _=>a| .inr (b,_)=>b
def ee:cQ->Nat->List Wd->List Wd×cQ
 |a,_,[]=>([],a)
 |a,i,s::l=>(yh i s (iq a s)::(ee (qN a (iq a s)) (i+1) l).1,(ee (qN a (iq a s)) (i+1) l).2)
def kr:cQ:=⟨⟨0,[]⟩,[],⟨⟨0,[],[]⟩,0,[],[]⟩,⟨0,0,0,[],[]⟩,⟨[],[],[],[]⟩,⟨0,0,[],0,[],[]⟩,[],0⟩
def Su (a:cQ)(s:Wd):cQ×Wd×Int:=if dU a []≠0 then(kr,[],dU a [])else match iq a s with| .inl e=>(kr,[],e)| .inr (b,r)=>(b,r,0)
def mQ (a:cQ)(l:List Wd):List Wd×cQ×Int:=if dU a l≠0 then([],kr,dU a l)else((ee a 0 l).1,(ee a 0 l).2,0)
def No (u:Nat):Bool:=(decide (97<=u)&&decide (u<=122))||(decide (48<=u)&&decide (u<=57))||u==46||u==45||u==32
theorem Ue (c:UInt8):okB c=No c.toNat:=by
 unfold okB No Xa;have a: ∀n:UInt8,(c==n)=(c.toNat==n.toNat):=λn=>by rw[a7,beq_iff_eq,beq_iff_eq];exact⟨λh=>by rw[h],λh=>UInt8.toNat_inj.1 h⟩
 rw[a,a,a];rfl
theorem kZ (s:List UInt8):Ev ad 32 [bh s] (B (dC s)):=by
 refine ar S32.ok<|aJ zz<|aa (aa (aA ?_));refine aY.xq (gs:=[]) (hs:=[]) zz zq<|ah (aO.xD zz (λb=>?_));refine gk zz<|cj (s.all okB=true) (el [(0,bh s)]) [] [] ?_ ?_
 ·refine bJ (λk:Nat=>k<=s.length/\s.all okB=(s.drop k).all okB) (λk=>el [(0,bh s),(6,.po b 0)]) (λk=>[(b,.raw (.stringIter ⟨s.toArray⟩ k))]) (λ_=>[]) (λk=>s.length-k) 0 nN
   eL ?_
  rintro k ⟨hk,hi⟩;refine aa (aA (ah (aO.TO (i:=0) zz zz (λg=>?_) (λg=>?_))))
  ·simp only[b8,bk]at g;obtain⟨c,hc⟩:=bq g;have hg:(e9 s.toArray).get! k=c:=(by have C:=(an.1 hc).2;show s.toArray[k]! =c;rw[getElem!_pos s.toArray k (by simpa using g)];simpa using C);rw[drop_cons hc,cr]at hi;have w:128<=c.toNat->128<=(bx ⟨s.toArray⟩ k).1:=λh=>zT _ _ (by rw[hg];exact h);have m:c.toNat<128->bx ⟨s.toArray⟩ k=(c.toNat,1):=λh=>(by rw[AD _ _ (by rw[hg];exact h),hg]);have f:okB c=No (bx ⟨s.toArray⟩ k).1:=by
    rw[Ue];by_cases h:c.toNat<128
    ·rw[m h]
    ·have:=w af;unfold No;rw[a7];simp;omega
   have a:okB c=true->(bx ⟨s.toArray⟩ k).2=1:=(by intro h;rw[m];rw[Ue]at h;unfold No at h;simp at h;omega);generalize F:bx ⟨s.toArray⟩ k=A at f a;obtain⟨u,o⟩:=A;simp only at f a;rw[f]at hi a;refine gk zz<|aa (aj zz (λ_=>ak ?_) (λh=>by cases h));refine ay<|aJ zz<|ay<|eZ True (el [(0,bh s),(6,.po b 0),(10,B (No u))]) [(b,.raw (.stringIter ⟨s.toArray⟩ (k+o)))] [] ?_ ?_
   ·let E:Bool->List (Nat×AV):=λq=>[(0,bh s),(4,.v (.int .i32 u)),(6,.po b 0),(10,B q)];have fin: ∀{Q:dl} {q:Bool} {Y:Env->av->List Nat->Prop},No u=q->(∀e h d,(∃_:Unit,True/\bO e h d (el [(0,bh s),(6,.po b 0),(10,B (No u))]) [(b,.raw (.stringIter ⟨s.toArray⟩ (k+o)))] [])->Y e h d)->Y (el (E q)) [(b,.raw (.stringIter ⟨s.toArray⟩ (k+o)))] []:=(by intro Q q Y h D;exact D _ _ _ ⟨(),zq,au ⟨zz,zz,by rw[h];rfl,zq⟩⟩);refine eZ True (el (E (decide (97<=u)&&decide (u<=122)))) [(b,.raw (.stringIter ⟨s.toArray⟩ (k+o)))] [] ?_ ?_
    ·by_cases j:97<=u
     ·refine kD [(13,true)] [] zz (by simp;omega) ?_;exact⟨(),zq,au ⟨zz,zz,zz,by show B _=B _;simp [j];omega,zq⟩⟩
     ·refine kD [(13,false)] [] zz (by simp;omega) ?_;exact⟨(),zq,au ⟨zz,zz,zz,by show B _=B _;simp [j],zq⟩⟩
    intro _ _;cases n:(decide (97<=u)&&decide (u<=122))with
    |true=>exact aC zz zz (ak (fin (Q:=λ_ _ _ _=>True) (by unfold No;rw[n];rfl) (λ_ _ _ h=>h)))
    |false=>
    refine dm zz zz<|eZ True (el (E (decide (48<=u)&&decide (u<=57)))) [(b,.raw (.stringIter ⟨s.toArray⟩ (k+o)))] [] ?_ ?_
    ·by_cases j:48<=u
     ·refine kD [(19,true)] [] zz (by simp;omega) ?_;exact⟨(),zq,au ⟨zz,zz,zz,by show B _=B _;simp [j];omega,zq⟩⟩
     ·refine kD [(19,false)] [] zz (by simp;omega) ?_;exact⟨(),zq,au ⟨zz,zz,zz,by show B _=B _;simp [j],zq⟩⟩
    intro _ _;cases p:(decide (48<=u)&&decide (u<=57))with
    |true=>exact aC zz zz (ak (fin (Q:=λ_ _ _ _=>True) (by unfold No;rw[n,p];rfl) (λ_ _ _ h=>h)))
    |false=>
    refine dm zz zz<|aJ zz ?_;by_cases y:u=46
    ·refine aC zz (by rw[beq_iff_eq];omega) (ak ⟨(),zq,au ⟨zz,zz,?_,zq⟩⟩);show B _=B _;unfold No;rw[n,p,y];rfl
    refine dm zz (by rw[beq_eq_false_iff_ne];omega)<|aJ zz ?_;by_cases z:u=45
    ·refine aC zz (by rw[beq_iff_eq];omega) (ak ⟨(),zq,au ⟨zz,zz,?_,zq⟩⟩);show B _=B _;unfold No;rw[n,p,z];rfl
    refine dm zz (by rw[beq_eq_false_iff_ne];omega)<|cZ zz ?_;refine⟨(),zq,au ⟨zz,zz,?_,zq⟩⟩;show B _=B _;unfold No;rw[n,p];refine congrArg B ?_;rw[a7];simp [y,z];omega
   intro _ _;cases t:No u with
   |true=>rw[t,dn]at hi;have:=a t;subst this;exact aC zz zz (ak ⟨k+1,⟨g,hi⟩,af,eL⟩)
   |false=>rw[t,Bool.false_and]at hi;refine dm zz zz<|aJ zz<|ab (aD ?_);show B _=B _;unfold dC;rw[hi];rfl
  ·simp only[b8,bk]at g;refine gk zz<|aa (dm zz zz ?_);refine aE ⟨(),?_,ai (dW (eP _)) eL⟩;rw[hi,drop_nil af];rfl
 ·intro _ l;have x:dC s=(decide (s≠[])&&decide (s.length<=70)):=by unfold dC;rw[l,dn]
  by_cases r:s=[]
  ·subst r;refine vS [(31,false)] [] zz aF<|ab (aD ?_);rw[x];rfl
  ·refine vS [(31,true)] [] zz (by simp [r])<|ab (aD ?_);show B _=B _;rw[x];refine congrArg B ?_;rw[a7];simp [r,bk];omega
theorem Yf (c:UInt8):okB c=((!ae 97 122 [(c.toNat:Int)])||(!ae 48 57 [(c.toNat:Int)])||(c.toNat:Int)==46||(c.toNat:Int)==45||(c.toNat:Int)==32):=by rw[Ue];unfold No;rw[a7];simp [ae];omega
theorem Ud (s:Wd)(hl:s.length<=9223372036854775807):Ev ad 13 [bh s] (B (dC s)):=by
 obtain⟨A,a0,a1,b⟩:=ud okB s;generalize a:(!ae 1 70 [(s.length:Int)])=F
 have d:dC s=(F&&s.all okB):=by subst a;unfold dC;rw[e1,Bool.and_comm];congr 1;rw[a7];simp [ae];cases s<;>simp;omega
 have e: ∀k:Nat,k<s.length->s[((k:Nat):Int).toNat]? =some (nx s k):=λk h=>bP h;have g: ∀k:Nat,k<s.length->okB (nx s k)=_:=λk _=>Yf _
 have z:(⟨s.toArray⟩:ByteArray).size=s.length:=by simp [bk]
 have w:=J2
 exact Ev.gg S13.ok [(8,[.ev (a▸cO s.length 1 70)])] [(0,{n:=s.length,E:=λk=>[(0,bh s),(3,B (F&&A k)),(4,I k)],K:=λk=>[(17,[.i (.byte (nx s k))]),(23,[.i (.byte (nx s k))]),(33,[.i (.byte (nx s k))]),(39,[.i (.byte (nx s k))]),(45,[.i (.byte (nx s k))]),(19,[.ev (cO (nx s k).toNat 97 122)]),(25,[.ev (cO (nx s k).toNat 48 57)])]})]
theorem N9 {long:Nat->Bool}{least:Int}{l:List qm}(h:k<l.length):eJ long least l k=if dL (nx l k).nm ((l.take k).map (·.nm))≠0 then dL (nx l k).nm ((l.take k).map (·.nm)) else if long (nx l k).ed.length=true then 3 else if ae least 9 (nx l k).ed=true then 7 else 0:=by
 unfold eJ dL;rw[bP h,List.any_map];simp only[fv];cases eI (nx l k).nm<;>simp;split<;>simp
instance:Inhabited rc:=⟨⟨0,0,0,0,false⟩⟩
instance:Inhabited EB:=⟨⟨0,0⟩⟩
theorem abn {m:gO}{i:Nat}(h:i<m.wo.length){O:Int}(a:O=if 2<=(nx m.wo i).sa then(m.su.length:Int)else m.cl.length):rj m i=if ae 0 3 [(nx m.wo i).sa]=true then 7 else if (ae 0 ((m.su.length:Int)-1) [(nx m.wo i).su]||ae 0 (O-1) [(nx m.wo i).of]||ae (-1) ((m.wo.length:Int)-1) [(nx m.wo i).ba])=true then 4 else if (nx m.wo i).ba=i\/(2<=(nx m.wo i).sa/\(nx m.wo i).of=(nx m.wo i).su)then 2 else 0:=by subst a;unfold rj;rw[bP h]
theorem Vk {m:gO}(hs:m.su.length<=1000000)(hc:m.cl.length<=1000000)(c:m.wo.length<=1000000){i:Nat}(h:i<m.wo.length):Ev ad 177 [.agg m.ao,I i] (I (rj m i)):=by
 obtain⟨O,a⟩: ∃O,O=if 2<=(nx m.wo i).sa then(m.su.length:Int)else m.cl.length:=⟨_,zz⟩;have e:=abn h a
 generalize rj m i=r at e;have hx:=bP h;generalize nx m.wo i=x at a e hx
 rcases (show (2<=x.sa/\O=m.su.length)\/(¬2<=x.sa/\O=m.cl.length)by grind) with ⟨b,rfl⟩|⟨b,rfl⟩
 exact Ev.gg ahR.ok [(2,[.i .bY]),(10,[.i (.cells x.ao)]),(12,[.fz 5]),(14,[.ev (cO x.sa 0 3)]),(31,[.ev (cO x.su 0 ((m.su.map kW.ao).length-1))]),(38,[.ev (cO x.of 0 ((m.su.map kW.ao).length-1))]),(48,[.ev (cO x.ba (-1) ((m.wo.map rc.ao).length-1))])] []
 exact Ev.gg ahR.ok [(2,[.i .bY]),(10,[.i (.cells x.ao)]),(12,[.fz 5]),(14,[.ev (cO x.sa 0 3)]),(31,[.ev (cO x.su 0 ((m.su.map kW.ao).length-1))]),(38,[.ev (cO x.of 0 ((m.cl.map λs=>[bh s]).length-1))]),(48,[.ev (cO x.ba (-1) ((m.wo.map rc.ao).length-1))])] []
theorem Fo (h:k<l.length):dT l k=dL (nx l k) (l.take k):=by unfold dT dL;rw[bP h];simp only;cases eI (nx l k)<;>simp
theorem ab0 {β:Type}(ok:sI ad F 14 [.tmp 2] ae9.lc)(l:List j)(f:j->β)(h:l.length<=10):Ev ad F [I (l.map f).length] (I (2^l.length-1)):=by have h:=Lx ok l.length af;rw[bn];exact h
theorem adQ {c:UInt8}: ∀{s:List UInt8} {t:List UInt8},(∀x∈s,x≠c)->br c (s++c::t)=s::br c t
 |[],t,_=>by simp [br]
 |y::s,t,h=>by simp only[ey,br];rw[zj (h y aF),adQ (λx hx=>h x (by simp [hx]))]
theorem aeK {c:UInt8}: ∀{s:List UInt8},(∀x∈s,x≠c)->br c s=[s]
 |[],_=>rfl
 |y::s,h=>by simp only[br];rw[zj (h y aF),aeK (λx hx=>h x (by simp [hx]))]
theorem acv (c:UInt8): ∀s:List UInt8,(e8 s [c]= -1/\ ∀x∈s,x≠c)\/ ∃i:Nat,e8 s [c]=i/\s=s.take i++c::s.drop (i+1)/\ ∀x∈s.take i,x≠c
 |[]=>.inl ⟨zz,aF⟩
 |b::l=>by
  have g:eT [c] (b::l)=(c==b):=by simp [eT]
  unfold e8;rw[g];by_cases e:c=b;subst e;rw[zy aF];exact .inr ⟨0,zz,zz,aF⟩;rw[zj (by simpa using e)];rcases acv c l with⟨a,d⟩|⟨i,a,d,f⟩
  rw[a,zy aG];refine .inl ⟨zz,λx hx=>?_⟩;rcases e7.1 hx with rfl|hx
  exact λh=>e h.symm;exact d x hx
  rw[a,zj aF];refine .inr ⟨i+1,af,?_,λx hx=>?_⟩;rw[dk,List.drop_succ_cons,ey,<-d];rw[dk]at hx;rcases e7.1 hx with rfl|hx
  exact λh=>e h.symm;exact f x hx
theorem KQ (c:UInt8): ∀(n:Nat) (s:List UInt8),s.length<=n->e4 [c] 0 (fy s [c]) s=br c s:=by
 intro n;induction n with
 |zero=>
  intro s h;have:s=[]:=List.length_eq_zero_iff.1 af;subst this;rcases acv c []with⟨a,-⟩|⟨i,a,b,-⟩
  rw[e3 a];rfl;grind
 |succ n e=>
  intro s h;rcases acv c s with⟨a,b⟩|⟨i,a,b,d⟩
  rw[e3 a,aeK b];rfl;rw[Lib.count_hit aF a,Nat.add_comm,e4,zj (by rw[a];simp),a,bI];have hl:(s.drop (i+1)).length<=n:=(by have:=congrArg List.length b;simp only[ds,bl]at this;omega);have:=e _ hl;show s.take i::e4 [c] 0 (fy (s.drop (i+1)) [c]) (s.drop (i+1))=_;rw[this];conv=>rhs;rw[b]
  rw[adQ d]
theorem gL {c:UInt8}: ∀(s:List UInt8),(br c s).length<=s.length+1
 |[]=>by simp [br]
 |x::l=>by have a:=gL (c:=c) l;simp only[br];split;simp;omega;split;simp;rename_i w ws e;rw[e]at a;simp only[bl]at a ⊢;omega
theorem D9 {S:aI}: ∀(a:List ByteArray) (l:List (List UInt8)),a.map (·.data.toList)=l->aS S (l.map λs=>[bh s]).flatten (a.map bA)
 |[],l,h=>by subst h;simp [aS]
 |b::a,l,h=>by subst h;have:=D9 (S:=S) a _ zz;simp only[cx,List.flatten_cons,List.singleton_append,aS];exact⟨_,_,zz,by simp only[bf],this⟩
theorem nO (s:List UInt8)(c:UInt8)(hs:s.length<=1000000):Ev ad 46 [bh s,bh [c]] (strs (br c s)):=by
 refine eB (T:=9) ⟨⟨_,Tryz.func46,aX,aX⟩,λS w t hg g l=>?_⟩;simp only[aS,bf]at l;obtain⟨v1,n,rfl,rfl,r,o,rfl,rfl,rfl⟩:=l;have j:(⟨s.toArray⟩:ByteArray).size=s.length:=by simp [bk]
 obtain⟨m,hm⟩:=Ix hg;have d:=Lib.splitB_all (⟨[c].toArray⟩:ByteArray) (a8 1) 0 _ ⟨s.toArray⟩ zz;have i:=KQ c s.length s (a8 _);have hd:=Lib.splitB_data ⟨[c].toArray⟩ 0 (e2 ⟨s.toArray⟩ ⟨[c].toArray⟩) ⟨s.toArray⟩;have hd:(fs ⟨[c].toArray⟩ 0 (e2 ⟨s.toArray⟩ ⟨[c].toArray⟩) ⟨s.toArray⟩).map (·.data.toList)=br c s:=hd.trans i;have p:=gL (c:=c) s;refine(Any.strings_Split {Tryz.GA with} Tryz.GA.i9 ⟨s.toArray⟩ ⟨[c].toArray⟩ m w (by rw[j];omega) hm (a8 1)).mono ?_;rintro e w' ⟨rfl,rfl⟩;generalize e2 ⟨s.toArray⟩ ⟨[c].toArray⟩=cn at hd d;generalize fs ⟨[c].toArray⟩ 0 cn ⟨s.toArray⟩=f at hd d;have h:f.length=(br c s).length:=bD;rw[<-d];have a:=(cc w.heap.size w).alloc (a8 _) (.cells (f.map bA).toArray 9);refine⟨_,S,some w.heap.size,zz,qT _,g.uw (λb hs=>a.block b (g.lt hs)),λb hs=>.inl hs,a,?_⟩;simp only[cH];refine .inr ⟨w.heap.size,f.length,zz,bD,a8 _,λhh=>Nat.lt_irrefl _ (g.lt hh),.cells (f.map bA).toArray 9 (0,0),Array.getElem?_push_size,?_⟩;have k:(f.map bA).take (((br c s).map λs=>[bh s]).length*1)=f.map bA:=cB (by simp [h]);refine⟨f.map bA,zz,bD,bD,by rw[h];have:maxLen=9223372036854775807:=rfl;omega,?_,?_,?_⟩;grind;rw[k];exact D9 f _ hd;rw[k];intro v q;obtain⟨x,_,rfl⟩:=b7.1 q;rfl
theorem PP {S:aI}{b:Nat}: ∀{l:List (List UInt8)} {o:Nat},gZ S 1 (l.map λs=>[bh s]) b o-> ∀(j:Nat) (s:List UInt8),l[j]? =some s->S.cell b (o+j)=some (.string ⟨s.toArray⟩)
 |x::l,o,h,0,s,hs=>by simp only[cx,gZ,fY,bf]at h;obtain⟨-,⟨⟨c,a,-,d⟩,-⟩,-⟩:=h;simp only[cA,ew]at hs;subst hs;rw[Nat.add_zero,a,d]
 |x::l,o,h,j+1,s,hs=>by simp only[cx,gZ]at h;have:=PP h.2.2 j s (by simpa using hs);rw[show o+(j+1)=o+1+j from af];exact this
theorem xp: ∀l:List (List UInt8),pL l=Lib.join l [32]
 |[]=>rfl
 |[w]=>(Lib.join_one w [32]).symm
 |w::x::l=>by have a:=xp (x::l);rw[pL,a,e5,e5];simp [Lib.joinTail];simp
theorem Ya (l:List (List UInt8))(hl:l.length<=1000000)(u:(pL l).length<=1000000):Ev ad 342 [strs l,bh [32]] (bh (pL l)):=by
 refine Ev.of ⟨_,Tryz.func342,aX,aX⟩ zz λS w z hg d k=>?_;simp only[aS,bf]at k;obtain⟨v1,n,rfl,hy,v,o,rfl,rfl,rfl⟩:=k;rcases hy with⟨⟨m,rfl⟩,f⟩|⟨b,off,cap,rfl,r,t,p⟩
 have:l=[]:=List.map_eq_nil_iff.1 f;subst this;refine(c7 Tryz.Cf Tryz.Wt m 0 ⟨[32].toArray⟩ w).mono ?_;rintro e w' ⟨rfl,rfl⟩;exact⟨_,zz,cc _ _,by simp only[bf];rfl⟩;have a:=PP p;have c:l.length<=cap:=bD;have g:((l.map λs=>(⟨s.toArray⟩:ByteArray)).map (·.data.toList))=l:=by rw[b9];exact List.map_id l
 cases l with
 |nil=>refine(c7 Tryz.Cf Tryz.Wt (some ⟨b,off,none⟩) cap ⟨[32].toArray⟩ w).mono ?_;rintro e w' ⟨rfl,rfl⟩;exact⟨_,zz,cc _ _,by simp only[bf];rfl⟩
 |cons x l=>
  have i:b<w.heap.size:=d.lt (.inl ⟨_,_,a 0 x zz⟩);have h:=Any.strings_Join Tryz.Cf Tryz.Wt b off cap ((x::l).map λs=>(⟨s.toArray⟩:ByteArray)) ⟨[32].toArray⟩ w
   (λj y hy=>by
     rw[b6,Option.map_eq_some_iff]at hy
     obtain⟨s,hs,rfl⟩:=hy
     exact d.cell _ _ _ (a j s hs)) i (by rw[bn];omega) (by rw[bn];exact c)
   (by rw[g];rw[<-xp];omega)
  rw[g]at h;rw[bn]at h ⊢;apply h.mono;rintro e w' ⟨rfl,q⟩;exact⟨_,zz,q,by simp;show _=bA ⟨(pL _).toArray⟩;rw[xp]⟩
set_option maxRecDepth 100000 in
theorem J9 (s:List UInt8)(hs:s.length<=1000000)(ha:s.all (λb=>decide (b.toNat<128))=true):Ev ad 95 [bh s,bh [62,35]] (I (Lib.indexAny s [62,35])):=by
 refine Ev.of ⟨_,Tryz.func95,aX,aX⟩ zz λS w k hg h d=>?_;simp only[aS,bf]at d;obtain⟨v1,f,rfl,rfl,i,g,rfl,rfl,rfl⟩:=d;have c:(⟨s.toArray⟩:ByteArray).size=s.length:=by simp [bk]
 refine(Any.strings_IndexAny Tryz.GP Tryz.zeroValue276 aX ⟨s.toArray⟩ ⟨[62,35].toArray⟩ w (by rw[c];omega) (by decide) (λj b a=>bD) ?_).mono ?_;intro j b a;match j,a with
 |0,a=>cases a;decide
 |1,a=>cases a;decide
 rintro e w' ⟨rfl,a⟩;exact⟨_,zz,a,by simp only[bf]⟩
abbrev b5 (f:Nat->Bool):List AV:=[B (f 0),B (f 1),B (f 2),B (f 3),B (f 4)]
theorem b5c (a:C 0)(b:C 1)(c:C 2)(d:C 3)(h4:C 4)(h:k<5):C k:=bD
theorem UE (f:Nat->Bool)(v:Bool)(h:k<5):bU (b5 f) (0+k*1) [B v]=b5 (λj=>if j=k then v else f j):=
 b5c (C:=λk=>bU (b5 f) (0+k*1) [B v]=b5 (λj=>if j=k then v else f j)) zz zz zz zz zz h
def uI (ix l:List Wd)(i:Nat):Bool:=match ix[i]? with|some s=>l.contains s|none=>false
theorem Gj (ix l:List Wd)(f:ix.length<=5):Ev ad 61 [strs ix,strs l] (.agg (b5 (uI ix l))):=by
 have c:((ix.map λs=>[bh s]).length:Int)=ix.length:=aF;let g:Nat->Nat->Bool:=λn i=>if i<n then uI ix l i else false
 refine ar S61.ok<|bE [.aT] zz cI<|bW (t:=4) zz λb=>aa (aa ?_);refine cZ zz<|cj True (el [(4,.po b 0)]) [(b,.cells 117 (b5 (uI ix l)))] [] ?_ ?_
 ·refine bJ (λk:Nat=>k<=ix.length) (λk=>el [(1,strs l),(4,.po b 0),(7,strs ix),(8,I ix.length),(9,I k)]) (λk=>[(b,.cells 117 (b5 (g k)))]) (λ_=>[]) (λk=>ix.length-k) 0 af
   (au ⟨zz,zz,zz,by show I _=I _;rw[c],zz,zq⟩) ?_
  refine λk hk=>aJ zz<|aa (aj zz (λhc=>?_) (λhc=>?_))
  ·simp at hc;obtain⟨s,hs⟩:=bq hc;have hh:=nG l s;have d:uI ix l k=l.contains s:=(by unfold uI;rw[hs]);refine ak (aa (ay ?_));refine bE [.cells [bh s]] zz ⟨⟨af,by simp [hs]⟩,zq⟩<|hxH [.ret (B (l.contains s)),.iL 0] zz (by(repeat' (with_reducible apply az));(all_goals first|exact zk _|((first|exact hh|rfl|(show 0+((k:Nat):Int).toNat*1+1<=5;omega)))))<|fE zz bL ?_;refine⟨k+1,hc,af,ai (aw ?_) eL⟩;show [(b,dp.cells _ (bU (b5 (g k)) (0+k*1) [B (l.contains s)]))]=_;rw[UE _ _ af]
   have:(λj=>if j=k then l.contains s else g k j)=g (k+1):=by
    funext j;show _=if j<k+1 then _ else _
    by_cases e:j=k;subst e;rw[zy zz,zy af,d];rw[zj e];show (if j<k then _ else _)=_;by_cases a:j<k;rw[zy a,zy af];rw[zj a,zj af]
   rw[this]
  simp at hc;have e:k=ix.length:=af;subst e;have:g ix.length=uI ix l:=(by funext j;show (if j<ix.length then _ else _)=_;by_cases a:j<ix.length;rw[zy a];rw[zj a];unfold uI;rw[List.getElem?_eq_none af]);exact aE ⟨(),zq,ai (aw (by rw[this])) eL⟩
 refine λ_ _=>nw [.at 0,.iL 0] zz ⟨zz,⟨zz,zz,zz,zz,a8 5⟩,zq⟩ ?_;exact ab (gv (.inr zz) (.one (.dY (n:=some 5) (i:=0) zz zz aX zz)))
theorem V7 (n:Int)(c:0<=n)(l:n<9223372036854775808):Ev ad 62 [I n] (.agg (b5 λi=>n.toNat.testBit i)):=by
 let g:Nat->Nat->Bool:=λm i=>if i<m then n.toNat.testBit i else false
 refine ar S62.ok<|bE [.aT] zz cI<|bW (t:=2) zz λb=>aa (aa ?_);refine cZ zz<|cj True (el [(2,.po b 0)]) [(b,.cells 117 (b5 λi=>n.toNat.testBit i))] [] ?_ ?_
 ·refine bJ (λk:Nat=>k<=5) (λk=>el [(0,I n),(2,.po b 0),(4,I k)]) (λk=>[(b,.cells 117 (b5 (g k)))]) (λ_=>[]) (λk=>5-k) 0 af
   eL ?_
  refine λk hk=>aJ zz<|aa (aj zz (λhc=>?_) (λhc=>?_))
  ·simp at hc;have a:=ng n k c;have f:(0:Int)<=n/2^((k:Nat):Int).toNat:=cD c (ek (cb af));have h:n/2^((k:Nat):Int).toNat<=n:=cy _ c;refine ak (aa (ay ?_));refine aJ zz<|hxH [.iL 0] zz (by(and_intros);(all_goals first|exact zk _|((first|rfl|(show 0+((k:Nat):Int).toNat*1+1<=5;omega)))))<|fE zz bL ?_;refine⟨k+1,af,af,ai (aw ?_) eL⟩;show [(b,dp.cells _ (bU (b5 (g k)) (0+k*1) [B (da n k)]))]=_;rw[UE _ _ af,a]
   have:(λj=>if j=k then n.toNat.testBit k else g k j)=g (k+1):=by
    funext j;show _=if j<k+1 then _ else _
    by_cases e:j=k;subst e;rw[zy zz,zy af];rw[zj e];show (if j<k then _ else _)=_;by_cases d:j<k;rw[zy d,zy af];rw[zj d,zj af]
   rw[this]
  simp at hc;have e:k=5:=af;subst e;exact aE ⟨(),zq,ai (aw zz) eL⟩
 refine λ_ _=>nw [.at 0,.iL 0] zz ⟨zz,⟨zz,zz,zz,zz,a8 5⟩,zq⟩ ?_;exact ab (gv (.inr zz) (.one (.dY (n:=some 5) (i:=0) zz zz aX zz)))
theorem QI (es:List (List AV))(hl:es.length<=1000000):Ev ad 334 [.sl 4 es] (.aT 100 4 es):=iG aie.ok [(5,[.i .aT])] []
theorem ad6:tg ad 333:=by
 refine λa n cap b d=>di aiZ.ok (kh [(8,[.i (.op (.v (.slice a n n)))])]) (lh []) ?_;repeat' first|apply aN|apply aM|apply aL|apply ax|apply az|(intro c;(try simp at c);(try contradiction))
 all_goals try exact fi _
 exact⟨λr N D=>Q1.of λK k=>aO.nk zz zz zz b k⟩
theorem TU (es:List (List AV))(x:pC)(hl:es.length<=1000000):Ev ad 246 [.sl 4 es,.agg x.ao] (.aT 100 4 (es++[x.ao])):=by
 refine di akN.ok (kh [(6,[.ev (QI es hl)]),(7,[.i .clip])]) (lh []) ?_;repeat' first|apply aN|apply aM|apply aL|apply ax|apply az|(intro a;(try simp at a);(try contradiction))
 all_goals try exact fi _
 exact⟨ad6⟩
theorem Qr (es:List (List AV))(hl:es.length<=1000000):Ev ad 349 [.sl 2 es] (.aT 138 2 es):=iG ahl.ok [(5,[.i .aT])] []
theorem adU:tg ad 348:=by
 refine λa n cap b d=>di ah3.ok (kh [(8,[.i (.op (.v (.slice a n n)))])]) (lh []) ?_;repeat' first|apply aN|apply aM|apply aL|apply ax|apply az|(intro c;(try simp at c);(try contradiction))
 all_goals try exact fi _
 exact⟨λr N D=>Q1.of λK k=>aO.nk zz zz zz b k⟩
theorem Tk (es:List (List AV))(x:qm)(hl:es.length<=1000000):Ev ad 258 [.sl 2 es,.agg [bh x.nm,ints x.ed]] (.aT 138 2 (es++[[bh x.nm,ints x.ed]])):=by
 refine di ahN.ok (kh [(6,[.ev (Qr es hl)]),(7,[.i .clip])]) (lh []) ?_;repeat' first|apply aN|apply aM|apply aL|apply ax|apply az|(intro a;(try simp at a);(try contradiction))
 all_goals try exact fi _
 exact⟨adU⟩
theorem Rm (es:List (List AV))(hl:es.length<=1000000):Ev ad 353 [.sl 5 es] (.aT 133 5 es):=iG aho.ok [(5,[.i .aT])] []
theorem aeq:tg ad 355:=by
 refine λa n cap b d=>di ahF.ok (kh [(8,[.i (.op (.v (.slice a n n)))])]) (lh []) ?_;repeat' first|apply aN|apply aM|apply aL|apply ax|apply az|(intro c;(try simp at c);(try contradiction))
 all_goals try exact fi _
 exact⟨λr N D=>Q1.of λK k=>aO.nk zz zz zz b k⟩
theorem UM (es:List (List AV))(x:fw)(hl:es.length<=1000000):Ev ad 262 [.sl 5 es,.agg x.ao] (.aT 133 5 (es++[x.ao])):=by
 refine di ak0.ok (kh [(6,[.ev (Rm es hl)]),(7,[.i .clip])]) (lh []) ?_;repeat' first|apply aN|apply aM|apply aL|apply ax|apply az|(intro a;(try simp at a);(try contradiction))
 all_goals try exact fi _
 exact⟨aeq⟩
theorem Sl (es:List (List AV))(hl:es.length<=1000000):Ev ad 362 [.sl 2 es] (.aT 144 2 es):=iG ah4.ok [(5,[.i .aT])] []
theorem aej:tg ad 361:=by
 refine λa n cap b d=>di ahe.ok (kh [(8,[.i (.op (.v (.slice a n n)))])]) (lh []) ?_;repeat' first|apply aN|apply aM|apply aL|apply ax|apply az|(intro c;(try simp at c);(try contradiction))
 all_goals try exact fi _
 exact⟨λr N D=>Q1.of λK k=>aO.nk zz zz zz b k⟩
theorem Xf (es:List (List AV))(x:EB)(hl:es.length<=1000000):Ev ad 269 [.sl 2 es,.agg x.ao] (.aT 144 2 (es++[x.ao])):=by
 refine di ahM.ok (kh [(6,[.ev (Sl es hl)]),(7,[.i .clip])]) (lh []) ?_;repeat' first|apply aN|apply aM|apply aL|apply ax|apply az|(intro a;(try simp at a);(try contradiction))
 all_goals try exact fi _
 exact⟨aej⟩
theorem P7 (es:List (List AV))(hl:es.length<=1000000):Ev ad 397 [.sl 3 es] (.aT 135 3 es):=iG alX.ok [(5,[.i .aT])] []
theorem aeC:tg ad 396:=by
 refine λa n cap b d=>di akD.ok (kh [(8,[.i (.op (.v (.slice a n n)))])]) (lh []) ?_;repeat' first|apply aN|apply aM|apply aL|apply ax|apply az|(intro c;(try simp at c);(try contradiction))
 all_goals try exact fi _
 exact⟨λr N D=>Q1.of λK k=>aO.nk zz zz zz b k⟩
theorem WS (es:List (List AV))(x:sr)(hl:es.length<=1000000):Ev ad 356 [.sl 3 es,.agg x.ao] (.aT 135 3 (es++[x.ao])):=by
 refine di amp.ok (kh [(6,[.ev (P7 es hl)]),(7,[.i .clip])]) (lh []) ?_;repeat' first|apply aN|apply aM|apply aL|apply ax|apply az|(intro a;(try simp at a);(try contradiction))
 all_goals try exact fi _
 exact⟨aeC⟩
theorem Ae (es:List (List AV))(hl:es.length<=1000000):Ev ad 265 [.sl 5 es] (.aT 142 5 es):=iG aiO.ok [(5,[.i .aT])] []
theorem aeE:tg ad 398:=by
 refine λa n cap b d=>di akp.ok (kh [(8,[.i (.op (.v (.slice a n n)))])]) (lh []) ?_;repeat' first|apply aN|apply aM|apply aL|apply ax|apply az|(intro c;(try simp at c);(try contradiction))
 all_goals try exact fi _
 exact⟨λr N D=>Q1.of λK k=>aO.nk zz zz zz b k⟩
theorem T2 (es:List (List AV))(x:rc)(hl:es.length<=1000000):Ev ad 357 [.sl 5 es,.agg x.ao] (.aT 142 5 (es++[x.ao])):=by
 refine di alh.ok (kh [(6,[.ev (Ae es hl)]),(7,[.i .clip])]) (lh []) ?_;repeat' first|apply aN|apply aM|apply aL|apply ax|apply az|(intro a;(try simp at a);(try contradiction))
 all_goals try exact fi _
 exact⟨aeE⟩
theorem Q0 (es:List (List AV))(hl:es.length<=1000000):Ev ad 336 [.sl 1 es] (.aT 25 1 es):=iG al9.ok [(5,[.i .aT])] []
theorem afg:tg ad 335:=by
 refine λa n cap b d=>di aht.ok (kh [(8,[.i (.op (.v (.slice a n n)))])]) (lh []) ?_;repeat' first|apply aN|apply aM|apply aL|apply ax|apply az|(intro c;(try simp at c);(try contradiction))
 all_goals try exact fi _
 exact⟨λr N D=>Q1.of λK k=>aO.nk zz zz zz b k⟩
theorem Tz (es:List (List AV))(x:List Wd)(hl:es.length<=1000000):Ev ad 247 [.sl 1 es,strs x] (.aT 25 1 (es++[[strs x]])):=by
 refine di ahd.ok (kh [(6,[.ev (Q0 es hl)]),(7,[.i .clip])]) (lh []) ?_;repeat' first|apply aN|apply aM|apply aL|apply ax|apply az|(intro a;(try simp at a);(try contradiction))
 all_goals try exact fi _
 exact⟨afg⟩
theorem Ri (es:List (List AV))(hl:es.length<=1000000):Ev ad 243 [.sl 1 es] (.aT 9 1 es):=iG amn.ok [(5,[.i .aT])] []
theorem R6 (es:List (List AV))(hl:es.length<=1000000):Ev ad 259 [.sl 1 es] (.aT 3 1 es):=iG air.ok [(5,[.i .aT])] []
theorem Cb (l:List Wd)(hl:l.length<=1000000)(b:(pL l).length<=1000000):Ev ad 255 [strs l] (bh (wc l)):=by
 refine di ajm.ok (kh [(7,[.ev (Ya l hl b)])]) (lh []) ?_;repeat' first|apply aN|apply aM|apply aL|apply ax|apply az|(intro a;(try simp only[nL]at a);(try contradiction))
 all_goals try exact fi _
 all_goals simp at a
 subst a;exact⟨zz⟩;exact⟨congrArg bh (show pL l=wc l by unfold wc;rw[zj a])⟩
theorem Nw (l:List Int)(hl:l.length<=1000000)(h: ∀x∈l,-9223372036854775808<=x/\x<=9223372036854775807)(a:(pL (l.map fX)).length<=1000000):Ev ad 249 [ints l] (bh (nQ l)):=iG ajz.ok [(4,[.ev (KG l 35 [] fX hl λx hx=>vK x (h x hx).1 (h x hx).2)]),(5,[.ev (Cb (l.map fX) bD a)])] []
theorem Ml (a:List Wd)(i:Int)(b:0<=i)(c:i.toNat<a.length):Ev ad 347 [I i,.pi [strs a]] (bh (a.getD i.toNat [])):=iG ajc.ok [(6,[.i (.cells [bh (a.getD i.toNat [])])])] []
theorem P3 (a:List Wd)(l:List Int)(hl:l.length<=1000000)(h: ∀i∈l,0<=i/\i.toNat<a.length)(b:(pL (l.map λi=>a.getD i.toNat [])).length<=1000000):Ev ad 257 [strs a,ints l] (bh (wz a l)):=iG ah0.ok [(7,[.ev (KG l 347 [.pi [strs a]] (λi=>a.getD i.toNat []) hl λi hi=>Ml a i (h i hi).1 (h i hi).2)]),(8,[.ev (Cb (l.map λi=>a.getD i.toNat []) bD b)])] []
section
variable (m:gO) (hw:m.wf)
include hw
theorem MG (i:Nat)(w:rc)(hx:m.wo[i]? =some w):Ev ad 126 [I i,.agg w.ao,.pi m.ao] (I (rj m i)):=by
 have u:=(an.1 hx).1;have t:=hw.cn;have v:=hw.sn;have x:=hw.wn;have n:((m.cl.map λs=>[bh s]).length:Int)=m.cl.length:=aF;have j:((m.su.map kW.ao).length:Int)=m.su.length:=aF;have o:((m.wo.map rc.ao).length:Int)=m.wo.length:=aF;have a:rj m i=if ae 0 3 [w.sa]=true then 7 else if (ae 0 ((m.su.length:Int)-1) [w.su]||ae 0 ((if 2<=w.sa then(m.su.length:Int)else m.cl.length)-1) [w.of]||ae (-1) ((m.wo.length:Int)-1) [w.ba])=true then 4 else if w.ba=i\/(2<=w.sa/\w.of=w.su)then 2 else 0:=by unfold rj;rw[hx]
 have q:=jl 0 3 [w.sa];have f:=jl 0 ((m.su.length:Int)-1) [w.su];have l:=jl 0 ((if 2<=w.sa then(m.su.length:Int)else m.cl.length)-1) [w.of];have h4:=jl (-1) ((m.wo.length:Int)-1) [w.ba];have g:0<=(if 2<=w.sa then(m.su.length:Int)else m.cl.length)/\(if 2<=w.sa then(m.su.length:Int)else m.cl.length)<=9223372036854775807:=by split<;>omega
 generalize r:ae 0 3 [w.sa]=p at q a;generalize ae 0 ((m.su.length:Int)-1) [w.su]=b2 at f a;generalize ae 0 ((if 2<=w.sa then(m.su.length:Int)else m.cl.length)-1) [w.of]=b3 at l a;generalize ae (-1) ((m.wo.length:Int)-1) [w.ba]=b4 at h4 a;rw[<-j]at f;rw[<-o]at h4;refine ar aiP.ok<|bE [.bY] zz aK<|aJ zz<|eZ True (el [(0,I i),(2,.pi m.ao),(4,.pi w.ao),(6,I (if 2<=w.sa then(m.su.length:Int)else m.cl.length))]) [] [] ?_ ?_
 refine aa<|cZ zz ?_;by_cases h:2<=w.sa
 refine aC zz (by rw[decide_eq_true_iff];omega)<|cZ zz ?_;refine⟨(),zq,au ⟨zz,zz,zz,?_,zq⟩⟩;show I _=I _;rw[zy h,j]
 apply aH zz (by rw[decide_eq_false_iff_not];omega);refine⟨(),zq,au ⟨zz,zz,zz,?_,zq⟩⟩;show I _=I _;rw[zj h,n]
 intro _ _;generalize (if 2<=w.sa then(m.su.length:Int)else m.cl.length)=of at l g;refine dw (rj m i=0) (el []) [] [] ?_ ?_
 ·refine bE [.bY,.ret (B p)] zz ⟨zz,q,zq⟩ ?_;cases p with
  |true=>rw[zy zz]at a;refine aC zz zz<|aJ zz<|ab (aD ?_);rw[a];rfl
  |false=>
  rw[zj aG]at a;refine dm zz zz<|eZ True (el [(0,I i),(2,.pi m.ao),(4,.pi w.ao),(21,B (b2||b3||b4))]) [] [] ?_ ?_
  ·cases b2 with
   |true=>refine kD [(30,true),(38,true)] [.bY,.ret (B true)] zz (by(repeat' (with_reducible apply az));(all_goals first|exact zk _|((first|exact f|rfl)))) ?_;exact⟨(),zq,eL⟩
   |false=>
   cases b3 with
   |true=>refine kD [(30,false),(38,true)] [.bY,.ret (B false),.bY,.ret (B true)] zz (by(repeat' (with_reducible apply az));(all_goals first|exact zk _|((first|exact f|exact l|rfl)))) ?_;exact⟨(),zq,eL⟩
   |false=>refine kD [(30,false),(38,false)] [.bY,.ret (B false),.bY,.ret (B false),.bY,.ret (B b4)] zz (by(repeat' (with_reducible apply az));(all_goals first|exact zk _|((first|exact f|exact l|exact h4|rfl)))) ?_;exact⟨(),zq,eL⟩
  intro _ _;generalize (b2||b3||b4)=bb at a;cases bb with
  |true=>rw[zy zz]at a;refine aC zz zz<|aJ zz<|ab (aD ?_);rw[a];rfl
  |false=>
  rw[zj aG]at a;refine dm zz zz<|eZ True (el [(48,B (decide (w.ba=i\/(2<=w.sa/\w.of=w.su))))]) [] [] ?_ ?_
  ·by_cases d:w.ba=i
   ·have b:(w.ba==(i:Int))=true:=(by rw[beq_iff_eq];exact d);refine kD [(53,true)] [] zz (by(and_intros);(all_goals first|exact zk _|((first|exact b|rfl)))) ?_;refine⟨(),zq,au ⟨?_,zq⟩⟩;show B _=B _;simp [d]
   have b:(w.ba==(i:Int))=false:=(by rw[beq_eq_false_iff_ne];exact d);by_cases k:2<=w.sa
   ·have c:decide (w.sa>=2)=true:=(by rw[decide_eq_true_iff];exact k);refine kD [(53,false),(57,true)] [] zz (by(and_intros);(all_goals first|exact zk _|((first|exact b|exact c|rfl)))) ?_;refine⟨(),zq,au ⟨?_,zq⟩⟩;apply congrArg B;rw[a7];simp [d,k]
   have c:decide (w.sa>=2)=false:=(by rw[decide_eq_false_iff_not];exact k);refine kD [(53,false),(57,false)] [] zz (by(and_intros);(all_goals first|exact zk _|((first|exact b|exact c|rfl)))) ?_;refine⟨(),zq,au ⟨?_,zq⟩⟩;show B _=B _;simp [d,k]
  intro _ _;by_cases e:w.ba=i\/(2<=w.sa/\w.of=w.su);rw[zy e]at a;refine aC zz (decide_eq_true e)<|aJ zz<|ab (aD ?_);rw[a];rfl
  rw[zj e]at a;exact aH zz (decide_eq_false e) ⟨(),a,au zq⟩
 refine λ_ h=>aJ zz<|ab (aD ?_);rw[h];rfl
theorem Mv (i:Nat)(p:EB)(hx:m.pa[i]? =some p):Ev ad 128 [I i,.agg p.ao,.pi m.ao] (I (tD m i)):=by
 have g:=hw.cn;have j:=hw.sn;have e:((m.cl.map λs=>[bh s]).length:Int)=m.cl.length:=aF;have f:((m.su.map kW.ao).length:Int)=m.su.length:=aF;have a:tD m i=if (ae 0 ((m.su.length:Int)-1) [p.su]||ae 0 ((m.cl.length:Int)-1) [p.cl])=true then 4 else 0:=by unfold tD;rw[hx]
 have b:=jl 0 ((m.su.length:Int)-1) [p.su];have d:=jl 0 ((m.cl.length:Int)-1) [p.cl];generalize ae 0 ((m.su.length:Int)-1) [p.su]=c at b a;generalize ae 0 ((m.cl.length:Int)-1) [p.cl]=b2 at d a;rw[<-f]at b;rw[<-e]at d;refine ar akH.ok<|bE [.bY] zz aK<|eZ (tD m i=0) (el []) [] [] ?_ ?_
 ·refine eZ True (el [(23,B (c||b2))]) [] [] ?_ ?_
  ·cases c with
   |true=>refine kD [(14,true)] [.bY,.ret (B true)] zz (by(repeat' (with_reducible apply az));(all_goals first|exact zk _|((first|exact b|rfl)))) ?_;exact⟨(),zq,eL⟩
   |false=>refine kD [(14,false)] [.bY,.ret (B false),.bY,.ret (B b2)] zz (by(repeat' (with_reducible apply az));(all_goals first|exact zk _|((first|exact b|exact d|rfl)))) ?_;exact⟨(),zq,eL⟩
  intro _ _;generalize (c||b2)=bb at a;cases bb with
  |true=>rw[zy zz]at a;refine aC zz zz<|aJ zz<|ab (aD ?_);rw[a];rfl
  |false=>rw[zj aG]at a;exact aH zz zz ⟨(),a,au zq⟩
 refine λ_ h=>aJ zz<|ab (aD ?_);rw[h];rfl
theorem FB:Ev ad 54 [.agg m.ao] (.cG [I (ei m).1,I (ei m).2.1,I (ei m).2.2]):=by
 have res: ∀{Q:dl} {env:Env} {H:av} {x y r:Int},(∀env H,qn ad [.tmp 2,.tmp 3,.tmp 4] (.cG [I (ei m).1,I (ei m).2.1,I (ei m).2.2]) .ret env H []->Q .ret env H [])->ei m=(x,y,r)->env 2=I x->env 3=I y->env 4=I r->Q .ret env H []:=by intro Q env H x y r l h b c h4;refine l _ _ ?_;rw[h];exact gv (.inr zz) (.many aG ⟨.tmp b zz,.tmp c zz,.tmp h4 zz,zq⟩)
 have a:=ei.eq_1 m;have f1:=VC m.cl 4 119 [.pi m.ao] (dT m.cl) hw.cn (λi x hx=>Nv m hw i x hx);have f2:=λh4:m.cl.length<=4=>Uk m.su 5 121 [.pi m.ao] (tc m) hw.sn (λi x hx=>LF m hw h4 i x hx);have f3:=Ti m.wo 6 126 [.pi m.ao] (rj m) hw.wn (λi x hx=>MG m hw i x hx);have f4:=Wg m.pa 5 128 [.pi m.ao] (tD m) hw.pn (λi x hx=>Mv m hw i x hx);have d:(dv (dT m.cl) m.cl.length 4).2=0->m.cl.length<=4:=by intro h;unfold dv at h;by_cases h4:4<m.cl.length;grind;omega
 generalize (dv (dT m.cl) m.cl.length 4).1=a1 at f1 a;generalize (dv (dT m.cl) m.cl.length 4).2=f at f1 a d;generalize (dv (tc m) m.su.length 5).1=s1 at f2 a;generalize (dv (tc m) m.su.length 5).2=j at f2 a;generalize (dv (rj m) m.wo.length 6).1=w1 at f3 a;generalize (dv (rj m) m.wo.length 6).2=k at f3 a;generalize (dv (tD m) m.pa.length 5).1=n at f4 a;generalize (dv (tD m) m.pa.length 5).2=g at f4 a;refine ar S54.ok<|bE [.bY] zz aK<|bE [.ret (.cG [I a1,I f])] zz ⟨f1,zq⟩<|aa (aa ?_);apply cZ zz;by_cases e:f=0
 case neg=>rw[zy e]at a;refine aC zz bD<|aJ zz ?_;exact ab (res (λ_ _ h=>h) a zz zz zz)
 rw[zj (by simp [e])]at a;refine aH zz (by rw[e];rfl)<|bE [.ret (.cG [I s1,I j])] zz ⟨f2 (d e),zq⟩<|aa (aa ?_);apply cZ zz;by_cases b:j=0
 case neg=>rw[zy b]at a;refine aC zz bD<|aJ zz ?_;exact ab (res (λ_ _ h=>h) a zz zz zz)
 rw[zj (by simp [b])]at a;refine aH zz (by rw[b];rfl)<|bE [.ret (.cG [I w1,I k])] zz ⟨f3,zq⟩<|aa (aa ?_);apply cZ zz;by_cases c:k=0
 case neg=>rw[zy c]at a;refine aC zz bD<|aJ zz ?_;exact ab (res (λ_ _ h=>h) a zz zz zz)
 rw[zj (by simp [c])]at a;refine aH zz (by rw[c];rfl)<|bE [.ret (.cG [I n,I g])] zz ⟨f4,zq⟩<|aa (aa ?_);apply cZ zz;by_cases h4:g=0
 case neg=>rw[zy h4]at a;refine aC zz bD<|aJ zz ?_;exact ab (res (λ_ _ h=>h) a zz zz zz)
 rw[zj (by simp [h4])]at a;refine aH zz (by rw[h4];rfl)<|aJ zz ?_;exact ab (res (λ_ _ h=>h) a zz zz zz)
end
structure ln.OK (d:ln):Prop where
 wf:d.wf
 st0:1<=d.st
 Wh:d.st<=6
 we0:0<=d.we
 we9:d.we<=9
 c4:d.cs.length<=4
 h4:d.hs.length<=4
 cl: ∀x∈d.cs,(x.ed.length:Int)=d.st
 hl: ∀x∈d.hs,(x.ed.length:Int)<=d.st
 ce: ∀x∈d.cs,∀v∈x.ed,0<=v/\v<=9
 he: ∀x∈d.hs,∀v∈x.ed,-1<=v/\v<=9
theorem Ca {l:List Int}{i:Nat}{v:Int}(h:l[i]? =some v):l.getD i 0=v:=by rw[List.getD_eq_getElem?_getD,h];rfl
def lz (we:Int)(b a:List Int)(n:Nat):Bool:=(a6 n).all λi=>a.getD i 0== -1|| !ae 0 we [b.getD i 0-a.getD i 0]
theorem Rv {d:ln}(ok:d.OK)(c1 o:AV){h c s:Nat}{x y:qm}(hx:d.cs[c]? =some x)(hy:d.hs[h]? =some y)(hs:s<=x.ed.length):Ev ad 423 [.pi (d.ao++[c1,o]),.agg [I h,I c,I s]] (B (jh d h c s)):=by
 have F:=(an.1 hx).1;have G:=(an.1 hy).1;have C:((d.cs.map qm.ao).length:Int)=d.cs.length:=aF;have D:((d.hs.map qm.ao).length:Int)=d.hs.length:=aF;have c4:=ok.c4;have h4:=ok.h4;have i:jh d h c s=(decide (y.ed.length<=(x.ed.drop s).length)&&lz d.we (x.ed.drop s) y.ed y.ed.length):=by unfold jh N0;rw[hx,hy];rfl
 have b:=ok.ce x (ap hx);have q:=ok.he y (ap hy);have K:=ok.hl y (ap hy);have Wh:=ok.Wh;refine ar aj8.ok<|bE [.bY] zz aK<|xe [] [.cells x.ao,.cells y.ao] zz ⟨⟨af,by simp [hx]⟩,⟨bL,by simp;omega,aF⟩,⟨af,by simp [hy]⟩,zq⟩<|ag (au (l:=[(0,.pi (d.ao++[c1,o])),(5,ints (x.ed.drop s)),(6,ints y.ed)]) ⟨zz,by show AV.sl 1 _=AV.sl 1 _;simp [kI,List.map_drop],zz,zq⟩) ?_;have b: ∀v∈x.ed.drop s,0<=v/\v<=9:=λv m=>b v (List.mem_of_mem_drop m);generalize x.ed.drop s=a at i b;refine aa (aa ?_);apply cZ zz;by_cases hl:y.ed.length<=a.length
 case neg=>refine aC zz bD<|aJ zz<|ab (aD ?_);rw[i,decide_eq_false hl];rfl
 have i:jh d h c s=lz d.we a y.ed y.ed.length:=bD;refine aH zz bD<|aa (aa ?_);refine cZ zz<|cj (lz d.we a y.ed y.ed.length=true) (el []) [] [] ?_ ?_
 ·refine gf (λk:Nat=>k<=y.ed.length/\lz d.we a y.ed k=true) (λk=>el [(0,.pi (d.ao++[c1,o])),(5,ints a),(37,ints y.ed),(38,I y.ed.length),(39,I k)]) (λk=>y.ed.length-k) 0 nN
   (au ⟨zz,zz,zz,by show I _=I _;simp,zz,zq⟩) ?_
  rintro k ⟨hk,hi⟩;refine aJ zz<|aa (aj zz (λhc=>?_) (λhc=>?_))
  ·simp at hc;obtain⟨n,r⟩:=bq hc;obtain⟨v,m⟩:=bq (l:=a) (k:=k) af;have H:=q n (ap r);have J:=b v (ap m);have u:=lG 0 d.we [v-n];have p:lz d.we a y.ed (k+1)=(n== -1|| !ae 0 d.we [v-n]):=(by have:lz d.we a y.ed (k+1)=(lz d.we a y.ed k&&(y.ed.getD k 0== -1|| !ae 0 d.we [a.getD k 0-y.ed.getD k 0])):=(by unfold lz;rw[bs,cR];simp);rw[this,hi,Ca r,Ca m];rfl);have t:(n== -1|| !ae 0 d.we [v-n])=false->jh d h c s=false:=by
    intro z;rw[i];have:lz d.we a y.ed y.ed.length=true->lz d.we a y.ed (k+1)=true:=(by intro f;unfold lz at f ⊢;rw[List.all_eq_true]at f ⊢;exact λj E=>f j (bm.2 (by have:=bm.1 E;omega)));cases A:lz d.we a y.ed y.ed.length with
    |false=>rfl
    |true=>rw[p,z]at this;exact absurd (this A) aG
   generalize ae 0 d.we [v-n]=bb at u p t;refine ak (aa (ay ?_));refine bE [.cells [I n]] zz ⟨⟨af,by simp [r]⟩,zq⟩<|eZ True (el [(0,.pi (d.ao++[c1,o])),(5,ints a),(37,ints y.ed),(38,I y.ed.length),(39,I k),(60,B (!(n== -1|| !bb)))]) [] [] ?_ ?_
   ·by_cases f:n= -1
    ·have g:(n != -1)=false:=(by simp [f]);refine tI [(46,false)] [] zz (by(and_intros);(all_goals first|exact zk _|((exact g)))) ?_;exact⟨(),zq,au ⟨zz,zz,zz,zz,zz,by show B _=B _;simp [f],zq⟩⟩
    ·have g:(n != -1)=true:=(by simp [f]);refine tI [(46,true)] [.cells [I v],.bY,.ret (B bb)] zz (by(repeat' (with_reducible apply az));(all_goals first|exact zk _|((first|exact g|exact u|(simp [m];done))))) ?_;exact⟨(),zq,au ⟨zz,zz,zz,zz,zz,by show B _=B _;simp [f],zq⟩⟩
   intro _ _;cases w:(n== -1|| !bb)with
   |false=>refine aC zz zz<|aJ zz<|ab (aD ?_);rw[t w];rfl
   |true=>refine aH zz zz<|fE zz bL ?_;exact⟨k+1,⟨hc,by rw[p];exact w⟩,af,eL⟩
  simp only[nL]at hc;have e:k=y.ed.length:=af;subst e;exact aE ⟨(),hi,au zq⟩
 intro _ h;refine aJ zz<|ab (aD ?_);rw[i,h];rfl
abbrev pk (h c s:Nat):Value:=.agg #[.int .i64 h,.int .i64 c,.int .i64 s]
theorem NI {n:Nat}(h:n<60):(ff .i64 (n:Nat)).wf=true:=oE af af
theorem pkW {h c s:Nat}(d:h<60)(e:c<60)(f:s<60):bS ad 3 516 (pk h c s):=by have a:ad.cellsOf 516=3:=aX;have b:ad.cellsOf 3=1:=aX;refine⟨?_,[.int .i64 h,.int .i64 c,.int .i64 s],?_⟩;simp [fj,ej,a];simp [fr,e0,ej,Tryz.underlying3,a,b,NI d,NI e,NI f,bs]
theorem Py:iQ ad 516 (bS ad 3 516):=iQ.wide (m:=3) aG aX aX aX
theorem acU {h c s b a s':Nat}(e:pk h c s=pk b a s'):h=b/\c=a/\s=s':=bD
def GD (d:ln)(k:Value)(v:AV):Prop:= ∃h c s n:Nat,h<d.hs.length/\c<d.cs.length/\(s:Int)<d.st/\jh d h c s=true/\k=pk h c s/\v=I (n+1)
structure DT where
 es:List (Value×AV)
 os:List (List AV)
 y:Option (Option Addr×Nat)
variable {x:DT}
structure DI (d:ln)(h c s:Nat)(x:DT):Prop where
 hm:zY (GD d) x.es
 full: ∀h' c' s':Nat,(h'<h\/(h'=h/\(c'<c\/(c'=c/\s'<s))))->h'<d.hs.length->c'<d.cs.length->(s':Int)<d.st->jh d h' c' s'=true->pk h' c' s'∈x.es.map (·.1)
 hy:x.y=none->x.os=[]
 ol:x.os.length<=6*(4*h+c)+s
theorem GD.key {d:ln}(ok:d.OK){k:Value}(h:GD d k v):bS ad 3 516 k:=by obtain⟨h,c,s,n,a,b,e,_,rfl,_⟩:=h;have:=ok.h4;have:=ok.c4;have:=ok.Wh;exact pkW af af af
theorem VQ {es:List (Value×AV)}{k:Value}(a:CC es k o):(∀b,b∈es.map (·.1)->b∈(mA es k v o).map (·.1))/\k∈(mA es k v o).map (·.1):=by
 rw[EY a];cases a with
 |none h=>grind
 | @some j p h=>grind
abbrev tE:DT->List (Nat×AV)
 |⟨_,_,none⟩=>[]
 |⟨_,os,some (a,cap)⟩=>[(54,.gT 516 3 os a cap)]
def tA:Option (Option Addr×Nat)->Option Addr|none=>none|some z=>z.1
def tR:Option (Option Addr×Nat)->Nat|none=>0|some z=>z.2
abbrev tC (x:DT):AV:=.v (.slice (tA x.y) x.os.length (tR x.y))
theorem ir {env:Env}{l m:List (Nat×AV)}(h:uX env l)(k:uX env m):uX env (l++m):=by
 induction l with
 |nil=>exact k
 |cons x l a=>exact⟨h.1,a h.2⟩
abbrev tH (d:ln)(b3 g:Nat)(x:DT):av:=[(b3,.cells 483 (d.ao++[tC x,.mo g])),(g,.map x.es)]
section
variable {d:ln} (ok:d.OK) (b3 g:Nat)
include ok
theorem agc {h c s:Nat}(a:DI d h c s x)(hh:h<d.hs.length)(hc:c<d.cs.length)(hs:(s:Int)<d.st)(l:jh d h c s=true)(n:Nat)(g:CC x.es (pk h c s) o)(v:List AV)(z:Option Addr×Nat):
  DI d h c (s+1) ⟨mA x.es (pk h c s) (I ((n:Nat)+1)) o,x.os++[v],some z⟩:=by have:=ok;obtain⟨p,q⟩:=VQ (v:=I ((n:Nat)+1)) g;refine⟨zY.put g (a.hm.M8 _) ⟨h,c,s,n,hh,hc,hs,l,zz,zz⟩,?_,(λe=>by cases e),?_⟩;intro f b s' m a1 i j k;by_cases e:f=h/\b=c/\s'=s;grind;exact p _ (a.full f b s' af a1 i j k);have:=a.ol;simp;omega
theorem aed {h c s:Nat}(a:DI d h c s x)(l:jh d h c s=false):DI d h c (s+1) x:=by have:=ok;refine⟨a.hm,?_,a.hy,by have:=a.ol;omega⟩;intro f b s' k a1 g i j;by_cases e:f=h/\b=c/\s'=s;grind;exact a.full f b s' af a1 g i j
end
structure sQ (d:ln)(es:List (Value×AV)):Prop where
 hm:zY (GD d) es
 full: ∀h c s:Nat,h<d.hs.length->c<d.cs.length->(s:Int)<d.st->jh d h c s=true->pk h c s∈es.map (·.1)
abbrev EJ (d:ln)(os:List (List AV))(es:List (Value×AV)):AV:=.pi (d.ao++[.sl 3 os,.mi es])
abbrev tL (d:ln)(b3 h c s:Nat):List (Nat×AV):=[(1,.pi d.ao),(3,.po b3 0),(13,mW d.hs),(14,I d.hs.length),(15,I h),(19,mW d.cs),(20,I d.cs.length),(21,I c),(25,I d.st),(26,I s),(4,I h),(5,I c)]
section
variable {d:ln} (ok:d.OK) (b3 g:Nat)
include ok
theorem Ta {h c s:Nat}(q:DI d h c s x)(hh:h<d.hs.length)(hc:c<d.cs.length)(hs:(s:Int)<d.st)
  {Q:dl} (K: ∀G env H,DI d h c (s+1) G->bO env H [] (el (tL d b3 h c s++tE G)) (tH d b3 g G) []->Q .normal env H []):
  aU ad none 61 (match af1 with| .seq _ (.seq _ (.seq (.seq _ (.block _ (.loop (.seq _ (.seq _ (.seq (.block _ (.seq _ (.seq _ (.block _ (.loop (.seq _ (.seq _ (.seq (.block _ (.seq _ (.seq _ (.block _ (.loop (.seq _ (.seq _ (.seq (.block _ b) _)))))))) _)))))))) _)))))) _))=>b|_=>.skip)
   Q (el (tL d b3 h c s++tE x)) (tH d b3 g x) []:=by
 obtain⟨J,hx⟩:=bq hc;obtain⟨L,hy⟩:=bq hh;have k:=Rv ok (tC x) (.mo g) hx hy (s:=s) (by have:=ok.cl J (ap hx);omega);have h4:=ok.h4;have c4:=ok.c4;have Wh:=ok.Wh;have C:bS ad 3 516 (pk h c s):=pkW af af af;have F:=q.ol;have a: ∀(env:Env),env 54=el (tE x) 54->uX env (tE x):=by
  intro env he;obtain⟨es,os,y⟩:=x;rcases y with _|⟨r,cap⟩
  trivial;exact⟨he,zq⟩
 refine aJ zz<|bE [.aT] zz eQ<|ag (aq (t:=7) zz) ?_
 generalize w:jh d h c s=bb at k;refine bE [.H9 [.pi (d.ao++[tC x,.mo g]),.agg [I h,I c,I s]] (B bb)] zz ⟨⟨k,zz,.po (i:=0) zz,.refl _,zq⟩,zq⟩ ?_;cases bb with
 |false=>refine aH zz zz (K x _ _ (aed ok q w) (au (ir ⟨zz,zz,zz,zz,zz,zz,zz,zz,zz,zz,zz,zz,zq⟩ (a _ zz))))
 |true=>
  apply aC zz zz;obtain⟨o,E⟩:=GU x.es (pk h c s);have A: ∀e∈x.es,bS ad 3 516 e.1:=λe he=>(q.hm.ok e he).key ok;refine aa (zg [] [.at 0,.at 0] zz ⟨zz,zz,⟨af,af⟩,zq⟩ ?_);refine ah (aO.jH (n:=1) Py zz zz zz C A E zz zz ?_);refine bF<|ag (aw (H':=[(b3,.cells 483 (d.ao++[tC x,.mo g])),(g,.map (mA x.es (pk h c s) (I ((x.os.length:Nat)+1)) o))]) zz) ?_
  have f:=λz=>agc ok q hh hc hs w x.os.length E [I h,I c,I s] z;refine ag (au (l:=tL d b3 h c s++tE x++[(7,.pi [I h,I c,I s])]) (ir (ir (l:=tL d b3 h c s) ⟨zz,zz,zz,zz,zz,zz,zz,zz,zz,zz,zz,zz,zq⟩ (a _ zz)) ⟨zz,zq⟩)) ?_;generalize mA x.es (pk h c s) (I ((x.os.length:Nat)+1)) o=u at f;have fin: ∀(H:av) (env:Env) (z:Option Addr×Nat),bO env H [] (el (tL d b3 h c s++tE ⟨u,x.os++[[I h,I c,I s]],some z⟩)) (tH d b3 g ⟨u,x.os++[[I h,I c,I s]],some z⟩) []->Q .normal env H []:=λH env z he=>K _ _ _ (f z) he;clear f A E C k K a;obtain⟨es,os,y⟩:=x;have D:=q.hy;clear q;simp only at F D fin;have sub: ∀(n m cap:Nat) (r:Option Addr),n=m->fK (.v (.slice r n cap)) (.v (.slice r m cap)):=by intro n m cap r e;subst e;exact bj _
  rcases y with _|⟨r,cap⟩;have:=D zz;subst this;refine ag (bO.oM (j:=0) (p:=tC ⟨es,[],none⟩) d.ao [.mo g] .nil zz (λS v h=>by simp only[bf]at h ⊢;exact h))<|zg [] [.at 0,.bY] zz ⟨zz,zz,⟨by show 1*24<=_;decide,by show 1<=_;decide⟩,zq⟩<|aY.mJ (t:=54) zz (λe=>by cases e) (λgg cap=>?_)
  refine ah (bz (i:=1) zz zz zz zz zz zz (by show 6<=7;decide) ?_);refine aR (bO.soV (i:=0) (t:=54) zz zz zz)<|aR (bO.oM (j:=0) (p:=.so gg 1 cap) d.ao [.mo g] (.v (.slice (some ⟨gg,0,none⟩) 1 cap)) zz (λS v h=>by simp only[bf]at h ⊢;exact h))<|bF (fin _ _ (some ⟨gg,0,none⟩,cap) ?_)
  exact au (ir (l:=tL d b3 h c s) ⟨zz,zz,zz,zz,zz,zz,zz,zz,zz,zz,zz,zz,zq⟩ cI)
  refine zg [] [.at 0,.bY,.own 54] zz ⟨zz,zz,⟨dO,by show (os.length+1)*24<=_;omega,by show os.length+1<=_;omega⟩,zq⟩<|aY.mJ (t:=54) (es:=os++[[I h,I c,I s]]) zz (λe=>by simp at e) (λgg cap=>?_)
  refine ah (bz (i:=1) zz zz zz zz zz zz (by show 6<=7;decide) ?_);refine aR (bO.soV (i:=0) (t:=54) zz zz zz)<|aR (bO.oM (j:=0) (p:=.so gg (os++[[I h,I c,I s]]).length cap) d.ao [.mo g] (.v (.slice (some ⟨gg,0,none⟩) (os++[[I h,I c,I s]]).length cap)) zz (λS v h=>by simp only[bf]at h ⊢;exact h))<|bF (fin _ _ (some ⟨gg,0,none⟩,cap) ?_)
  exact au (ir (l:=tL d b3 h c s) ⟨zz,zz,zz,zz,zz,zz,zz,zz,zz,zz,zz,zz,zq⟩ cI)
end
section
variable {d:ln} (ok:d.OK)
include ok
theorem ack {h c s:Nat}(a:DI d h c s x)(hs:(s:Int)=d.st):DI d h (c+1) 0 x:=by have Wh:=ok.Wh;refine⟨a.hm,?_,a.hy,by have:=a.ol;omega⟩;exact λi g s' j a1 b e f=>a.full i g s' af a1 b e f
theorem abD {h:Nat}(a:DI d h d.cs.length 0 x):DI d (h+1) 0 0 x:=by have c4:=ok.c4;refine⟨a.hm,?_,a.hy,by have:=a.ol;omega⟩;exact λg f s' i a1 b c e=>a.full g f s' af a1 b c e
abbrev tL1 (d:ln)(a h:Nat):List (Nat×AV):=[(1,.pi d.ao),(3,.po a 0),(13,mW d.hs),(14,I d.hs.length),(15,I h)]
abbrev tL2 (d:ln)(a h c:Nat):List (Nat×AV):=[(1,.pi d.ao),(3,.po a 0),(13,mW d.hs),(14,I d.hs.length),(15,I h),(19,mW d.cs),(20,I d.cs.length),(21,I c),(4,I h)]
abbrev tL3 (d:ln)(a h c s:Nat):List (Nat×AV):=[(1,.pi d.ao),(3,.po a 0),(13,mW d.hs),(14,I d.hs.length),(15,I h),(19,mW d.cs),(20,I d.cs.length),(21,I c),(25,I d.st),(26,I s),(4,I h),(5,I c)]
theorem Sv:iM ad 394 [.agg d.ao] [] (λr _=> ∃os es,r=EJ d os es/\sQ d es):=by
 have h4:=ok.h4;have c4:=ok.c4;have Wh:=ok.Wh;have st0:=ok.st0;have a: ∀(x:DT) (env:Env),env 54=el (tE x) 54->uX env (tE x):=by
  intro x env he;obtain⟨es,os,y⟩:=x;rcases y with _|⟨E,cap⟩
  trivial;exact⟨he,zq⟩
 refine bH af8.ok<|bE [.bY] zz aK<|aa (aA ?_);refine lY 1 zz zz<|ah (aO.vY (λg=>?_));refine mO [.aT] 2 zz zz aK<|aY.ie (t:=11) zz (λf=>?_);refine gk zz<|ag (aw zz)<|aa (aa ?_);refine cZ zz<|aU.iN (λx=>DI d d.hs.length 0 0 x) (λx=>el ([(1,.pi d.ao),(3,.po f 0)]++tE x)) (λx=>tH d f g x) (λ_=>[]) ?_ ?_
 refine bJ (X:=Nat×DT) (λz=>z.1<=d.hs.length/\DI d z.1 0 0 z.2) (λz=>el (tL1 d f z.1++tE z.2)) (λz=>tH d f g z.2) (λ_=>[]) (λz=>d.hs.length-z.1) (0,⟨[],[],none⟩)
  ⟨fk _,⟨zY.nil _,λP O s' h=>af,λ_=>rfl,aF⟩⟩ (au ⟨zz,zz,zz,by show I _=I _;simp,zz,zq⟩) ?_
 rintro⟨h,x⟩ ⟨hh,o⟩;simp only at hh o ⊢;refine aJ zz<|aa (aj zz (λhc=>?_) (λhc=>?_));simp at hc;refine ak<|aU.sH (λx=>DI d (h+1) 0 0 x) (λx=>el (tL1 d f h++tE x)) (λx=>tH d f g x) (λ_=>[]) ?_ ?_
 refine aJ zz<|aa<|cZ zz<|ay<|bJ (X:=Nat×DT) (λz=>z.1<=d.cs.length/\DI d h z.1 0 z.2) (λz=>el (tL2 d f h z.1++tE z.2)) (λz=>tH d f g z.2) (λ_=>[]) (λz=>d.cs.length-z.1) (0,x) ⟨fk _,o⟩
  (au (ir ⟨zz,zz,zz,zz,zz,zz,by show I _=I _;simp,zz,zz,zq⟩ (a _ _ zz))) ?_
 rintro⟨c,x⟩ ⟨C,w⟩;simp only at C w ⊢;refine aJ zz<|aa (aj zz (λk=>?_) (λk=>?_));simp only[nL]at k;refine ak<|aU.sH (Y:=DT) (λx=>DI d h (c+1) 0 x) (λx=>el (tL2 d f h c++tE x)) (λx=>tH d f g x) (λ_=>[]) ?_ ?_
 refine aJ zz<|aa<|cZ zz<|ay<|bJ (X:=Nat×DT) (λz=>(z.1:Int)<=d.st/\DI d h c z.1 z.2) (λz=>el (tL3 d f h c z.1++tE z.2)) (λz=>tH d f g z.2) (λ_=>[]) (λz=>d.st.toNat-z.1) (0,x) ⟨by simp only;omega,w⟩
  (au (ir (l:=tL3 d f h c 0) ⟨zz,zz,zz,zz,zz,zz,zz,zz,zz,zz,zz,zz,zq⟩ (a _ _ zz))) ?_
 rintro⟨s,x⟩ ⟨D,A⟩;simp only at D A ⊢;refine aJ zz<|aa (aj zz (λm=>?_) (λm=>?_));simp only[decide_eq_true_eq]at m;refine ak<|aU.sH (Y:=DT) (λx=>DI d h c (s+1) x) (λx=>el (tL3 d f h c s++tE x)) (λx=>tH d f g x) (λ_=>[]) ?_ ?_
 refine ag (au (ir (l:=tL3 d f h c s) ⟨zz,zz,zz,zz,zz,zz,zz,zz,zz,zz,zz,zz,zq⟩ (a _ _ zz))) ?_;exact Ta ok f g A hc k m (λq env H i e=>⟨q,i,e⟩);intro q u;refine fE zz bL ?_;exact⟨(s+1,q),⟨by simp only;omega,u⟩,by simp only;omega,au (ir (l:=tL3 d f h c (s+1)) ⟨zz,zz,zz,zz,zz,zz,zz,zz,zz,zz,zz,zz,zq⟩ (a _ _ zz))⟩
 simp only[decide_eq_false_iff_not]at m;exact aE ⟨x,ack ok A af,au (ir (l:=tL2 d f h c) ⟨zz,zz,zz,zz,zz,zz,zz,zz,zz,zq⟩ (a _ _ zz))⟩
 intro q u;refine fE zz bL ?_;exact⟨(c+1,q),⟨by simp only;omega,u⟩,by simp only;omega,au (ir (l:=tL2 d f h (c+1)) ⟨zz,zz,zz,zz,zz,zz,zz,zz,zz,zq⟩ (a _ _ zz))⟩
 simp only[nL]at k;have e:c=d.cs.length:=af;subst e;exact aE ⟨x,abD ok w,au (ir (l:=tL1 d f h) jt (a _ _ zz))⟩
 intro q u;refine fE zz bL ?_;exact⟨(h+1,q),⟨by simp only;omega,u⟩,by simp only;omega,au (ir (l:=tL1 d f (h+1)) jt (a _ _ zz))⟩
 simp only[nL]at hc;have e:h=d.hs.length:=af;subst e;exact aE ⟨x,o,au (ir (l:=[(1,.pi d.ao),(3,.po f 0)]) jA (a _ _ zz))⟩
 intro x o;have K:sQ d x.es:=⟨o.hm,λh c s a1 F G J=>o.full h c s af a1 F G J⟩;have hy:=o.hy;obtain⟨es,os,y⟩:=x;simp only at K hy;have fin: ∀(p:AV) (n:List (Nat×AV)),fK p (.sl 3 os)->aU ad none 61 (.seq (.ops [⟨some 60,none,.tJ (tm 3)⟩,⟨some 2,none,.tJ (tm 60)⟩]) .ret) (yH ad [.tmp 2] (λr _=> ∃os es,r=EJ d os es/\sQ d es)) (el ((3,.po f 0)::n)) [(f,.cells 483 (d.ao++[p,.mo g])),(g,.map es)] []:=by intro p n N;refine ag (ai (bO.oM (j:=0) (p:=p) d.ao [.mo g] (.sl 3 os) zz N) (aw (H':=[(f,.cells 483 (d.ao++[.sl 3 os,.mo g])),(g,.map es)]) zz))<|ag (bO.jw (i:=0) 3 zz zz)<|ag (ai (au (l:=[(3,.pi (d.ao++[.sl 3 os,.mo g]))]) ⟨zz,zq⟩) (bO.nh (i:=0) (t:=3) (b:=g) (es:=es) zz zz))<|ag (au (l:=[(3,EJ d os es)]) ⟨by show AV.pi _=_;simp [EP],zq⟩)<|aJ zz ?_;exact ab ⟨.inr zz,_,_,[],zz,.one (.tmp zz zz),⟨os,es,zz,K⟩,eP _⟩
 rcases y with _|⟨E,cap⟩;have e:=hy zz;subst e;refine iF [(3,.po f 0)] ?_;exact fin (.v (.slice none 0 0)) [] (λS v h=>by simp only[bf]at h ⊢;exact .inl ⟨⟨none,h⟩,zq⟩);refine iF [(3,.po f 0),(54,.gT 516 3 os E cap)]<|aU.SN 54 zz (λL B M=>?_) (λgg B=>?_)
 subst L B M;refine iF [(3,.po f 0)] ?_;exact fin (.v (.slice none 0 0)) [] (λS v h=>by simp only[bf]at h ⊢;exact .inl ⟨⟨none,h⟩,zq⟩);subst B;refine iF [(3,.po f 0)]<|ag (ai (bO.oM (j:=1) (p:=.v (.slice (some ⟨gg,0,none⟩) os.length cap)) d.ao [.mo g] (.so gg os.length cap) zz (λS v h=>by simp only[bf]at h ⊢;exact h)) (bO.nU (i:=0) (j:=0) (d.ao++[.sl 3 os,.mo g]) zz zz ?_)) ?_
 exact⟨.inl zz,.inl zz,.inl zz,.inl zz,.inl zz,.inr gJ,.inl zz,zq⟩;exact fin _ [] (bj _)
end
section
variable {d:ln} (ok:d.OK) {os:List (List AV)} {es:List (Value×AV)} (K:sQ d es)
include ok K
theorem Tg {h c:Nat}(hh:h<d.hs.length)(hc:c<d.cs.length):Ev ad 425 [EJ d os es,I h,I c] (B (uV d h c)):=by
 have h4:=ok.h4;have c4:=ok.c4;have Wh:=ok.Wh;have st0:=ok.st0;have t:(ad.info? 3).bind (·.zero)=some (.int .i64 0):=aX;have f: ∀e∈es,bS ad 3 516 e.1:=λe he=>(K.hm.ok e he).key ok;refine ar ahX.ok<|aJ zz<|aa (aa ?_);refine cZ zz<|cj (uV d h c=false) (el []) [] [] ?_ ?_
 refine gf (λk:Nat=>(k:Int)<=d.st/\ ∀j,j<k->jh d h c j=false) (λk=>el [(0,EJ d os es),(1,I h),(2,I c),(12,I d.st),(13,I k)]) (λk=>d.st.toNat-k) 0 ⟨af,λj a=>af⟩ eL ?_;rintro k ⟨hk,hi⟩;refine aJ zz<|aa (aj zz (λhd=>?_) (λhd=>?_))
 simp at hd;refine ak (aa (ay ?_));apply aJ zz;obtain⟨o,i⟩:=GU es (pk h c k);refine aa (aA ?_);refine lY 8 zz zz<|ah (aO.HX Py t zz zz (pkW af af af) f i ?_);rcases Db i K.hm with rfl|⟨j,p,rfl,v,u,s',n,_,_,_,l,m,rfl⟩
 have g:jh d h c k=false:=by
  cases r:jh d h c k with
  |false=>rfl
  |true=>
   have:=K.full h c k hh hc hd r;cases i with
   |none s=>obtain⟨e,he,b⟩:=b7.1 this;exact absurd b (s e he)
 refine gk zz<|aH zz zz<|fE zz bL ?_;refine⟨k+1,⟨af,λj a=>?_⟩,af,eL⟩;by_cases e:j=k
 subst e;exact g;exact hi j af
 obtain⟨rfl,rfl,rfl⟩:=acU m;refine gk zz<|aC zz (by rw[decide_eq_true_iff];omega)<|aJ zz<|ab (aD ?_);apply congrArg B;unfold uV;symm;rw[List.any_eq_true];exact⟨k,bm.2 af,l⟩
 simp at hd;refine aE ⟨(),?_,au zq⟩;unfold uV;rw[List.any_eq_false];intro j a;rw[hi j (by have:=bm.1 a;omega)];decide
 refine λ_ q=>aJ zz<|ab (aD ?_);rw[q];rfl
end
abbrev jJ (f:Nat->Nat):List AV:=[I (f 0:Nat),I (f 1:Nat),I (f 2:Nat),I (f 3:Nat)]
theorem zZ (f:Nat->Nat)(h:k<4):[I (f k:Nat)]<+:(jJ f).drop (k*1):=by
 match k,h with
 |0,_=>exact⟨_,zz⟩
 |1,_=>exact⟨_,zz⟩
 |2,_=>exact⟨_,zz⟩
 |3,_=>exact⟨_,zz⟩
theorem Aa (f:Nat->Nat)(v:Nat)(h:k<4):bU (jJ f) (0+k*1) [I (v:Nat)]=jJ (λj=>if j=k then v else f j):=by
 match k,h with
 |0,_=>rfl
 |1,_=>rfl
 |2,_=>rfl
 |3,_=>rfl
theorem Ia {a:Nat->Nat}{n:Nat}(hk:k=p.length)(ha: ∀i,i≠k->a i=aP p i):(λj=>if j=k then n else a j)=aP (p++[n]):=by grind [kQ,nH]
theorem K1 {a:Nat->Nat}(hk:k=p.length)(ha: ∀i,i≠k->a i=aP p i):(λj=>if j=k then 0 else a j)=aP p:=by grind [nH]
def nY (p:List Nat):Nat:=p.foldl (λs k=>if k=0 then s else s ||| 2^(k-1)) 0
theorem Dr (p:List Nat)(k:Nat):nY (p++[k])=if k=0 then nY p else nY p ||| 2^(k-1):=by unfold nY;rw[er];rfl
theorem FP (c:Nat)(p:List Nat):(nY p).testBit c=p.contains (c+1):=by
 have key: ∀(p:List Nat) (s:Nat),(p.foldl (λs k=>if k=0 then s else s ||| 2^(k-1)) s).testBit c=(s.testBit c||p.contains (c+1)):=by
  intro p;induction p with
  |nil=>intro s;simp
  |cons k p a=>grind
 unfold nY;rw[key];simp
theorem SQ {n:Nat}(h: ∀k∈p,k<=n):nY p<2^n:=by apply Nat.lt_pow_two_of_testBit;intro i hi;rw[FP,Bool.eq_false_iff];intro hc;have:=h (i+1) bD;omega
theorem qw {α β:Type}(q:α->Bool)(g:α->List β): ∀l:List α,(l.filter q).flatMap g=l.flatMap λc=>if q c=true then g c else[]
 |[]=>rfl
 |c::l=>by
  cases h:q c with
  |true=>rw[List.filter_cons_of_pos h,b1,b1,qw q g l,h,zy zz]
  |false=>rw[List.filter_cons_of_neg (by rw[h];decide),b1,qw q g l,h,zj aG];rfl
def tch (d:ln)(m:Nat)(p:List Nat)(c:Nat):List (List Nat):=if (!p.contains (c+1)&&uV d p.length c)=true then du (kS d) m (p++[c+1])else[]
theorem WJ (d:ln)(m:Nat)(p:List Nat):du (kS d) (m+1) p=du (kS d) m (p++[0])++(a6 d.cs.length).flatMap (tch d m p):=by
 rw[show du (kS d) (m+1) p=(0::((a6 d.cs.length).filter λc=> !p.contains (c+1)&&uV d p.length c).map (·+1)).flatMap (λk=>du (kS d) m (p++[k]))from rfl,b1];congr 1;rw[List.flatMap_map];have a:tch d m p=λc=>if (!p.contains (c+1)&&uV d p.length c)=true then du (kS d) m (p++[c+1])else[]:=rfl
 rw[a];exact qw _ _ _
theorem Z7 {d:ln}(h:k∈kS d p):k<=d.cs.length:=by grind [kS]
theorem yW (p:List Nat)(k:Nat):dK (p++[k])=dK p+if k=0 then 1 else 0:=by unfold dK;rw[List.count_append];simp [List.count_singleton]
abbrev FV (f:Nat):AV:=.fn (.func f) [] []
abbrev XU (sa:Int):Nat:=if sa=0\/sa=2 then 432 else 433
theorem abx (sa a b:Int):Ev ad (XU sa) [I a,I b] (B (ZW sa a b)):=by
 unfold XU ZW;by_cases h:sa=0\/sa=2;rw[zy h,zy h];refine ar amy.ok<|aJ zz<|aJ zz<|ab (aD ?_);rfl
 rw[zj h,zj h];refine ar ah2.ok<|aJ zz<|aJ zz<|ab (aD ?_);rfl
abbrev OY:List AV:=[FV 432,FV 433,FV 432,FV 433]
theorem Nj:Ev ad 416 [] (.agg OY):=by refine ar aka.ok<|bE [.aT] zz cI<|bE [.aT,.aT] zz ⟨zz,⟨zz,zz,zz,a8 1⟩,zq⟩<|ag (aq (t:=1) zz)<|bE [.aT,.aT] zz ⟨zz,⟨zz,zz,zz,a8 1⟩,zq⟩<|ag (aq (t:=2) zz)<|bE [.aT] zz ⟨⟨zz,zz,zz,a8 4⟩,zq⟩<|ag (aq (t:=0) zz) ?_;exact ab (gv (.inr zz) (.one (.nP (n:=some 4) zz aX zz)))
abbrev lp (m:gO)(came:Nat)(r:List AV):AV:=.pi (m.ao++I came::r)
theorem Yx (s:Nat)(n:Nat):da (s:Nat) n=s.testBit n:=by rw[ng _ _ af,bI]
theorem MX (m:gO)(f:m.wo.length<=6)(came:Nat)(hc:came<9223372036854775808)(r:List AV)(i:Nat)(hi:i<=60):Ev ad 417 [lp m came r,I i] (B (qJ m came i)):=by
 have p:((m.wo.map rc.ao).length:Int)=m.wo.length:=aF;have q:=f;let A:Nat->Bool:=λn=>(a6 n).all (λk=> !(((m.wo[k]?).map (·.ba))==some (i:Int)&&came.testBit k));have b:qJ m came i=(A m.wo.length&&came.testBit i):=rfl;have d: ∀n:Nat,n<=60->(0<=((came:Nat):Int)/2^((n:Nat):Int).toNat/\((came:Nat):Int)/2^((n:Nat):Int).toNat<=9223372036854775807):=λn _=>by have s:(0:Int)<=(came:Nat)/2^((n:Nat):Int).toNat:=cD af (ek (cb af));have u:((came:Nat):Int)/2^((n:Nat):Int).toNat<=(came:Nat):=cy _ af;omega
 refine ar akv.ok<|aJ zz<|aa (aa ?_);refine cZ zz<|cj (A m.wo.length=true) (el [(0,lp m came r),(1,I i)]) [] [] ?_ ?_
 ·refine gf (λk:Nat=>k<=m.wo.length/\A k=true) (λk=>el [(0,lp m came r),(1,I i),(11,qD m.wo),(12,I m.wo.length),(13,I k)]) (λk=>m.wo.length-k) 0 nN
   (au ⟨zz,zz,zz,by show I _=I _;simp,zz,zq⟩) ?_
  rintro k ⟨hk,hi⟩;refine aJ zz<|aa (aj zz (λhc=>?_) (λhc=>?_))
  ·simp at hc;obtain⟨w,hx⟩:=bq hc;have c:A (k+1)=(A k&& !(w.ba==(i:Int)&&came.testBit k)):=(by show (a6 (k+1)).all _=_;rw[bs,cR,cr,fe,cd,hx];rfl);have g:A (k+1)=false->A m.wo.length=false:=(by intro h;rw[en]at h ⊢;obtain⟨j,l,o⟩:=h;exact⟨j,bm.2 (by have:=bm.1 l;omega),o⟩);have a:=Yx came k;unfold da at a;have hs:=d k af;refine ak (aa (ay ?_));refine bE [.cells w.ao,.aT] zz ⟨⟨af,by simp [hx]⟩,zz,ef,zq⟩<|ag (aq (t:=6) zz)<|eZ True (el [(0,lp m came r),(1,I i),(11,qD m.wo),(12,I m.wo.length),(13,I k),(31,B (w.ba==(i:Int)&&came.testBit k))]) [] [] ?_ ?_
   ·cases e:(w.ba==(i:Int))with
    |false=>refine kD [(22,false)] [] zz (by(and_intros);(all_goals first|exact zk _|((first|exact e|rfl)))) ?_;exact⟨(),zq,eL⟩
    |true=>refine kD [(22,true)] [] zz (by(and_intros);(all_goals first|exact zk _|((first|exact e|exact a|omega)))) ?_;refine⟨(),zq,au ⟨zz,zz,zz,zz,zz,?_,zq⟩⟩;rw[a];rfl
   intro _ _;cases e:(w.ba==(i:Int)&&came.testBit k)with
   |true=>refine aC zz zz<|aJ zz<|ab (aD ?_);rw[b,g (by rw[c,e];simp)];rfl
   |false=>refine aH zz zz<|fE zz bL ?_;exact⟨k+1,⟨hc,by rw[c,e,hi];rfl⟩,af,eL⟩
  simp at hc;have e:k=m.wo.length:=af;subst e;exact aE ⟨(),hi,eL⟩
 intro _ h;have a:=Yx came i;unfold da at a;have hs:=d i hi;refine Ik zz (by(and_intros);(all_goals first|exact zk _|((first|exact a|omega))))<|ab (aD ?_);rw[a,b,h];rfl
abbrev dX (f:Nat->Nat):List AV:=[I (f 0:Nat),I (f 1:Nat),I (f 2:Nat),I (f 3:Nat),I (f 4:Nat)]
theorem lt5 (a:C 0)(b:C 1)(c:C 2)(d:C 3)(h4:C 4)(h:k<5):C k:=bD
theorem pd (f:Nat->Nat)(h:k<5):[I (f k:Nat)]<+:(dX f).drop (k*1):=
 lt5 (C:=λk=>[I (f k:Nat)]<+:(dX f).drop (k*1)) ⟨_,zz⟩ ⟨_,zz⟩ ⟨_,zz⟩ ⟨_,zz⟩ ⟨_,zz⟩ h
theorem GI (f:Nat->Nat)(v:Nat)(h:k<5):bU (dX f) (0+k*1) [I (v:Nat)]=dX (λj=>if j=k then v else f j):=
 lt5 (C:=λk=>bU (dX f) (0+k*1) [I (v:Nat)]=dX (λj=>if j=k then v else f j)) zz zz zz zz zz h
structure gO.OK (m:gO):Prop where
 wf:m.wf
 c4:m.cl.length<=4
 s5:m.su.length<=5
 w6:m.wo.length<=6
 p5:m.pa.length<=5
 su: ∀x∈m.su,1<=x.pe/\x.pe<=99/\1<=x.fo/\x.fo<=2^m.cl.length-1
 wo: ∀w∈m.wo,0<=w.sa/\w.sa<=3/\0<=w.su/\w.su<m.su.length/\0<=w.of/\(2<=w.sa->w.of<m.su.length)/\(w.sa<2->w.of<m.cl.length)/\ -1<=w.ba/\w.ba<m.wo.length
 pa: ∀p∈m.pa,0<=p.su/\p.su<m.su.length/\0<=p.cl/\p.cl<m.cl.length
theorem SG {sa:Int}(a:0<=sa)(b:sa<=3):[FV (XU sa)]<+:OY.drop (sa.toNat*1):=by
 obtain⟨n,rfl⟩:=Int.eq_ofNat_of_zero_le a;have:n<4:=af;match n,this with
 |0,_=>exact⟨_,zz⟩
 |1,_=>exact⟨_,zz⟩
 |2,_=>exact⟨_,zz⟩
 |3,_=>exact⟨_,zz⟩
theorem Xv {m:gO}(ok:m.OK)(came:Nat)(i:came<9223372036854775808)(r:List AV)(t:Nat->Nat)(a:Nat):Ev ad 384 [lp m came r,.agg (dX t),I a] (B (yA m came t a)):=by
 have u:((m.wo.map rc.ao).length:Int)=m.wo.length:=aF;have w6:=ok.w6;have s5:=ok.s5;have c4:=ok.c4;let A:Nat->Bool:=λn=>(a6 n).all (Rl m came t a);have l:yA m came t a=A m.wo.length:=rfl;refine ar ajT.ok<|bE [.bY] zz aK<|bE [.ret (.agg OY),.aT] zz ⟨Nj,zz,⟨zz,zz,zz,aG⟩,zq⟩<|ag (aq (t:=7) zz)<|aa (aa ?_);apply cZ zz;let E:List (Nat×AV):=[(0,lp m came r),(2,I a),(4,.pi (dX t)),(7,.pi OY),(8,.fn (.func 417) [lp m came r] [])];refine cj (A m.wo.length=true) (el []) [] [] ?_ ?_
 ·refine gf (λk:Nat=>k<=m.wo.length/\A k=true) (λk=>el ((20,qD m.wo)::(21,I m.wo.length)::(22,I k)::E)) (λk=>m.wo.length-k) 0 nN
   (au ⟨zz,by show I _=I _;simp,zz,zz,zz,zz,zz,zz,zq⟩) ?_
  rintro k ⟨hk,hi⟩;refine aJ zz<|aa (aj zz (λhc=>?_) (λhc=>?_))
  ·simp at hc;obtain⟨w,hx⟩:=bq hc;obtain⟨v,x,z,C,D,y,F,G,H⟩:=ok.wo w (ap hx);have o:A (k+1)=(A k&&Rl m came t a k):=(by show (a6 (k+1)).all _=_;rw[bs,cR,cr,fe,cd]);have p:A (k+1)=false->A m.wo.length=false:=(by intro h;rw[en]at h ⊢;obtain⟨j,q,s⟩:=h;exact⟨j,bm.2 (by have:=bm.1 q;omega),s⟩);have c:=MX m w6 came i r k af;have b:Rl m came t a k= !((if 2<=w.sa then max w.su w.of else w.su)==(a:Int)&&qJ m came k&& !ZW w.sa (t w.su.toNat) (if 2<=w.sa then(t w.of.toNat:Int)else w.of)):=(by unfold Rl;rw[hx];by_cases h:2<=w.sa;simp only[zy h];simp only[zj h]);refine ak (aa (ay ?_));refine bE [.cells w.ao,.aT] zz ⟨⟨af,by simp [hx]⟩,zz,ef,zq⟩<|ag (aq (t:=10) zz)<|xe [] [] zz zq<|eZ True (el ((9,I k)::(10,.pi w.ao)::(11,I (if 2<=w.sa then max w.su w.of else w.su))::(12,I (if 2<=w.sa then(t w.of.toNat:Int)else w.of))::(20,qD m.wo)::(21,I m.wo.length)::(22,I k)::E)) [] [] ?_ ?_
   ·refine aa<|cZ zz ?_;by_cases h:2<=w.sa
    ·have:=y h;refine aC zz (by rw[decide_eq_true_iff];omega)<|tI [] [.pre [I (t w.of.toNat:Nat)]] zz (by(and_intros);(all_goals first|exact zk _|((first|exact pd t af|rfl)))) ?_;rw[zy h,zy h];exact⟨(),zq,eL⟩
    apply aH zz (by rw[decide_eq_false_iff_not];omega);rw[zj h,zj h];exact⟨(),zq,eL⟩
   intro _ _;have d:=abx w.sa (t w.su.toNat:Nat) (if 2<=w.sa then(t w.of.toNat:Int)else w.of);generalize (if 2<=w.sa then(t w.of.toNat:Int)else w.of)=bb at d b;generalize (if 2<=w.sa then max w.su w.of else w.su)=last at b;generalize ZW w.sa (t w.su.toNat:Nat) bb=f at d b;generalize qJ m came k=g at c b;refine eZ True (el ((64,B (last==(a:Int)&&g&& !f))::(20,qD m.wo)::(21,I m.wo.length)::(22,I k)::E)) [] [] ?_ ?_
   ·cases e:(last==(a:Int))with
    |false=>refine tI [(46,false),(51,false)] [] zz (by(and_intros);(all_goals first|exact zk _|((first|exact e|rfl)))) ?_;exact⟨(),zq,eL⟩
    |true=>
    cases g with
    |false=>refine tI [(46,true),(51,false)] [.ret (B false)] zz (by(repeat' (with_reducible apply az));(all_goals first|exact zk _|((first|exact e|exact c|rfl)))) ?_;exact⟨(),zq,eL⟩
    |true=>refine tI [(46,true),(51,true)] [.ret (B true),.pre [FV (XU w.sa)],.pre [I (t w.su.toNat:Nat)],.ret (B f)] zz (by(repeat' (with_reducible apply az));(all_goals try exact zt _);exact c;exact af;exact SG v x;exact af;exact pd t af;exact d) ?_;exact⟨(),zq,eL⟩
   intro _ _;cases e:(last==(a:Int)&&g&& !f)with
   |true=>rw[e]at b;refine aC zz zz<|aJ zz<|ab (aD ?_);rw[l,p (by rw[o,b];simp)];rfl
   |false=>rw[e]at b;refine aH zz zz<|fE zz bL ?_;exact⟨k+1,⟨hc,by rw[o,b,hi];rfl⟩,af,eL⟩
  simp at hc;have e:k=m.wo.length:=af;subst e;exact aE ⟨(),hi,au zq⟩
 refine λ_ h=>aJ zz<|ab (aD ?_);rw[l,h];rfl
abbrev Al (f:Nat->Int):List AV:=[I (f 0),I (f 1),I (f 2),I (f 3)]
theorem lt4 (a:C 0)(b:C 1)(c:C 2)(d:C 3)(h:k<4):C k:=bD
theorem TK (f:Nat->Int)(h:k<4):gw none ((Al f).drop (0+k*1))=some (I (f k)):=
 lt4 (C:=λk=>gw none ((Al f).drop (0+k*1))=some (I (f k))) zz zz zz zz h
theorem TH (f:Nat->Int)(v:Int)(h:k<4):bU (Al f) (0+k*1) [I v]=Al (λj=>if j=k then v else f j):=
 lt4 (C:=λk=>bU (Al f) (0+k*1) [I v]=Al (λj=>if j=k then v else f j)) zz zz zz zz h
def vZ (m:gO)(t:Nat->Nat):Nat->Nat->Int
 |0,_=>0
 |n+1,c=>if c=t n then vZ m t n c+((m.su[n]?).map (·.pe)).getD 0 else vZ m t n c
theorem OC {m:gO}(ok:m.OK)(t:Nat->Nat)(c:Nat): ∀n:Nat,0<=vZ m t n c/\vZ m t n c<=99*n
 |0=>⟨eS _,eS _⟩
 |n+1=>by
  have b:=OC ok t c n;have a:0<=((m.su[n]?).map (·.pe)).getD 0/\((m.su[n]?).map (·.pe)).getD 0<=99:=by
   cases e:m.su[n]? with
   |none=>exact⟨eS _,aG⟩
   |some x=>have:=ok.su x (ap e);exact⟨by show 0<=x.pe;omega,this.2.1⟩
  unfold vZ;split<;>omega
theorem abA {m:gO}(ok:m.OK)(came:Nat)(r:List AV)(t:Nat->Nat)(c: ∀i,i<m.su.length->t i<4):Ev ad 329 [lp m came r,.agg (dX t)] (.agg (Al (vZ m t m.su.length))):=by
 have s5:=ok.s5;have c4:=ok.c4;refine ar amo.ok<|bE [.bY,.aT] zz ⟨⟨zz,zz⟩,zz,zq⟩<|bW (t:=4) zz λb=>aa (aa ?_);refine cZ zz<|cj True (el [(4,.po b 0)]) [(b,.cells 406 (Al (vZ m t m.su.length)))] [] ?_ ?_
 ·refine bJ (λk:Nat=>k<=m.su.length) (λk=>el [(3,.pi (dX t)),(4,.po b 0),(11,vi m.su),(12,I m.su.length),(13,I k)]) (λk=>[(b,.cells 406 (Al (vZ m t k)))]) (λ_=>[]) (λk=>m.su.length-k) 0 af
   (au ⟨zz,zz,zz,by show I _=I _;simp,zz,zq⟩) ?_
  refine λk hk=>aJ zz<|aa (aj zz (λhc=>?_) (λhc=>?_))
  ·simp at hc;obtain⟨x,hx⟩:=bq hc;have d:=ok.su x (ap hx);have hd:=OC ok t (t k) k;have a:=c k hc;refine ak (aa (ay ?_));refine bE [.cells x.ao,.aT] zz ⟨⟨af,by simp [hx]⟩,zz,ef,zq⟩<|ag (aq (t:=6) zz)<|zg [] [.pre [I (t k:Nat)],.RY 0 (I (vZ m t k (t k)))] zz (by(and_intros);(all_goals first|exact zk _|((first|exact TK _ a|exact pd t af))))<|aY.hd (gs:=[]) (hs:=[.iL 0]) zz ⟨⟨zz,zz,zz,zz,by show 0+((t k:Nat):Int).toNat*1+1<=4;omega⟩,zq⟩<|fE zz bL ?_;refine⟨k+1,hc,af,ai (aw ?_) eL⟩;show [(b,dp.cells _ (bU (Al (vZ m t k)) (0+t k*1) [I (vZ m t k (t k)+x.pe)]))]=_;rw[TH _ _ a];refine congrArg (λf=>[(b,dp.cells _ (Al f))]) ?_;funext j;rw[show vZ m t (k+1) j=if j=t k then vZ m t k j+((m.su[k]?).map (·.pe)).getD 0 else vZ m t k j from rfl,hx];by_cases e:j=t k
   rw[zy e,zy e,e];rfl;rw[zj e,zj e]
  simp only[nL]at hc;have e:k=m.su.length:=af;subst e;exact aE ⟨(),zq,eL⟩
 intro _ _;refine nw [.at 0,.iL 0] zz ⟨zz,⟨zz,zz,zz,zz,a8 4⟩,zq⟩ ?_;exact ab (gv (.inr zz) (.one (.dY (n:=some 4) (i:=0) zz zz aX zz)))
end Go.Px
