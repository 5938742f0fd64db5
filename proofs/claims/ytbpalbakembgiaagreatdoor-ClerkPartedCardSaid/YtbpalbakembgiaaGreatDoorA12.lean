/- Part 12 of the proof of a statement of this seat (a logic of pure contracts; the functions; their contracts). No conditions. -/
import Derived.Test.YtbpalbakembgiaaGreatDoorA11
set_option linter.all false
open And renaming intro->ad
open Bool renaming and_eq_true->cD,not_eq_false->eT
open ByteArray renaming mk->bm,size_append->cc
open Classical renaming not_not->b3
open Decidable renaming byContradiction->b1
open Go.Lib renaming itoa_length_le->bn
open Go.Proofs.Tryz renaming prog->an
open Go.Value.int renaming injEq->fk
open Int renaming toNat_natCast->cA,le_refl->ew,one_mul->e2,not_lt->e6,sub_zero->fb,toNat->fj
open List renaming length_cons->ap,length_map->az,mem_of_find?_eq_some->a6,getElem?_eq_getElem->a7,append_nil->a8,length_append->bk,length_nil->bl,mem_cons_of_mem->bs,getElem?_eq_some_iff->bt,mem_singleton->bx,mem_cons->bA,find?_some->bI,getD->b0,getD_cons_zero->b9,not_mem_nil->cb,mem_of_getElem?->cd,all_eq_true->cr,map_append->cy,mem_map->cB,getElem_mem->cR,getD_cons_succ->c8,mem_range->de,take_add_one->dk,all_cons->dn,length_drop->ds,length_take->ea,range->ec,take_of_length_le->ej,mem_append->ek,nil_append->en,length_singleton->et,mem_iff_getElem?->eu,mem_of_mem_take->ey,find?_eq_none->eS,flatMap_cons->eU,cons_append->e0,flatMap_nil->e1,length_set->e4,range_succ->e5,map_drop->e9,map_map->fe,map->fr
open List.Perm renaming cons->e7,swap->e8
open List.Sublist renaming refl->b7
open List.cons renaming injEq->e3
open Nat renaming le_refl->b8,zero_le->c7,not_lt_zero->er,mul_le_mul_right->eM
open Option renaming getD_some->cx
open Sum renaming inl->eP,inr->ff
set_option maxRecDepth 20000
set_option maxHeartbeats 16000000
namespace Go.Px
variable {l g:List Wd}{k:Nat}{t u:Wd}{y:cQ}{x:bC}{n i:Int}{f:List AV}{d:List Kd}{c:List Int}{Y:Type}{e:Wd->List AV}{m:Kd}{H:av}{r:jx}{o:Bool}{p:AV}
section
open Go.Proofs
variable {a:cQ} (ok:a.OK)
include ok
theorem xW:uC a= .inr (a,wz (a.li.su.map (·.nm)) (rK a.li).1):=by have b:=ok.held;unfold uC;rw[zj af]
theorem CN (ws:List Wd)(n:List Int):ml 164 a ws n (uC a):=by intro b;have d:=ok.held;rw[xW ok];have hh:=T3 ok.w.li;rw[d]at hh;have hl:=OI ok;have c:=PX hl.1 hl.2 (J1 ok);have hs:=PB (a:=a) b (strs ws) (by have:=ok.li.s5;omega);generalize (rK a.li).1=l at hh c;exact FX.go ajN.ok [(13,[.ev hh]),(17,[.u 0 (dE 0 zz)]),(21,[.b 0 hs]),(23,[.ev c])] []
theorem WR (ws:List Wd)(n:List Int):ml 165 a ws n (wQ a):=by
 intro b;have d:=(Hm ok).1;have e:wQ a= .inr (a,nQ (tB a.ch).1):=by unfold wQ;rw[zj af]
 rw[e];have hh:=U3 ok.w.ch;rw[d]at hh;have hl:=(Hm ok).2;have c:=Ac hl.1 hl.2;generalize (tB a.ch).1=l at hh c;exact FX.go ajR.ok [(13,[.ev hh]),(17,[.u 0 (dE 0 zz)]),(19,[.ev c])] []
theorem I9 (ws:List Wd)(n:List Int):ml 166 a ws n (pR a):=by
 intro b;have d:=Ej ok;have e:pR a= .inr (a,nQ [(fQ a.tw).1.1,(fQ a.tw).1.2]):=by unfold pR;rw[zj af]
 rw[e];have hh:=IG a.tw ok.w.tw;rw[d]at hh;have hl:=DG ok;have c:=Ac aF hl;generalize (fQ a.tw).1=l at hh c;obtain⟨lo,hi⟩:=l;exact FX.go alE.ok [(13,[.ev hh]),(5,[.sh]),(10005,[.i (.iL 1)]),(17,[.u 0 (dE 0 zz)]),(19,[.i (.at 1)]),(21,[.i (.at 1)]),(23,[.ev c])] []
theorem Wl (ws:List Wd)(h:Int):ml 154 a ws [h] (Gk a [h]):=by
 intro b;have hh:=Jf a.dr ok.w.dr (by have:=ok.dr.h4;omega) h;have he:=Iu a.dr h;have hx:=λd=>JU (h:=h) d (ok.e 2 aG);have hs:Gk a [h]=if (jF a.dr h).2≠0 then eP (jF a.dr h).2 else ff (a,(a.dr.cs.getD (jF a.dr h).1.toNat ⟨[],[]⟩).nm):=rfl
 rw[hs];generalize (jF a.dr h).1=c at hh hx;generalize (jF a.dr h).2=e at hh he hx;by_cases d:e=0
 ·rw[zj af];subst d;have hx:=hx zz;refine cV aky.ok (kh [(16,[.ev hh]),(20,[.u 0 (dE 0 zz)]),(28,[.i (.cells (a.dr.cs.getD c.toNat ⟨[],[]⟩).ao)])]) (lh []) ?_;repeat' first|apply aN|apply aM|apply aL|apply ax|apply ad|(intro f;(try simp at f);(try contradiction))
  all_goals try first|exact fo _|exact⟨hx.1,by simp [hx.2]⟩|exact fi _
 rw[zy d];refine cV aky.ok (kh [(16,[.ev hh]),(20,[.u 0 (dE e (xK he))])]) (lh []) ?_;repeat' first|apply aN|apply aM|apply aL|apply ax|apply ad|(intro f;(try simp at f);(try contradiction))
 all_goals try first|exact fo _|exact⟨eV bB rfl⟩|exact fi _
end
theorem xt {a:cQ}(w:a.wf)(b:Nat)(ws:List Wd):FX an 248 [.po b 0] [cU b a (strs ws)] ((cF a).2==0) (.cG []) [cU b a (strs ws)] (xz (cF a).2) (wI b):=by
 have hh:=vJ w;have he:=FE a;generalize (cF a).1=c at hh;generalize (cF a).2=e at hh he;refine cV ahq.ok (kh [(9,[.ev hh]),(13,[.u 0 (dE e (xK he))])]) (lh []) ?_;repeat' first|apply aN|apply aM|apply aL|apply ax|apply ad|(intro d;(try simp at d);(try contradiction))
 all_goals try first|exact fo _|exact⟨eV bB rfl⟩|exact fi _
theorem abu (l:List sr)(x:sr)(hl:l.length<=1000000):Ev an 356 [qR l,.agg x.ao] (qR (l++[x])):=by have h:=eB (WS (l.map sr.ao) x bD);rwa [show l.map sr.ao++[x.ao]=(l++[x]).map sr.ao from aF]at h
theorem ab2 (l:List fw)(x:fw)(hl:l.length<=1000000):Ev an 262 [oF l,.agg x.ao] (oF (l++[x])):=by have h:=eB (UM (l.map fw.ao) x bD);rwa [show l.map fw.ao++[x.ao]=(l++[x]).map fw.ao from aF]at h
theorem acT (l:List rc)(x:rc)(hl:l.length<=1000000):Ev an 357 [qD l,.agg x.ao] (qD (l++[x])):=by have h:=eB (T2 (l.map rc.ao) x bD);rwa [show l.map rc.ao++[x.ao]=(l++[x]).map rc.ao from aF]at h
theorem abq (l:List EB)(x:EB)(hl:l.length<=1000000):Ev an 269 [wJ l,.agg x.ao] (wJ (l++[x])):=by have h:=eB (Xf (l.map EB.ao) x bD);rwa [show l.map EB.ao++[x.ao]=(l++[x]).map EB.ao from aF]at h
theorem acn (l:List pC)(x:pC)(hl:l.length<=1000000):Ev an 246 [lQ l,.agg x.ao] (lQ (l++[x])):=by have h:=eB (TU (l.map pC.ao) x bD);rwa [show l.map pC.ao++[x.ao]=(l++[x]).map pC.ao from aF]at h
theorem acj (l:List qm)(x:qm)(hl:l.length<=1000000):Ev an 258 [mW l,.agg [bh x.nm,ints x.ed]] (mW (l++[x])):=by have h:=eB (Tk (l.map qm.ao) x bD);rwa [show l.map qm.ao++[[bh x.nm,ints x.ed]]=(l++[x]).map qm.ao from aF]at h
theorem abj (l:List (List Wd))(x:List Wd)(hl:l.length<=1000000):Ev an 247 [DA l,strs x] (DA (l++[x])):=by have h:=eB (Tz (l.map λx=>[strs x]) x bD);rwa [show (l.map λx=>[strs x])++[[strs x]]=(l++[x]).map λx=>[strs x]from aF]at h
theorem pW {a:cQ}(h:(cF a).2=0):lP a r=r:=zj af
theorem nA {a:cQ}(h:(cF a).2≠0):lP a r= .inl (cF a).2:=zy h
abbrev Em (a:cQ)(x y:Int)(same:Bool):cQ:={a with tw:={a.tw with dN:=a.tw.dN++[⟨x,y,same⟩]}}
theorem NW {a:cQ}(ok:a.OK)(ws:List Wd){x y:Int}(same:Bool)(b:Nat):
  FX an 263 [.po b 0,ints [x,y],B same] [cU b a (strs ws)] (zO a [x,y] same).is (bh (zO a [x,y] same).say) [cU b ((zO a [x,y] same).arc a) (strs ws)] (xz (zO a [x,y] same).err) (wI b):=by
 have d:(Em a x y same).wf:={ok.w with tw:={ok.w.tw with}};have hd:=xt d b ws;have c:=E3 _ d.tw;have g:=abu a.tw.dN ⟨x,y,same⟩ (by have:=(vz ok).1.FJ;omega);have hs:zO a [x,y] same=lP (Em a x y same) (.inr (Em a x y same,nQ [(gP (Em a x y same).tw).2.1])):=rfl;have f:=Ac (l:=[(gP (Em a x y same).tw).2.1]) aF (by intro v i;rw[bx.1 i];have:=F1 _ d.tw;omega);rw[hs];by_cases e:(cF (Em a x y same)).2=0;rw[pW e];generalize (gP (Em a x y same).tw).2.1=many at c f;generalize (gP (Em a x y same).tw).1=f1 at c;generalize (gP (Em a x y same).tw).2.2=f2 at c;exact FX.go amb.ok [(25,[.ev g]),(31,[.u 0 hd]),(38,[.ev c]),(44,[.ev f])] [];rw[nA e];refine cV amb.ok (kh [(25,[.ev g]),(31,[.u 0 hd])]) (lh []) ?_;repeat' first|apply aN|apply aM|apply aL|apply ax|apply ad|(intro h;(try simp at h);(try contradiction))
 all_goals try first|exact fo _|exact⟨dR bB⟩|exact fi _
theorem Ul {a:cQ}(ok:a.OK)(ws:List Wd)(x y:Int):ml 156 a ws [x,y] (zO a [x,y] true):=by
 intro b;have h:=NW ok ws (x:=x) (y:=y) true b;generalize zO a [x,y] true=r at h;refine cV amh.ok (kh [(7,[.u 0 h])]) (lh []) ?_;repeat' first|apply aN|apply aM|apply aL|apply ax|apply ad|(intro c;(try simp at c);(try contradiction))
 all_goals try first|exact fo _|exact⟨dR bB⟩|exact fi _
theorem RO {a:cQ}(ok:a.OK)(ws:List Wd)(x y:Int):ml 157 a ws [x,y] (zO a [x,y] false):=by
 intro b;have h:=NW ok ws (x:=x) (y:=y) false b;generalize zO a [x,y] false=r at h;refine cV akZ.ok (kh [(7,[.u 0 h])]) (lh []) ?_;repeat' first|apply aN|apply aM|apply aL|apply ax|apply ad|(intro c;(try simp at c);(try contradiction))
 all_goals try first|exact fo _|exact⟨dR bB⟩|exact fi _
variable {a:cQ}
abbrev JE (a:cQ)(x y b:Int):cQ:={a with li:={a.li with wo:=a.li.wo++[⟨b,x,y,-1,true⟩]}}
theorem rU (w:a.wf)(h:(cF a).2=0):a.OK:=⟨w,h⟩
theorem yQ (ok:a.OK)(ws:List Wd)(x z y:Int)(c:Int)(b:Nat):
  FX an 264 [.po b 0,ints [x,z,y],I c] [cU b a (strs ws)] (mn a [x,z,y] c).is (bh (mn a [x,z,y] c).say) [cU b ((mn a [x,z,y] c).arc a) (strs ws)] (xz (mn a [x,z,y] c).err) (wI b):=by
 have w6:=ok.li.w6;have f:(JE a x y c).wf:={ok.w with li:={ok.w.li with wn:=by simp;omega}};have hd:=xt f b ws;have g:=acT a.li.wo ⟨c,x,y,-1,true⟩ af;have hs:mn a [x,z,y] c=lP (JE a x y c) (uC (JE a x y c)):=rfl;rw[hs];by_cases d:(cF (JE a x y c)).2=0
 ·rw[pW d];have hh:=CN (rU f d) ws [] b;rw[xW (rU f d)]at hh ⊢;generalize wz _ _=r at hh ⊢;refine cV aj1.ok (kh [(22,[.ev g]),(28,[.u 0 hd]),(30,[.u 0 hh])]) (lh []) ?_;repeat' first|apply aN|apply aM|apply aL|apply ax|apply ad|(intro e;(try simp at e);(try contradiction))
  all_goals try first|exact fo _|exact⟨dR bB⟩|exact fi _
 rw[nA d];refine cV aj1.ok (kh [(22,[.ev g]),(28,[.u 0 hd])]) (lh []) ?_;repeat' first|apply aN|apply aM|apply aL|apply ax|apply ad|(intro e;(try simp at e);(try contradiction))
 all_goals try first|exact fo _|exact⟨dR bB⟩|exact fi _
theorem ac8 (ok:a.OK)(ws:List Wd)(x z y:Int):ml 158 a ws [x,z,y] (mn a [x,z,y] 0):=by
 intro b;have h:=yQ ok ws x z y 0 b;generalize mn a [x,z,y] 0=r at h;refine cV alC.ok (kh [(7,[.u 0 h])]) (lh []) ?_;repeat' first|apply aN|apply aM|apply aL|apply ax|apply ad|(intro c;(try simp at c);(try contradiction))
 all_goals try first|exact fo _|exact⟨dR bB⟩|exact fi _
theorem Yn (ok:a.OK)(ws:List Wd)(x z y:Int):ml 159 a ws [x,z,y] (mn a [x,z,y] 1):=by
 intro b;have h:=yQ ok ws x z y 1 b;generalize mn a [x,z,y] 1=r at h;refine cV alL.ok (kh [(7,[.u 0 h])]) (lh []) ?_;repeat' first|apply aN|apply aM|apply aL|apply ax|apply ad|(intro c;(try simp at c);(try contradiction))
 all_goals try first|exact fo _|exact⟨dR bB⟩|exact fi _
theorem R8 (ok:a.OK)(ws:List Wd)(x z y:Int):ml 160 a ws [x,z,y] (mn a [x,z,y] 2):=by
 intro b;have h:=yQ ok ws x z y 2 b;generalize mn a [x,z,y] 2=r at h;refine cV ahH.ok (kh [(7,[.u 0 h])]) (lh []) ?_;repeat' first|apply aN|apply aM|apply aL|apply ax|apply ad|(intro c;(try simp at c);(try contradiction))
 all_goals try first|exact fo _|exact⟨dR bB⟩|exact fi _
theorem Nu (ok:a.OK)(ws:List Wd)(x z y:Int):ml 161 a ws [x,z,y] (mn a [x,z,y] 3):=by
 intro b;have h:=yQ ok ws x z y 3 b;generalize mn a [x,z,y] 3=r at h;refine cV ahD.ok (kh [(7,[.u 0 h])]) (lh []) ?_;repeat' first|apply aN|apply aM|apply aL|apply ax|apply ad|(intro c;(try simp at c);(try contradiction))
 all_goals try first|exact fo _|exact⟨dR bB⟩|exact fi _
section
theorem zb (s:Int): ∀(n:Nat),∀v∈dx s n,0<=v/\v.toNat<n
 |0,v,hv=>by simp [dx]at hv
 |n+1,v,hv=>by
  rw[jd]at hv;rcases ek.1 hv with hv|hv
  have:=zb s n v hv;omega;split at hv;simp only[bx]at hv;omega;cases hv
variable {a:cQ} (ok:a.OK)
include ok
theorem OF:(a.ix.length:Int)=a.ch.wo:=by have h:=ok.e 5 aG;exact b1 λe=>by rw[yu e]at h;cases h
theorem Y2: ∀w∈a.ix,cJ [w]=0:=by have h:=ok.e 5 aG;have h:(if (a.ix.length:Int)≠a.ch.wo then(3:Int)else(aB (Kj a) a.ix.length 0).2)=0:=h;rw[zj (by simpa using OF ok)]at h;intro w c;obtain⟨j,b⟩:=eu.1 c;have:=eN.1 h j (bt.1 b).1;unfold Kj at this;rw[b]at this;simp only at this;exact b1 λe=>by rw[zy e]at this;cases this
theorem TY: ∀w∈a.ix,w.length<=16:=by intro w b;have h:=(lX.1 (Y2 ok w b)).2;simp only[iU,dn,List.all_nil,Bool.and_true,mU,cD,decide_eq_true_eq]at h;omega
theorem le_eq:a.le.length=a.ch.co.length:=by have h:=ok.e 6 aG;exact b1 λe=>by rw[Js af]at h;cases h
theorem OQ: ∀l∈a.le,cJ l=0:=by have h:=ok.e 6 aG;have h:(if a.le.length≠a.ch.co.length then(3:Int)else(aB (Lh a) a.le.length 0).2)=0:=h;rw[zj (by simpa using le_eq ok)]at h;intro l hl;obtain⟨j,c⟩:=eu.1 hl;have b:=(bt.1 c).1;have:=eN.1 h j b;unfold Lh at this;rw[c,a7 (show j<a.ch.co.length by have:=le_eq ok;omega)]at this;simp only at this;exact b1 λe=>by rw[zy e]at this;exact e this
theorem W6 (p n:Int):(xf a.ch p n).1.length<=1000/\ ∀i∈(xf a.ch p n).1,0<=i/\i.toNat<a.ix.length:=by
 have d:=ok.ch.wo;have he:=OF ok;have b:([]:List Int).length<=1000/\ ∀i∈([]:List Int),0<=i/\i.toNat<a.ix.length:=⟨aF,aF⟩;unfold xf;repeat' split
 all_goals try exact b
 rename_i s _;refine⟨by have:=oW (s:Nat) a.ch.wo.toNat;simp only;omega,λv c=>?_⟩;have:=zb _ _ v c;omega
theorem OJ (p:Int)(l:List Int):(qq a.ch p l).1.length<=6/\ ∀i∈(qq a.ch p l).1,0<=i/\i.toNat<a.ch.co.length:=by have c:=ok.ch.c6;unfold qq;split;exact⟨aF,aF⟩;split;exact⟨aF,aF⟩;refine⟨?_,λv b=>zb _ _ v b⟩;have:=oW ((qM a.ch p.toNat (oc l a.ch.wo).1.toNat:Nat):Int) a.ch.co.length;simp only;omega
end
section
theorem jC.pi {env:Env}{H:av}: ∀{cs d:List AV},fp (jC env H) cs d->jC env H (.pi cs) (.pi d):=by
 intro cs d h C D a w S L hs v g;simp only[bf]at g ⊢;obtain⟨b,off,e,f⟩:=g;refine⟨b,off,e,?_⟩;clear e;induction cs generalizing d off with
 |nil=>cases d with
  |nil=>simp only[fY]
  |cons _ _=>exact h.elim
 |cons p cs l=>cases d with
  |nil=>exact h.elim
  |cons q d=>simp only[fY]at f ⊢;obtain⟨⟨c,i,j,k⟩,f⟩:=f;exact⟨⟨c,(hs.sin.lK).cell _ _ _ i,j,h.1 C D a w S L hs c k⟩,l h.2 _ f⟩
variable {a:cQ} (ok:a.OK)
include ok
theorem XA (ws:List Wd)(p n:Int)(c: -9223372036854775808<=n)(f:n<=9223372036854775807):ml 152 a ws [p,n] (P1 a [p,n]):=by
 intro b;have hh:=ZU ok.w.ch p n c f;have he:=N2 a.ch p n;have hl:=W6 ok p n;have d:=PX hl.1 hl.2 (TY ok);have hs:P1 a [p,n]=if (xf a.ch p n).2≠0 then eP (xf a.ch p n).2 else ff (a,wz a.ix (xf a.ch p n).1):=rfl
 rw[hs];generalize (xf a.ch p n).1=l at hh d;generalize (xf a.ch p n).2=e at hh he;by_cases c:e=0;rw[zj af];subst c;exact FX.go akc.ok [(19,[.ev hh]),(23,[.u 0 (dE 0 zz)]),(30,[.ev d])] [];rw[zy c];refine cV akc.ok (kh [(19,[.ev hh]),(23,[.u 0 (dE e (xK he))])]) (lh []) ?_;repeat' first|apply aN|apply aM|apply aL|apply ax|apply ad|(intro g;(try simp at g);(try contradiction))
 all_goals try first|exact fo _|exact⟨eV bB rfl⟩|exact fi _
omit ok in
theorem We (ws:List Wd)(b:0<=i)(c:i.toNat<a.ch.co.length):Ev an 252 [I i,.pi [.pi (dD a (strs ws))]] (I (a.ch.co.getD i.toNat ⟨0,0,0,0⟩).nu):=by
 refine di aiH.ok (kh [(11,[.i (.cells (a.ch.co.getD i.toNat ⟨0,0,0,0⟩).ao)])]) (lh []) ?_;repeat' first|apply aN|apply aM|apply aL|apply ax|apply ad|(intro d;(try simp at d);(try contradiction))
 all_goals try first|exact fo _|exact⟨b,by simp [c]⟩|exact fi _
omit ok in
theorem W7 {ix:List Wd}(h:l.all (λs=>ix.contains s)=true)(hk:k<l.length)(hc:ix.contains (nx l k)=false):False:=by have:=cr.1 h _ (dh hk);rw[hc]at this;cases this
omit ok in
theorem acd {ix:List Wd}(a:(l.take k).all (λs=>ix.contains s)=true)(hk:k<l.length)(hc:ix.contains (nx l k)=true):(l.take (k+1)).all (λs=>ix.contains s)=true:=by rw[dk,bP hk,List.all_append,a,Option.toList_some,dn,hc];rfl
omit ok in
theorem Xw {ix:List Wd}(h:l.all (λs=>ix.contains s)=false)(a:(l.take k).all (λs=>ix.contains s)=true)(hk: ¬k<l.length):False:=by rw[ej af,h]at a;cases a
def ql (ix own:List Wd)(k:Nat):List Int:=((ec k).filter λi=>own.contains (ix.getD i [])).map λ(i:Nat)=>(i:Int)
omit ok in
theorem Pj {ix:List Wd}(hk:k<ix.length):ql ix l (k+1)=ql ix l k++(if l.contains (nx ix k)=true then[(k:Int)]else[]):=by
 unfold ql;rw[e5,List.filter_append,cy];have:ix.getD k []=nx ix k:=by simp [nx,b0,hk]
 simp only[List.filter_cons,List.filter_nil,this];split<;>rfl
omit ok in
theorem SC (ix own:List Wd)(k:Nat):(ql ix own k).length<=k:=by grind [ql]
omit ok in
theorem KM {ix:List Wd}(hk:k<ix.length)(h:l.contains (nx ix k)=true):(ql ix l k).map (λx=>[I x])++[[I (k:Nat)]]=(ql ix l (k+1)).map λx=>[I x]:=by rw[Pj hk,zy h,cy];rfl
omit ok in
theorem IH {ix:List Wd}(hk:k<ix.length)(h:l.contains (nx ix k)=false):(ql ix l k).map (λx=>[I x])=(ql ix l (k+1)).map λx=>[I x]:=by rw[Pj hk,zj (by rw[h];decide),a8]
omit ok in
theorem Ol {ix:List Wd}{y:List AV}(hk:k<ix.length)(a:ix.length<=5):(((ql ix l k).map λx=>[I x]).length+[y].length)*8<=140737488355328/\((ql ix l k).map λx=>[I x]).length+[y].length<=9223372036854775807:=by grind [only,SC]
omit ok in
theorem JY {ix:List Wd}(hk:k<=ix.length)(h: ¬k<ix.length):fK (ints (ql ix l k)) (ints (ql ix l ix.length)):=by have:k=ix.length:=af;subst this;exact bj _
omit ok in
theorem Q3 (l:List Int)(g:Nat)(a:List AV)(f:Int->Int)(c:l.length<=1000000)(h: ∀x∈l,Ev an g (I x::a) (I (f x))):Ev an 251 [ints l,.fn (.func g) [] a] (.aT 3 1 ((l.map f).map λx=>[I x])):=by
 refine di akB.ok (kh [(16,[.i (.ret .any)])]) (lh [(0,{n:=l.length,E:=λk=>[(1,.fn (.func g) [] a),(4,.aT 3 1 ((l.take k).map λx=>[I (f x)])),(7,ints l),(8,I l.length),(9,I k)],I:=λk=>True,K:=λk=>[(11,[.i (.cells [I (nx l k)])]),(16,[.i (.ret (I (f (nx l k))))])]})]) ?_;repeat' first|apply aN|apply aM|apply aL|apply ax|apply ad|(intro b;(try simp only[nL]at b);(try contradiction))
 all_goals try exact fi _
 exact⟨h _ (dh b)⟩;exact⟨zz,zz,by rw[Ek b,fe];rfl⟩
omit ok in
theorem AF (T:Nat): ∀l:List Int,(AV.aT T 1 (l.map λx=>[I x])).tv=true
 |[]=>rfl
 |x::l=>AF T l
omit ok in
theorem Ct {f:Wd->List AV}{v:Wd}:(((kI (fr f (u::v::l)) (some (fj 2)) none).length:Nat):Int)=l.length:=by simp [kI]
end
section
variable {a:cQ} (ok:a.OK)
include ok
theorem SV (ws:List Wd)(o:2<=ws.length)(g:ws.length<=1000)(p:Int)(m:List Int):ml 150 a ws (p::m) (FQ a ws (p::m)):=by
 intro b;rcases ws with _|⟨w0,_|⟨w1,own⟩⟩
 simp at o;simp at o;simp at g;have hs:FQ a (w0::w1::own) (p::m)=if own.all (λs=>a.ix.contains s)=false then eP 4 else if (qq a.ch p (ql a.ix own a.ix.length)).2≠0 then eP (qq a.ch p (ql a.ix own a.ix.length)).2
  else ff (a,nQ ((qq a.ch p (ql a.ix own a.ix.length)).1.map λi=>(a.ch.co.getD i.toNat ⟨0,0,0,0⟩).nu)):=rfl
 rw[hs];have d:a.ix.length<=5:=by have:=ok.ch.wo;have:=OF ok;omega
 by_cases c:own.all (λs=>a.ix.contains s)=false
 ·rw[zy c];refine cV alv.ok (kh []) (lh [(0,{n:=own.length,E:=λk=>[(1,ints (p::m)),(2,.pi [.po b 0]),(5,strs own),(18,strs own),(19,I own.length),(20,I k)],I:=λk=>(own.take k).all (λs=>a.ix.contains s)=true,H:=λk=>[cU b a (strs (w0::w1::own))],K:=λk=>[(22,[.i (.cells [bh (nx own k)])]),(30,[.ev (nG a.ix (nx own k))]),(31,[.u 0 (cu (a.ix.contains (nx own k)) 4 zz aG)])]})]) ?_;repeat' first|exact(Xw c bB bB).elim|apply aN|apply aM|apply aL|apply ax|apply ad|(intro f;(try simp only[nL]at f);(try contradiction))
  all_goals try first|exact fo _|exact⟨acd bB bB bB⟩|exact⟨rfl,Ct⟩|exact⟨eV bB rfl⟩|exact fi _
 rw[zj c];rw[eT]at c;have hh:=Wm ok.w.ch p (ql a.ix own a.ix.length);have he:=Jq a.ch p (ql a.ix own a.ix.length);have hl:=OJ ok p (ql a.ix own a.ix.length);generalize (qq a.ch p (ql a.ix own a.ix.length)).1=l at hh hl;generalize (qq a.ch p (ql a.ix own a.ix.length)).2=e at hh he;have hc:=Q3 l 252 [.pi [.pi (dD a (strs (w0::w1::own)))]] (λi=>(a.ch.co.getD i.toNat ⟨0,0,0,0⟩).nu) af (λi hi=>We _ (hl.2 i hi).1 (hl.2 i hi).2);have r:=Ac (l:=l.map λi=>(a.ch.co.getD i.toNat ⟨0,0,0,0⟩).nu) (by rw[az];omega) (λx hx=>by
  obtain⟨i,hi,rfl⟩:=cB.1 hx
  have j:=(hl.2 i hi).2
  have:=(ok.ch.co (a.ch.co[i.toNat]) (cR j)).1
  have q:=ok.ch.la
  simp only[b0,a7 j,cx]
  omega)
 by_cases h:e=0
 ·rw[zj af];subst h;refine cV alv.ok (kh [(70053,[.fz 8]),(62,[.ev hh]),(66,[.u 0 (dE 0 zz)]),(69,[.bo hc]),(70,[.ev r])]) (lh [(0,{n:=own.length,E:=λk=>[(1,ints (p::m)),(2,.pi [.po b 0]),(5,strs own),(18,strs own),(19,I own.length),(20,I k)],I:=λk=>True,H:=λk=>[cU b a (strs (w0::w1::own))],K:=λk=>[(22,[.i (.cells [bh (nx own k)])]),(30,[.ev (nG a.ix (nx own k))]),(31,[.u 0 (cu (a.ix.contains (nx own k)) 4 zz aG)])]}),(2,{n:=a.ix.length,E:=λk=>[(1,ints (p::m)),(2,.pi [.po b 0]),(5,strs own),(8,.aT 3 1 ((ql a.ix own k).map λx=>[I x])),(37,strs a.ix),(38,I a.ix.length),(39,I k)],I:=λk=>True,H:=λk=>[cU b a (strs (w0::w1::own))],K:=λk=>[(42,[.i (.cells [bh (nx a.ix k)])]),(46,[.ev (nG own (nx a.ix k))])]})]) ?_;repeat' first|apply aN|apply aM|apply aL|apply ax|apply ad|(intro f;(try simp only[nL]at f);(try contradiction))
  all_goals try first|exact fo _|exact⟨rfl,Ct⟩|exact⟨rfl,rfl,KM bB bB⟩|exact⟨rfl,rfl,IH bB bB⟩|exact⟨Ol bB d⟩|exact⟨hh,λS t=>nJ ⟨bj _,bj _,JY bB bB,zq⟩⟩|exact⟨AF _ _⟩|exact⟨jC.fnq ⟨jC.pi ⟨jC.po (i:=0) rfl,trivial⟩,trivial⟩⟩|exact⟨eV bB rfl⟩|exact(W7 c bB bB).elim|exact fi _
 rw[zy h];refine cV alv.ok (kh [(70053,[.fz 8]),(62,[.ev hh]),(66,[.u 0 (dE e (xK he))])]) (lh [(0,{n:=own.length,E:=λk=>[(1,ints (p::m)),(2,.pi [.po b 0]),(5,strs own),(18,strs own),(19,I own.length),(20,I k)],I:=λk=>True,H:=λk=>[cU b a (strs (w0::w1::own))],K:=λk=>[(22,[.i (.cells [bh (nx own k)])]),(30,[.ev (nG a.ix (nx own k))]),(31,[.u 0 (cu (a.ix.contains (nx own k)) 4 zz aG)])]}),(2,{n:=a.ix.length,E:=λk=>[(1,ints (p::m)),(2,.pi [.po b 0]),(5,strs own),(8,.aT 3 1 ((ql a.ix own k).map λx=>[I x])),(37,strs a.ix),(38,I a.ix.length),(39,I k)],I:=λk=>True,H:=λk=>[cU b a (strs (w0::w1::own))],K:=λk=>[(42,[.i (.cells [bh (nx a.ix k)])]),(46,[.ev (nG own (nx a.ix k))])]})]) ?_;repeat' first|apply aN|apply aM|apply aL|apply ax|apply ad|(intro f;(try simp only[nL]at f);(try contradiction))
 all_goals try first|exact fo _|exact⟨rfl,Ct⟩|exact⟨rfl,rfl,KM bB bB⟩|exact⟨rfl,rfl,IH bB bB⟩|exact⟨Ol bB d⟩|exact⟨hh,λS t=>nJ ⟨bj _,bj _,JY bB bB,zq⟩⟩|exact⟨AF _ _⟩|exact⟨jC.fnq ⟨jC.pi ⟨jC.po rfl,trivial⟩,trivial⟩⟩|exact⟨eV bB rfl⟩|exact(W7 c bB bB).elim|exact fi _
end
section
theorem Zm (l:List pC)(g:Nat)(a:List AV)(p:pC->Bool)(c:l.length<=9223372036854775807)(h: ∀x∈l,Ev an g (.agg x.ao::a) (B (p x))):Ev an 253 [lQ l,.fn (.func g) [] a] (I (bM p l 0)):=by
 refine di aj4.ok (kh []) (lh [(0,{n:=l.length,E:=λk=>[(0,lQ l),(1,.fn (.func g) [] a),(7,I l.length),(8,I k)],I:=λk=>bM p l 0=bM p (l.drop k) k,K:=λk=>[(14,[.i (.cells (nx l k).ao)]),(16,[.i (.ret (B (p (nx l k))))])]})]) ?_;repeat' first|apply aN|apply aM|apply aL|apply ax|apply ad|(intro b;(try simp only[nL]at b);(try contradiction))
 all_goals try first|exact fo _|exact⟨h _ (dh bB)⟩|exact⟨rfl,Cw bB bB bB⟩|exact⟨M3 bB bB bB⟩|exact⟨rfl,GS bB bB⟩|exact fi _
theorem NC (x:pC)(p n:Int):Ev an 254 [.agg x.ao,.pi [ints [p,n]]] (B (x.nu==n)):=iG ajo.ok [] []
theorem acA {p:Int}(a:0<=n)(b:n<9223372036854775808):(0<=n/2^p.toNat/\n/2^p.toNat<9223372036854775808)/\(0:Int)<=1/\(1:Int)<9223372036854775808:=
 ⟨⟨Int.ediv_nonneg a (Int.le_of_lt (Int.pow_pos af)),Int.lt_of_le_of_lt (Int.ediv_le_self _ a) b⟩,af,af⟩
theorem N6 {p:Int}{c:Bool}(a:0<=n)(d:0<=p)(b:n.toNat.testBit p.toNat=c):fK (B (da n p)) (B c):=by grind [ng,fK.refl]
theorem Xg (h:List.replicate (l.length:Int).toNat f=[]):fK .nil (strs l):=by
 have:l=[]:=by simpa using h
 subst this;exact iP _
variable {a:cQ} (ok:a.OK)
include ok
theorem Mn (ws:List Wd)(p n:Int)(o:0<=p/\p<a.ch.pe.length):ml 151 a ws [p,n] (vQ a [p,n]):=by
 intro b;have hi:=Zm a.ch.co 254 [.pi [ints [p,n]]] (λx=>x.nu==n) (by have:=ok.ch.c6;omega) (λx _=>NC x p n);have hs:vQ a [p,n]=if bM (λx=>x.nu==n) a.ch.co 0<0 then eP 4 else if (a.ch.co.getD (bM (λx=>x.nu==n) a.ch.co 0).toNat ⟨0,0,0,0⟩).ma.toNat.testBit p.toNat=false then eP 2
  else ff (a,wc (a.le.getD (bM (λx=>x.nu==n) a.ch.co 0).toNat [])):=rfl
 rw[hs];have hl:=qv (λx:pC=>x.nu==n) a.ch.co 0 (ew _);generalize bM (λx=>x.nu==n) a.ch.co 0=i at hi hl;by_cases d:i<0
 ·rw[zy d];refine cV aln.ok (kh [(14,[.ev hi]),(17,[.u 0 (cu (decide (i>=0)) 4 zz aG)])]) (lh []) ?_;repeat' first|exact absurd d (e6.2 bB)|apply aN|apply aM|apply aL|apply ax|apply ad|(intro g;(try simp at g);(try contradiction))
  all_goals try first|exact fo _|exact⟨eV bB rfl⟩|exact fi _
 rw[zj d];obtain⟨_,x,hx,r⟩:=hl af;rw[fb]at hx;have k:=(bt.1 hx).1;rw[show a.ch.co.getD i.toNat ⟨0,0,0,0⟩=x by simp [b0,hx]];obtain⟨l,hl⟩: ∃l,a.le[i.toNat]? =some l:=⟨_,a7 (by rw[le_eq ok];exact k)⟩;rw[show a.le.getD i.toNat []=l by simp [b0,hl]];have f:=lX.1 (OQ ok l (cd hl));have e: ∀w∈l,w.length<=8:=λw q=>by have h:=cr.1 f.2 w q;simp only[mU,cD,decide_eq_true_eq]at h;omega
 have s:=eM 9 f.1;have j:=ok.ch.p3;have c:=(ok.ch.co x (cd hx)).2.2.2;have t:=(mu j).2.2;have hm:=acA (p:=p) c.1 af;cases m:x.ma.toNat.testBit p.toNat with
 |true=>
  rw[zj aG];refine cV aln.ok (kh [(14,[.ev hi]),(17,[.u 0 (cu (decide (i>=0)) 4 zz aG)]),(25,[.i (.cells x.ao)]),(41,[.i (.cells [strs l])]),(52,[.i (.cells [strs l])]),(44,[.i .aT]),(45,[.sT 6]),(54,[.cp 1]),(55,[.fT 1 6]),(56,[.ev (Cb l af (by have:=nC e;omega))]),(34,[.u 0 (cu true 2 zz aG)])]) (lh []) ?_;repeat' first|exact absurd (e6.1 d) bB|apply aN|apply aM|apply aL|apply ax|apply ad|(intro g;(try simp only[nL]at g);(try contradiction))
  all_goals try first|exact fo _|exact⟨eV bB rfl⟩|exact⟨hm⟩|exact⟨N6 c.1 o.1 m⟩|exact⟨Xg bB⟩|exact fi _
 |false=>
  rw[zy zz];refine cV aln.ok (kh [(14,[.ev hi]),(17,[.u 0 (cu (decide (i>=0)) 4 zz aG)]),(25,[.i (.cells x.ao)]),(34,[.u 0 (cu false 2 zz aG)])]) (lh []) ?_;repeat' first|exact absurd (e6.1 d) bB|apply aN|apply aM|apply aL|apply ax|apply ad|(intro g;(try simp at g);(try contradiction))
  all_goals try first|exact fo _|exact⟨eV bB rfl⟩|exact⟨hm⟩|exact⟨N6 c.1 o.1 m⟩|exact fi _
end
section
variable {a:cQ} (ok:a.OK)
abbrev lW (a:cQ)(w:Wd)(os:List Int):cQ:={a with dr:={a.dr with hs:=a.dr.hs++[⟨w,os⟩]}}
abbrev Zh (a:cQ)(x:fw):cQ:={a with tw:={a.tw with ms:=a.tw.ms++[x]}}
include ok
theorem J6 {w:Wd}{os:List Int}(h:w.length<=1000):(lW a w os).wf:={ok.w with dr:={ok.w.dr with hs:=λx hx=>(ek.1 hx).elim (ok.w.dr.hs x) λhx=>by rw[bx.1 hx];simp only;omega}}
theorem PE {x:fw}(h:x.wf):(Zh a x).wf:={ok.w with tw:={ok.w.tw with ms:=λy hy=>(ek.1 hy).elim (ok.w.tw.ms y) λhy=>by rw[bx.1 hy];exact h}}
omit ok in
theorem Mf (ok:a.OK)(b:a.dr.hs≠[]):(jF a.dr ((a.dr.hs.length:Int)-1)).2=0\/(jF a.dr ((a.dr.hs.length:Int)-1)).2=9:=by have h:=ok.e 2 aG;have h:(dF a.dr).2.2=0:=h;have c:0<a.dr.hs.length:=List.length_pos_iff.2 b;unfold jF;rw[zj af,zj (by simp [ae];omega)];split;exact .inr zz;exact .inl zz
theorem SU (w0 w1:Wd)(ws:List Wd)(x:Int)(os:List Int)(m:w1.length<=1000)(o:os.length<=1000):ml 153 a (w0::w1::ws) (x::os) (Jx a (w0::w1::ws) (x::os)):=by
 intro b;have n:=J6 ok (os:=os) m;have hd:=xt n b (w0::w1::ws);have hc:=eB (R6 (os.map λx=>[I x]) (by rw[az];omega));have l:=acj a.dr.hs ⟨w1,os⟩ (by have:=ok.dr.h4;omega);have hs:Jx a (w0::w1::ws) (x::os)=lP (lW a w1 os) (if (jF (lW a w1 os).dr (((lW a w1 os).dr.hs.length:Int)-1)).2=9 then .inr (lW a w1 os,[45])else .inr (lW a w1 os,((lW a w1 os).dr.cs.getD (jF (lW a w1 os).dr (((lW a w1 os).dr.hs.length:Int)-1)).1.toNat ⟨[],[]⟩).nm)):=rfl;rw[hs];by_cases g:(cF (lW a w1 os)).2=0
 ·rw[pW g];have d:=rU n g;have f:=Jf (lW a w1 os).dr n.dr (by have:=d.dr.h4;omega) (((lW a w1 os).dr.hs.length:Int)-1);have j:(((lW a w1 os).dr.hs.map qm.ao).length:Int)=(lW a w1 os).dr.hs.length:=by rw[az]
  have p:(((lW a w1 os).dr.hs.map qm.ao).length:Int)<=4:=by have:=d.dr.h4;omega
  have hx:=λg=>JU (h:=(((lW a w1 os).dr.hs.length:Int)-1)) g (d.e 2 aG);rcases Mf d aF with h1|h1
  ·have hx:=hx h1;rw[h1]at f ⊢;generalize (jF (lW a w1 os).dr (((lW a w1 os).dr.hs.length:Int)-1)).1=c at f hx;rw[<-j]at f;refine cV aj7.ok (kh [(22,[.ev hc]),(24,[.ev l]),(30,[.u 0 hd]),(45,[.ev f]),(58,[.i (.cells (a.dr.cs.getD c.toNat ⟨[],[]⟩).ao)])]) (lh []) ?_;repeat' first|apply aN|apply aM|apply aL|apply ax|apply ad|(intro k;(try simp at k);(try contradiction))
   all_goals try first|exact fo _|exact⟨dR bB⟩|exact⟨hx.1,by simp [hx.2]⟩|exact fi _
  rw[h1]at f ⊢;generalize (jF (lW a w1 os).dr (((lW a w1 os).dr.hs.length:Int)-1)).1=c at f;rw[<-j]at f;refine cV aj7.ok (kh [(22,[.ev hc]),(24,[.ev l]),(30,[.u 0 hd]),(45,[.ev f]),(50,[.ev (Cb [] aG aG)])]) (lh []) ?_;repeat' first|apply aN|apply aM|apply aL|apply ax|apply ad|(intro k;(try simp at k);(try contradiction))
  all_goals try first|exact fo _|exact⟨dR bB⟩|exact fi _
 rw[nA g];refine cV aj7.ok (kh [(22,[.ev hc]),(24,[.ev l]),(30,[.u 0 hd])]) (lh []) ?_;repeat' first|apply aN|apply aM|apply aL|apply ax|apply ad|(intro k;(try simp at k);(try contradiction))
 all_goals try first|exact fo _|exact⟨dR bB⟩|exact fi _
end
section
variable {a:cQ} (ok:a.OK)
include ok
theorem Kp (ws:List Wd)(s v lo hi p:Int)(hx:(⟨s,v,lo,hi,p⟩:fw).wf):ml 155 a ws [s,v,lo,hi,p] (sj a [s,v,lo,hi,p]):=by
 intro b;have hs:sj a [s,v,lo,hi,p]=if (vh a.tw ⟨s,v,lo,hi,p⟩).2≠0 then eP (vh a.tw ⟨s,v,lo,hi,p⟩).2 else lP (Zh a ⟨s,v,lo,hi,p⟩) (.inr (Zh a ⟨s,v,lo,hi,p⟩,nQ (vh a.tw ⟨s,v,lo,hi,p⟩).1)):=rfl
 rw[hs];have hh:=Zr a.tw ok.w.tw ⟨s,v,lo,hi,p⟩;have he:=OD a.tw ⟨s,v,lo,hi,p⟩;have hl:=Uf ok ⟨s,v,lo,hi,p⟩;have f:=Ac hl.1 hl.2;have h:=PE ok hx;have hd:=xt h b ws;have g:=ab2 a.tw.ms ⟨s,v,lo,hi,p⟩ (by have:=(vz ok).2;omega);generalize (vh a.tw ⟨s,v,lo,hi,p⟩).1=l at hh f;generalize (vh a.tw ⟨s,v,lo,hi,p⟩).2=e at hh he;by_cases c:e=0
 ·rw[zj af];subst c;by_cases c:(cF (Zh a ⟨s,v,lo,hi,p⟩)).2=0
  ·rw[pW c];refine cV alk.ok (kh [(32,[.ev hh]),(36,[.u 0 (dE 0 zz)]),(45,[.ev g]),(51,[.u 0 hd]),(53,[.ev f])]) (lh []) ?_;repeat' first|apply aN|apply aM|apply aL|apply ax|apply ad|(intro d;(try simp at d);(try contradiction))
   all_goals try first|exact fo _|exact⟨dR bB⟩|exact fi _
  rw[nA c];refine cV alk.ok (kh [(32,[.ev hh]),(36,[.u 0 (dE 0 zz)]),(45,[.ev g]),(51,[.u 0 hd])]) (lh []) ?_;repeat' first|apply aN|apply aM|apply aL|apply ax|apply ad|(intro d;(try simp at d);(try contradiction))
  all_goals try first|exact fo _|exact⟨dR bB⟩|exact fi _
 rw[zy c];refine cV alk.ok (kh [(32,[.ev hh]),(36,[.u 0 (dE e (xK he))])]) (lh []) ?_;repeat' first|apply aN|apply aM|apply aL|apply ax|apply ad|(intro d;(try simp at d);(try contradiction))
 all_goals try first|exact fo _|exact⟨eV bB rfl⟩|exact fi _
abbrev AW (a:cQ)(n:Int)(w:rc):cQ:={a with li:={a.li with wo:=a.li.wo.set n.toNat {w with ca:=true}}}
omit ok in
theorem PO (a:cQ)(b:Nat)(c:AV): ∀l,a.li.wo.map rc.ao=l->[cU b a c]=[(b,.cells 66 ((a.sh.ao++(strs a.ix::(a.tw.ao++(a.dr.ao++([strs a.li.cl,vi a.li.su,.sl 5 l,wJ a.li.pa]++(a.ch.ao++[DA a.le,I a.ca]))))))++[c]))]:=by rintro _ rfl;rfl
theorem VM (ws:List Wd)(n:Int)(o:0<=n/\n<=999):ml 162 a ws [n] (Fg a [n]):=by
 intro b;have hs:Fg a [n]=match a.li.wo[n.toNat]? with
  |none=>.inl 4
  |some w=>if w.ca=true then .inl 5 else lP (AW a n w) (uC (AW a n w)):=rfl
 rw[hs];have m:((a.li.wo.map rc.ao).length:Int)=a.li.wo.length:=by rw[az]
 cases l:a.li.wo[n.toNat]? with
 |none=>
  have h: ¬n<(a.li.wo.map rc.ao).length:=by have:=List.getElem?_eq_none_iff.1 l;omega
  refine cV alZ.ok (kh [(16,[.u 0 (cu false 4 zz aG)])]) (lh []) ?_;repeat' first|apply aN|apply aM|apply aL|apply ax|apply ad|(intro d;(try simp at d);(try contradiction))
  all_goals try first|exact fo _|exact⟨kz (decide_eq_false h)⟩|exact⟨eV bB rfl⟩|exact fi _
 |some w=>
  have f:=(bt.1 l).1;have c:n<(a.li.wo.map rc.ao).length:=af;dsimp only;cases hc:w.ca with
  |true=>
   rw[zy zz];refine cV alZ.ok (kh [(16,[.u 0 (cu true 4 zz aG)]),(26,[.i (.cells w.ao)]),(30,[.u 0 (cu false 5 zz aG)])]) (lh []) ?_;repeat' first|apply aN|apply aM|apply aL|apply ax|apply ad|(intro d;(try simp at d);(try contradiction))
   all_goals try first|exact fo _|exact⟨kz (decide_eq_true c)⟩|exact⟨kz (by rw[hc];rfl)⟩|exact⟨eV bB rfl⟩|exact fi _
  |false=>
   rw[zj aG];have j:(AW a n w).wf:={ok.w with li:={ok.w.li with wn:=by rw[e4];exact ok.w.li.wn}};have hd:=xt j b ws;have k:(AW a n w).li.wo.map rc.ao=(a.li.wo.map rc.ao).set n.toNat (bU w.ao 4 [B true]):=(by rw[List.map_set];rfl);have he:a.li.wo.map rc.ao≠[]:=λe=>(by rw[List.map_eq_nil_iff]at e;rw[e]at f;cases f);by_cases g:(cF (AW a n w)).2=0
   ·rw[pW g];have hh:=CN (rU j g) ws [] b;rw[xW (rU j g)]at hh ⊢;generalize wz _ _=r at hh ⊢;refine cV alZ.ok (kh [(16,[.u 0 (cu true 4 zz aG)]),(26,[.i (.cells w.ao)]),(30,[.u 0 (cu true 5 zz aG)]),(38,[.ev (Ae (a.li.wo.map rc.ao) (by rw[az];have:=ok.li.w6;omega))]),(39,[.sT 38]),(10053,[.i (.Xo 1 n.toNat 4 w.ao)]),(54,[.fA 1 0 16]),(55,[.u 0 hd]),(57,[.u 0 hh])]) (lh []) ?_;repeat' first|exact absurd bB he|apply aN|apply aM|apply aL|apply ax|apply ad|(intro d;(try simp only[nL]at d);(try contradiction))
    all_goals try first|exact fo _|exact⟨kz (decide_eq_true c)⟩|exact⟨kz (by rw[hc];rfl)⟩|exact⟨eV bB rfl⟩|exact⟨dR bB⟩|exact⟨(PO (AW a n w) b _ _ k).symm⟩|exact fi _
   rw[nA g];refine cV alZ.ok (kh [(16,[.u 0 (cu true 4 zz aG)]),(26,[.i (.cells w.ao)]),(30,[.u 0 (cu true 5 zz aG)]),(38,[.ev (Ae (a.li.wo.map rc.ao) (by rw[az];have:=ok.li.w6;omega))]),(39,[.sT 38]),(10053,[.i (.Xo 1 n.toNat 4 w.ao)]),(54,[.fA 1 0 16]),(55,[.u 0 hd])]) (lh []) ?_;repeat' first|exact absurd bB he|apply aN|apply aM|apply aL|apply ax|apply ad|(intro d;(try simp only[nL]at d);(try contradiction))
   all_goals try first|exact fo _|exact⟨kz (decide_eq_true c)⟩|exact⟨kz (by rw[hc];rfl)⟩|exact⟨eV bB rfl⟩|exact⟨dR bB⟩|exact⟨(PO (AW a n w) b _ _ k).symm⟩|exact fi _
end
theorem Vu {m:gO}(j:m.wf)(h:(qY m n).2=0):(0<=n/\n.toNat<m.su.length)/\0<=(qY m n).1/\(qY m n).1.toNat<m.cl.length:=by
 unfold qY at h ⊢;split at h;rename_i a;exact absurd h a;rename_i a;rw[zj a];split at h;cases h;rename_i i;rw[zj i];obtain⟨ok,b,f⟩:=vk j (b3.1 a);have g:=qU b;have hi:n.toNat<m.su.length:=af;refine⟨⟨g.1,hi⟩,?_⟩;obtain⟨_,p,q⟩:=Dc ok f hi;obtain⟨k,c,d⟩:=wO (s:=(dI (bu m (df m 0)) n.toNat:Nat)) (n:=m.cl.length) af (by
  have o:((2^m.cl.length:Nat):Int)=2^m.cl.length:=aF
  omega)
 have hm:(k:Int)∈dx (dI (bu m (df m 0)) n.toNat:Nat) m.cl.length:=cB.2 ⟨k,List.mem_filter.2 ⟨de.2 c,d⟩,zz⟩;cases e:dx (dI (bu m (df m 0)) n.toNat:Nat) m.cl.length with
 |nil=>rw[e]at hm;cases hm
 |cons x l=>exact zb _ _ x (by rw[e];simp)
section
variable {a:cQ} (ok:a.OK)
abbrev Yl (a:cQ)(n pe c:Int):cQ:={a with ca:=a.ca-pe,li:={a.li with pa:=a.li.pa++[⟨n,c⟩]}}
theorem YP (x:EB)(n:Int):Ev an 267 [.agg x.ao,.pi [ints [n]]] (B (x.su==n)):=iG akk.ok [] []
include ok
theorem NX {pe c:Int}(b:0<=pe)(d:pe<=a.ca):(Yl a n pe c).wf:={ok.w with
 ca0:=by have:=ok.w.ca0;simp only;omega
 ca1:=by have:=ok.w.ca1;simp only;omega
 li:={ok.w.li with pn:=by have:=ok.li.p5;simp;omega}}
theorem XS (ws:List Wd)(n:Int):ml 163 a ws [n] (Q9 a [n]):=by
 intro b;have hi:=Vz a.li.pa 267 [.pi [ints [n]]] (λx=>x.su==n) (by have:=ok.li.p5;omega) (λx _=>YP x n);have hs:Q9 a [n]=if a.li.pa.any (λp=>p.su==n)=true then .inl 5 else if (qY a.li n).2≠0 then .inl (qY a.li n).2 else
  if a.ca<(a.li.su.getD n.toNat ⟨[],0,0⟩).pe then .inl 9 else
  lP (Yl a n (a.li.su.getD n.toNat ⟨[],0,0⟩).pe (qY a.li n).1) (.inr (Yl a n (a.li.su.getD n.toNat ⟨[],0,0⟩).pe (qY a.li n).1,a.li.cl.getD (qY a.li n).1.toNat [])):=rfl
 rw[hs];have hh:=Ze ok.w.li n;have he:=Ou a.li n;have j:=λh=>Vu ok.w.li (n:=n) h;have k:=ok.w.ca0;have l:=ok.w.ca1;generalize a.li.pa.any (λp=>p.su==n)=any at hi;generalize (qY a.li n).1=c at hh j;generalize (qY a.li n).2=e at hh he j;cases any with
 |true=>
  rw[zy zz];refine cV ahE.ok (kh [(15,[.ev hi]),(17,[.u 0 (cu false 5 zz aG)])]) (lh []) ?_;repeat' first|apply aN|apply aM|apply aL|apply ax|apply ad|(intro f;(try simp at f);(try contradiction))
  all_goals try first|exact fo _|exact⟨eV bB rfl⟩|exact fi _
 |false=>
  rw[zj aG];by_cases g:e=0
  ·rw[zj af];subst g;obtain⟨⟨n0,n1⟩,c0,c1⟩:=j zz;obtain⟨x,hx⟩: ∃x,a.li.su[n.toNat]? =some x:=⟨_,a7 n1⟩;rw[show a.li.su.getD n.toNat ⟨[],0,0⟩=x by simp [b0,hx]];have o:=(ok.li.su x (cd hx));by_cases hc:a.ca<x.pe
   ·rw[zy hc];have d: ¬a.ca>=x.pe:=af;refine cV ahE.ok (kh [(15,[.ev hi]),(17,[.u 0 (cu true 5 zz aG)]),(27,[.ev hh]),(31,[.u 0 (dE 0 zz)]),(41,[.i (.cells x.ao)]),(51,[.u 0 (cu false 9 zz aG)])]) (lh []) ?_;repeat' first|apply aN|apply aM|apply aL|apply ax|apply ad|(intro f;(try simp at f);(try contradiction))
    all_goals try first|exact fo _|exact⟨eV bB rfl⟩|exact⟨kz (decide_eq_false d)⟩|exact fi _
   rw[zj hc];have d:a.ca>=x.pe:=af;have q:=NX ok (n:=n) (c:=c) af d;have hd:=xt q b ws;have m:=abq a.li.pa ⟨n,c⟩ (by have:=ok.li.p5;omega);by_cases g:(cF (Yl a n x.pe c)).2=0
   ·rw[pW g];refine cV ahE.ok (kh [(15,[.ev hi]),(17,[.u 0 (cu true 5 zz aG)]),(27,[.ev hh]),(31,[.u 0 (dE 0 zz)]),(41,[.i (.cells x.ao)]),(51,[.u 0 (cu true 9 zz aG)]),(74,[.ev m]),(80,[.u 0 hd]),(88,[.i (.cells [bh (a.li.cl.getD c.toNat [])])])]) (lh []) ?_;repeat' first|apply aN|apply aM|apply aL|apply ax|apply ad|(intro f;(try simp at f);(try contradiction))
    all_goals try first|exact fo _|exact⟨dR bB⟩|exact⟨kz (decide_eq_true d)⟩|exact⟨c0,by simp [c1]⟩|exact fi _
   rw[nA g];refine cV ahE.ok (kh [(15,[.ev hi]),(17,[.u 0 (cu true 5 zz aG)]),(27,[.ev hh]),(31,[.u 0 (dE 0 zz)]),(41,[.i (.cells x.ao)]),(51,[.u 0 (cu true 9 zz aG)]),(74,[.ev m]),(80,[.u 0 hd])]) (lh []) ?_;repeat' first|apply aN|apply aM|apply aL|apply ax|apply ad|(intro f;(try simp at f);(try contradiction))
   all_goals try first|exact fo _|exact⟨dR bB⟩|exact⟨kz (decide_eq_true d)⟩|exact fi _
  rw[zy g];refine cV ahE.ok (kh [(15,[.ev hi]),(17,[.u 0 (cu true 5 zz aG)]),(27,[.ev hh]),(31,[.u 0 (dE e (xK he))])]) (lh []) ?_;repeat' first|apply aN|apply aM|apply aL|apply ax|apply ad|(intro f;(try simp at f);(try contradiction))
  all_goals try first|exact fo _|exact⟨eV bB rfl⟩|exact fi _
end
section
variable {a:cQ} (ok:a.OK)
abbrev wi (a:cQ)(l:List Wd)(p:Nat):cQ:={a with ch:={a.ch with la:=a.ch.la+1,co:=a.ch.co++[⟨a.ch.la+1,(BI (uI a.ix l) 5:Nat),0,1*2^p⟩]},le:=a.le++[l]}
theorem NU (ix l:List Wd):acM (Ep ix l)=BI (uI ix l) 5:=by unfold acM BI Ep;rfl
include ok
theorem Kz {p:Nat}:(wi a l p).wf:={ok.w with
 le:=by have:=le_eq ok;have:=ok.ch.c6;simp only[bk,et];omega
 ch:={ok.w.ch with cn:=by have:=ok.ch.c6;simp only[bk,et];omega}}
theorem WI (w0 w1 h:Wd)(l:List Wd)(hl:l.length<=1000)(n p:Int)(m:List Int)(x:0<=p/\p<a.ch.pe.length):ml 149 a (w0::w1::h::l) (n::p::m) (FC a (w0::w1::h::l) (n::p::m)):=by
 intro b;have hs:FC a (w0::w1::h::l) (n::p::m)=if (gh a.sh n l).2.2≠0 then .inl (gh a.sh n l).2.2 else lP (wi a l p.toNat) (.inr (wi a l p.toNat,nQ [a.ch.la+1,(gh a.sh n l).2.1])):=by rw[show wi a l p.toNat=_ from by unfold wi;rw[<-NU,e2]];rfl
 rw[hs];have hc:=eB (Ri (l.map λs=>[bh s]) (by rw[az];omega));have hh:=Wi a.sh ok.w.sh n l;have he:=E8 a.sh n l;have q:=Jp ok n l;have r:=ok.ch.la;have y:=ok.ch.p3;have j:a.ix.length<=5:=by have:=ok.ch.wo;have:=OF ok;omega
 have g:=Gj a.ix l j;have hm:=Lv (uI a.ix l);have k:=Kz ok (l:=l) (p:=p.toNat);have hd:=xt k b (w0::w1::h::l);have o:=acn a.ch.co ⟨a.ch.la+1,(BI (uI a.ix l) 5:Nat),0,1*2^p.toNat⟩ (by have:=ok.ch.c6;omega);have hx:=abj a.le l (by have:=le_eq ok;have:=ok.ch.c6;omega);generalize (gh a.sh n l).1=f1 at hh;generalize (gh a.sh n l).2.1=many at hh q;generalize (gh a.sh n l).2.2=e at hh he;have t:=Ac (l:=[a.ch.la+1,many]) aF (by
  intro v g
  simp only[bA,cb,or_false]at g
  rcases g with rfl|rfl<;>omega)
 have z:=mu (n:=p.toNat) (m:=3) af;have d:(0:Int)<=1/\0<=p/\p<64/\(1:Int)*2^p.toNat<9223372036854775808:=⟨af,x.1,af,by rw[e2];omega⟩;by_cases c:e=0
 ·rw[zj af];subst c;by_cases c:(cF (wi a l p.toNat)).2=0
  ·rw[pW c];refine cV aik.ok (kh [(15,[.ev hc]),(26,[.ev hh]),(31,[.u 0 (dE 0 zz)]),(55,[.ev g]),(56,[.ev hm]),(70,[.ev o]),(82,[.ev hx]),(87,[.u 0 hd]),(88,[.sT 9]),(89,[.i (.at 1)]),(92,[.ev t])]) (lh []) ?_;repeat' first|apply aN|apply aM|apply aL|apply ax|apply ad|(intro f;(try simp only[nL]at f);(try contradiction))
   all_goals try first|exact fo _|exact⟨d⟩|exact⟨dR bB⟩|exact fi _
  rw[nA c];refine cV aik.ok (kh [(15,[.ev hc]),(26,[.ev hh]),(31,[.u 0 (dE 0 zz)]),(55,[.ev g]),(56,[.ev hm]),(70,[.ev o]),(82,[.ev hx]),(87,[.u 0 hd])]) (lh []) ?_;repeat' first|apply aN|apply aM|apply aL|apply ax|apply ad|(intro f;(try simp only[nL]at f);(try contradiction))
  all_goals try first|exact fo _|exact⟨d⟩|exact⟨dR bB⟩|exact fi _
 rw[zy c];refine cV aik.ok (kh [(15,[.ev hc]),(26,[.ev hh]),(31,[.u 0 (dE e (xK he))])]) (lh []) ?_;repeat' first|apply aN|apply aM|apply aL|apply ax|apply ad|(intro f;(try simp only[nL]at f);(try contradiction))
 all_goals try first|exact fo _|exact⟨eV bB rfl⟩|exact fi _
end
section
theorem mI {s:Wd}{v:Int}(h:iZ a (.num o) s=some (v,0)): -1<=v/\v<=999/\(o=false->0<=v):=by
 unfold iZ at h;split at h;cases h;simp only at h;have d:tM s<=999:=by rcases sP s with h1|h1;omega;obtain⟨b,c⟩:=GQ h1;unfold dgs at b;split at b;simp at b;omega;cases b
 split at h;rename_i h1;simp at h;refine⟨af,af,λe=>?_⟩;rw[h1.1]at e;cases e;split at h;cases h;simp at h;omega
theorem vo {s:Wd}{v:Int}(h:iZ a .mw s=some (v,0)):0<=v/\v<a.ch.pe.length:=by unfold iZ at h;split at h;cases h;simp only at h;split at h;simp at h;rename_i b;simp at h;have:=qv (λx=>x==s) (qf a .mw) 0 (ew _) af;obtain⟨_,y,hy,_⟩:=this;have:=(bt.1 hy).1;have c:(qf a .mw).length=a.ch.pe.length:=rfl;omega
theorem l0 {l:List Y}(h:l.length=0):l=[]:=List.length_eq_zero_iff.1 h
theorem l1 {l:List Y}(h:l.length=1): ∃x,l=[x]:=List.length_eq_one_iff.1 h
theorem l2 {l:List Y}(h:l.length=2): ∃x y,l=[x,y]:=by
 match l,h with
 |[x,y],_=>exact⟨x,y,zz⟩
theorem l3 {l:List Y}(h:l.length=3): ∃x y z,l=[x,y,z]:=by
 match l,h with
 |[x,y,z],_=>exact⟨x,y,z,zz⟩
theorem l5 {l:List Y}(h:l.length=5): ∃x y z u v,l=[x,y,z,u,v]:=by
 match l,h with
 |[x,y,z,u,v],_=>exact⟨x,y,z,u,v,zz⟩
theorem ve (h:eA x l=true):x.ws.length<=l.length/\(x.more=none->l.length=x.ws.length):=by grind [only,Eu]
theorem um {w:Wd}(h:x∈bQ w):x∈wP.flatMap (·.2):=by unfold bQ at h;split at h;rename_i y hy;exact List.mem_flatMap.2 ⟨y,a6 hy,h⟩;cases h
variable (ok:a.OK)
include ok
theorem Wo {w0:Wd}{own:List Wd}{n:List Int}(hx:x∈bQ w0)(o:eA x own=true)(hl:n.length=own.length)
  (c: ∀i,i<own.length->iZ a (iS x i) (nx own i)=some (n.getD i 0,0)) (hs: ∀s∈own,s.length<=1000) (h:own.length<=100):ml (lq x.id) a (w0::own) n (Bj a (w0::own) n x.id):=by
 obtain⟨f1,f2⟩:=ve o;have hx:=um hx;simp only[wP,eU,e1,a8,e0,en,bA,cb,or_false]at hx;rcases hx with rfl|rfl|rfl|rfl|rfl|rfl|rfl|rfl|rfl|rfl|rfl|rfl|rfl|rfl|rfl|rfl|rfl|rfl;
 match own,n,f1,hl with
 |s1::e::l,[],_,hl=>simp at hl
 |s1::e::l,[_],_,hl=>simp at hl
 |s1::e::l,v1::b::m,_,_=>have f:=vo (c 1 aF);simp at h;exact WI ok w0 s1 e l af v1 b m f
 
 match own,n,f1,hl with
 |s1::l,[],_,hl=>simp at hl
 |s1::l,v1::m,_,_=>simp at h;exact SV ok (w0::s1::l) aF (by simp;omega) v1 m
 
 obtain⟨s1,e,rfl⟩:=l2 (f2 zz);obtain⟨v1,b,rfl⟩:=l2 hl;exact Mn ok _ v1 b (vo (c 0 aF))
 
 obtain⟨s1,e,rfl⟩:=l2 (f2 zz);obtain⟨v1,b,rfl⟩:=l2 hl;have f:=mI (c 1 aF);exact XA ok _ v1 b (by simp at f;omega) (by simp at f;omega)
 
 match own,n,f1,hl with
 |s1::l,[],_,hl=>simp at hl
 |s1::l,v1::m,_,hl=>simp at h hl;exact SU ok w0 s1 l v1 m (hs s1 aF) af
 
 obtain⟨s1,rfl⟩:=l1 (f2 zz);obtain⟨v1,rfl⟩:=l1 hl;exact Wl ok _ v1
 
 obtain⟨s1,e,r,t,s5,rfl⟩:=l5 (f2 zz);obtain⟨v1,b,d,p,q,rfl⟩:=l5 hl;have g:=mI (c 0 aF);have f:=mI (c 1 aF);have j:=mI (c 2 aF);have h4:=mI (c 3 aF);have k:=mI (c 4 aF);simp at g f j h4 k;exact Kp ok _ v1 b d p q {Pf:=by simp only;omega,Oc:=by simp only;omega,v0:=by simp only;omega,v1:=by simp only;omega,Xp:=by simp only;omega,lo1:=by simp only;omega,uT:=by simp only;omega,MR:=by simp only;omega,zL:=by simp only;omega,zl:=by simp only;omega}
 obtain⟨s1,e,rfl⟩:=l2 (f2 zz);obtain⟨v1,b,rfl⟩:=l2 hl;exact Ul ok _ v1 b;obtain⟨s1,e,rfl⟩:=l2 (f2 zz);obtain⟨v1,b,rfl⟩:=l2 hl;exact RO ok _ v1 b;obtain⟨v1,b,d,rfl⟩:=l3 (hl.trans (f2 zz));exact ac8 ok _ v1 b d;obtain⟨v1,b,d,rfl⟩:=l3 (hl.trans (f2 zz));exact Yn ok _ v1 b d;obtain⟨v1,b,d,rfl⟩:=l3 (hl.trans (f2 zz));exact R8 ok _ v1 b d;obtain⟨v1,b,d,rfl⟩:=l3 (hl.trans (f2 zz));exact Nu ok _ v1 b d;
 obtain⟨s1,rfl⟩:=l1 (f2 zz);obtain⟨v1,rfl⟩:=l1 hl;have g:=mI (c 0 aF);simp only[b9]at g;exact VM ok _ v1 ⟨g.2.2 zq,g.2.1⟩
 obtain⟨v1,rfl⟩:=l1 (hl.trans (f2 zz));exact XS ok _ v1;exact CN ok _ n;exact WR ok _ n;exact I9 ok _ n
end
section
variable {a:cQ} (ws0:List Wd) (s:Wd) (b b2 b4 b5 b6:Nat)
theorem ZF {H:av}{cs:List AV}{r:Wd}{e j:Int}{h:av}(hc:cs.length=27)(hh:h=[])(d:iq a s= .inl e)(k:f=dD a (strs ws0)):
  ∃i c l g,xz e=xz i/\c.length=27/\xo (pq b b2 b4 b5 b6 cs f r j) 0 0 h=pq b b2 b4 b5 b6 c (dD a (strs ws0)) l g/\iq a s= .inl i:=by subst hh k;exact⟨e,cs,r,j,zz,hc,zz,d⟩
theorem ad9 (h:dC s=false):aU an none 96 HN (wH a ws0 s b b2 b4 b5 b6) (el (EO s b b2 b4 b5 b6)) (pq b b2 b4 b5 b6 (dD a (strs ws0)) (dD a (strs ws0)) [] 0) []:=by
 have c:=kZ s;rw[h]at c;have ha:=EZ a h;refine fc [(23,[.ev c]),(24,[.u 0 (cu false 6 zz aG)])] [] ?_;repeat' first|apply aN|apply aM|apply aL|apply ax|apply ad|(intro d;(try simp at d);(try contradiction))
 all_goals try first|exact fo _|exact⟨rfl,rfl,rfl,ZF ws0 s b b2 b4 b5 b6 (H:=[]) rfl bB ha rfl⟩|exact fi _
theorem kg {s:Wd}(h:dC s=true):s.length<=70:=by unfold dC at h;simp at h;omega
theorem jZ {w:Wd}(h:x∈bQ w):x.ws.length<=5:=by have h:=um h;have: ∀y∈wP.flatMap (·.2),y.ws.length<=5:=aG;exact this x h
variable {s}
theorem afk {w0:Wd}(h:dC s=true)(d:br 32 s=w0::l)(e:(bQ w0).find? (λx=>eA x l)=none):
  aU an none 96 HN (wH a ws0 s b b2 b4 b5 b6) (el (EO s b b2 b4 b5 b6)) (pq b b2 b4 b5 b6 (dD a (strs ws0)) (dD a (strs ws0)) [] 0) []:=by
 have f:=kZ s;rw[h]at f;have hl:=kg h;have hs:=nO s 32 af;rw[d]at hs;have ha:=J5 a l h d e;have g:l.length<=1000:=by have:=gL (c:=32) s;rw[d,ap]at this;omega
 have hi:=sG b (bQ w0) 75 [.pi [strs l]] (λx=>eA x l) (λx hx=>pQ b x l (by have:=jZ hx;omega) g);have uT:bM (λx=>eA x l) (bQ w0) 0= -1:=Ap _ (λy hy=>by simpa using eS.1 e y hy);rw[uT]at hi;refine fc [(23,[.ev f]),(24,[.u 0 (cu true 6 zz aG)]),(25,[.i (.at 1)]),(27,[.ev hs]),(10029,[.i (.iL 0)]),(30,[.i (.at 1)]),(31,[.ev (qj b)]),(32,[.i (.at 1)]),(35,[.i (.at 0)]),(38,[.i (.op (.sl 3 ((bQ w0).map (bC.ao b lq))))]),(39,[.i (.at 1)]),(42,[.i (.at 0)]),(45,[.fz 8]),(46,[.ev hi]),(49,[.u 0 (cu false 6 zz aG)])] [] ?_;repeat' first|apply aN|apply aM|apply aL|apply ax|apply ad|(intro j;(try simp at j);(try contradiction))
 all_goals try first|exact fo _|exact⟨xA b w0 rfl rfl⟩|exact⟨rfl,rfl,rfl,ZF ws0 s b b2 b4 b5 b6 (H:=[]) rfl bB ha rfl⟩|exact⟨rfl⟩|exact⟨bj _⟩|exact fi _
 done
end
section
variable {a:cQ} (ok:a.OK) (ws0:List Wd) {s:Wd} (b b2 b4 b5 b6:Nat)
structure oP (a:cQ)(x:bC)(own:List Wd)(k:Nat):Prop where
 h: ∀i,i<k->(uh a x own i).isSome=true
theorem oP.on (h:oP a x l k)(hk:(uh a x l k).isSome=true):oP a x l (k+1):=⟨λi hi=>if e:i=k then e▸hk else h.h i af⟩
theorem oP.zero:oP a x l 0:=⟨λi hi=>absurd hi (er i)⟩
theorem vr (h:k<x.ws.length):fK (.v (zi (nx x.ws k))) (.v (zi (iS x k))):=by
 have:iS x k=nx x.ws k:=by unfold iS;rw[bP h]
 rw[this];exact bj _
theorem Ah {i:Nat}(h: ¬k<d.length):fK (.v (zi m)) (.v (zi (iS ⟨d,some m,i⟩ k))):=by grind [iS,only,fK.refl]
theorem vL {y:List AV}(hk:k<l.length)(b:l.length<=1000):(((gd a x l k).map λx=>[I x]).length+[y].length)*8<=140737488355328/\((gd a x l k).map λx=>[I x]).length+[y].length<=9223372036854775807:=by grind [only,gd]
theorem rE:(gd a x l k).map (λx=>[I x])++[[I ((uh a x l k).getD (0,0)).1]]=(gd a x l (k+1)).map λx=>[I x]:=by rw[OP,cy];rfl
theorem oZ (h:((uh a x l k).getD (0,0)).2=0):ft a x l k=ft a x l (k+1):=by rw[ft,zy h]
theorem oX (h: ¬((uh a x l k).getD (0,0)).2=0):((uh a x l k).getD (0,0)).2=ft a x l (k+1):=by rw[ft,zj h]
theorem Ed (h:k<=l.length)(b: ¬k<l.length):fK (I (ft a x l k)) (I (ft a x l l.length)):=by have:k=l.length:=af;subst this;exact bj _
theorem JA (h:k<=l.length)(b: ¬k<l.length):fK (ints (gd a x l k)) (ints (gd a x l l.length)):=by have:k=l.length:=af;subst this;exact bj _
theorem Wy (a:cQ)(k:Kd)(w:Wd):eb ((iZ a k w).getD (0,0)).2:=by
 unfold iZ;repeat' split
 all_goals first|exact T5|exact eb4
theorem BV (x:bC)(own:List Wd): ∀k,eb (ft a x own k)
 |0=>T5
 |k+1=>by rw[ft];split;exact BV x own k;exact Wy _ _ _
theorem zW {n:Nat}(h: ∀w∈l,w.length<=n)(k:Nat):(nx l k).length<=n:=by by_cases hk:k<l.length;exact h _ (dh hk);simp [nx,hk];exact c7 _
theorem xZ (h: ∀i,i<l.length->(uh a x l i).isSome=true)(hk:k<l.length)(b:(iZ a (iS x k) (nx l k)).isSome=false):False:=by have:=h k hk;unfold uh at this;rw[b]at this;cases this
theorem Pl (h: ¬ ∀i,i<l.length->(uh a x l i).isSome=true)(hi:oP a x l k)(hk: ¬k<l.length):False:=h λi b=>hi.h i af
theorem IM: ∀{r:jx},r.is=false->r= .inl r.err
 | .inl _,_=>rfl
 | .inr _,h=>by cases h
theorem JL (a:cQ): ∀{r:jx},r.is=true->r= .inr (r.arc a,r.say)
 | .inr _,_=>rfl
 | .inl _,h=>by cases h
theorem XG {cs:List AV}{r:Wd}{e j:Int}{h:av}(hd:wI b h)(d:iq a s= .inl e)(k:f=dD a (strs ws0)):
  ∃i c l g,xz e=xz i/\c.length=27/\xo (pq b b2 b4 b5 b6 cs f r j) 0 1 h=pq b b2 b4 b5 b6 c (dD a (strs ws0)) l g/\iq a s= .inl i:=by obtain⟨c,hc,rfl⟩:=hd;subst k;exact⟨e,c,r,j,zz,hc,zz,d⟩
theorem C5 {α:Type}(p:α->Bool): ∀(l:List α) (k:Int),0<=k->0<=bM p l k->l.find? p=l[(bM p l k-k).toNat]?
 |[],k,_,h=>by simp [bM]at h
 |x::l,k,hk,h=>by by_cases a:p x=true;have e:bM p (x::l) k=k:=(by simp only[bM,a,if_true]);rw[e];simp [List.find?,a];have e:bM p (x::l) k=bM p l (k+1):=(by simp only[bM,a,if_false,Bool.false_eq_true]);rw[e]at h ⊢;have c:=(qv p l (k+1) af h).1;have:=C5 p l (k+1) af h;rw[List.find?_cons_of_neg a,this];have b:(bM p l (k+1)-k).toNat=(bM p l (k+1)-(k+1)).toNat+1:=af;rw[b];simp
theorem gY {c:UInt8}: ∀{s:Wd} {w:Wd},w∈br c s->w.length<=s.length
 |[],w,h=>by simp [br]at h;subst h;simp
 |x::l,w,h=>by
  unfold br at h;split at h;rcases bA.1 h with rfl|h;simp;have:=gY h;simp only[ap];omega
  split at h;simp only[bx]at h;subst h;simp;rename_i v a e;rcases bA.1 h with rfl|h
  have:=gY (c:=c) (s:=l) (w:=v) (by rw[e];simp);simp only[ap];omega;have:=gY (c:=c) (s:=l) (w:=w) (by rw[e];simp [h]);simp only[ap];omega
theorem sg {w0:Wd}(a:(bQ w0).find? (λx=>eA x l)=some x):0<=bM (λx=>eA x l) (bQ w0) 0/\(bQ w0)[(bM (λx=>eA x l) (bQ w0) 0).toNat]? =some x:=by have b:0<=bM (λx=>eA x l) (bQ w0) 0:=(yr _ _ 0 (ew _)).2 (List.any_eq_true.2 ⟨x,a6 a,by simpa using bI a⟩);have:=C5 (λx=>eA x l) (bQ w0) 0 (ew _) b;rw[a,fb]at this;exact⟨b,this.symm⟩
theorem sc {f:Wd->List AV}:(((kI (fr f (u::l)) (some (fj 1)) none).length:Nat):Int)=l.length:=by simp [kI]
theorem Gy (he:ft a x l l.length=0)(hi:k<=l.length)(hk: ¬k<l.length):fK (I (ft a x l k)) (I 0):=by rw[<-he];exact Ed hi hk
theorem ae6 {c:cQ}{a:List AV}{b b4 b5 b6:Nat}{r:Wd}(d:br 32 s=l)(h:H=pq b k b4 b5 b6 (dD c (strs l)) a r 0):H=pq b k b4 b5 b6 (dD c (strs (br 32 s))) a r 0:=by rw[d];exact h
theorem Am {a:Int}(b:p=I a)(h:a=n):YK p (I n):=by subst b;exact⟨zz,h⟩
end
section
variable {a:cQ} (ok:a.OK) (ws0:List Wd) {s:Wd} (b b2 b4 b5 b6:Nat)
include ok
theorem acW {w0:Wd}{own:List Wd}{id:Nat}(h:dC s=true)(m:br 32 s=w0::own)(q:(bQ w0).find? (λx=>eA x own)=some (⟨d,none,id⟩:bC))(e: ∀i,i<own.length->(uh a (⟨d,none,id⟩:bC) own i).isSome=true)(he:ft a (⟨d,none,id⟩:bC) own own.length=0):
  aU an none 96 HN (wH a ws0 s b b2 b4 b5 b6) (el (EO s b b2 b4 b5 b6)) (pq b b2 b4 b5 b6 (dD a (strs ws0)) (dD a (strs ws0)) [] 0) []:=by
 have A:=kZ s;rw[h]at A;have hl:=kg h;have hs:=nO s 32 af;rw[m]at hs;have ha:=pZ a _ own h m q;have C:own.length<=100:=by have:=gL (c:=32) s;rw[m,ap]at this;omega
 have l: ∀w∈own,w.length<=1000:=λw hm=>by have:=gY (c:=32) (s:=s) (w:=w) (by rw[m];exact bs _ hm);omega
 have y:=zW l;have hi:=sG b (bQ w0) 75 [.pi [strs own]] (λx=>eA x own) (λx hx=>pQ b x own (by have:=jZ hx;omega) af);obtain⟨uT,j⟩:=sg q;generalize bM (λx=>eA x own) (bQ w0) 0=i at hi uT j;have o:=a6 q;have g:=bI q;have F:d.length<=5:=jZ o;have t:0<=i/\((bQ w0).map (bC.ao b lq))[i.toNat]? =some ((⟨d,none,id⟩:bC).ao b lq):=⟨uT,by simp [j]⟩;have z:own.length=d.length:=(ve g).2 zz;rw[zy e,zj (λh=>h he)]at ha;have hd:=Wo ok o g (n:=gd a (⟨d,none,id⟩:bC) own own.length) (by simp [gd]) (λi hi=>by
  have r:=e i hi
  have p:=vP a (⟨d,none,id⟩:bC) own _ he i hi
  rw[show (gd a (⟨d,none,id⟩:bC) own own.length).getD i 0=((uh a (⟨d,none,id⟩:bC) own i).getD (0,0)).1 by simp [gd,hi]]
  unfold uh at r p ⊢
  cases B:iZ a (iS (⟨d,none,id⟩:bC) i) (nx own i)with
  |none=>rw[B]at r;cases r
  |some v=>rw[B]at p;simp only[cx]at p ⊢;rw[<-p]) l C b
 generalize Bj a (w0::own) (gd a (⟨d,none,id⟩:bC) own own.length) (⟨d,none,id⟩:bC).id=res at ha hd;refine fc [(23,[.ev A]),(24,[.u 0 (cu true 6 zz aG)]),(25,[.i (.at 1)]),(27,[.ev hs]),(10029,[.i (.iL 0)]),(30,[.i (.at 1)]),(31,[.ev (qj b)]),(32,[.i (.at 1)]),(35,[.i (.at 0)]),(38,[.i (.op (.sl 3 ((bQ w0).map (bC.ao b lq))))]),(39,[.i (.at 1)]),(42,[.i (.at 0)]),(45,[.fz 8]),(46,[.ev hi]),(49,[.u 0 (cu true 6 zz aG)]),(52,[.i (.cells ((⟨d,none,id⟩:bC).ao b lq))]),(54,[.fz 10]),(91,[.u 0 (dE 0 zz)]),(95,[.u 0 hd]),(10004,[.i (.iL 2)]),(10005,[.i (.iL 3)])] [(0,{n:=own.length,E:=λk=>[(2,.po b2 0),(4,.po b4 0),(5,.po b5 0),(8,.pi [strs own]),(10,.pi ((⟨d,none,id⟩:bC).ao b lq)),(11,.aT 3 1 ((gd a (⟨d,none,id⟩:bC) own k).map λx=>[I x])),(12,I (ft a (⟨d,none,id⟩:bC) own k)),(54,strs own),(55,I own.length),(56,I k)],I:=λk=>oP a (⟨d,none,id⟩:bC) own k,H:=λk=>[(b,.cells 66 (dD a (strs (w0::own)))),(b2,.cells 59 [.po b 0]),(b4,.cells 9 [bh []]),(b5,.cells 50 [I 0]),(b6,.cells 66 (dD a (strs ws0)))],K:=λk=>[(59,[.i (.cells [bh (nx own k)])]),(71,[.i (.cells [.v (zi (nx d k))])]),(74,[.i (.at 1)]),(79,[.u 0 (Au ok b (w0::own) (iS (⟨d,none,id⟩:bC) k) (nx own k) (y k))])]})] ?_;repeat' first|exact(xZ e bB bB).elim|exact absurd (z▸(show _<own.length from bB):_<d.length) bB|apply aN|apply aM|apply aL|apply ax|apply ad|(intro D;(try simp only[nL]at D);(try contradiction))
 all_goals try first|exact fo _|exact Am rfl sc|exact⟨xA b w0 rfl rfl⟩|exact⟨t⟩|exact⟨oP.zero⟩|exact⟨vr (x:=(⟨d,none,id⟩:bC)) bB⟩|exact⟨af,mR (f:=λk=>[.v (zi k)]) bB⟩|exact⟨vL bB af⟩|exact⟨rfl,rfl,rE⟩|exact⟨rfl,oZ bB⟩|exact⟨rfl,oX bB⟩|exact⟨oP.on bB bB⟩|exact⟨kz (decide_eq_true af)⟩|exact⟨Gy he bB bB⟩|exact⟨JA bB bB⟩|exact⟨rfl,rfl,rfl,XG ws0 b b2 b4 b5 b6 bB (ha.trans (IM bB)) rfl⟩|exact⟨rfl,rfl,rfl,res.arc a,res.say,ae6 m rfl,ha.trans (JL a bB)⟩|exact⟨rfl⟩|exact⟨bj _⟩|exact fi _
 done
end
section
variable {a:cQ} (ok:a.OK) (ws0:List Wd) {s:Wd} (b b2 b4 b5 b6:Nat)
include ok
theorem ac9 {w0:Wd}{own:List Wd}{id:Nat}(h:dC s=true)(o:br 32 s=w0::own)(r:(bQ w0).find? (λx=>eA x own)=some (⟨d,(some m),id⟩:bC))(e: ∀i,i<own.length->(uh a (⟨d,(some m),id⟩:bC) own i).isSome=true)(he:ft a (⟨d,(some m),id⟩:bC) own own.length=0):
  aU an none 96 HN (wH a ws0 s b b2 b4 b5 b6) (el (EO s b b2 b4 b5 b6)) (pq b b2 b4 b5 b6 (dD a (strs ws0)) (dD a (strs ws0)) [] 0) []:=by
 have A:=kZ s;rw[h]at A;have hl:=kg h;have hs:=nO s 32 af;rw[o]at hs;have ha:=pZ a _ own h o r;have C:own.length<=100:=by have:=gL (c:=32) s;rw[o,ap]at this;omega
 have l: ∀w∈own,w.length<=1000:=λw hm=>by have:=gY (c:=32) (s:=s) (w:=w) (by rw[o];exact bs _ hm);omega
 have z:=zW l;have hi:=sG b (bQ w0) 75 [.pi [strs own]] (λx=>eA x own) (λx hx=>pQ b x own (by have:=jZ hx;omega) af);obtain⟨uT,j⟩:=sg r;generalize bM (λx=>eA x own) (bQ w0) 0=i at hi uT j;have p:=a6 r;have g:=bI r;have F:d.length<=5:=jZ p;have y:0<=i/\((bQ w0).map (bC.ao b lq))[i.toNat]? =some ((⟨d,(some m),id⟩:bC).ao b lq):=⟨uT,by simp [j]⟩;rw[zy e,zj (λh=>h he)]at ha;have hd:=Wo ok p g (n:=gd a (⟨d,(some m),id⟩:bC) own own.length) (by simp [gd]) (λi hi=>by
  have t:=e i hi
  have q:=vP a (⟨d,(some m),id⟩:bC) own _ he i hi
  rw[show (gd a (⟨d,(some m),id⟩:bC) own own.length).getD i 0=((uh a (⟨d,(some m),id⟩:bC) own i).getD (0,0)).1 by simp [gd,hi]]
  unfold uh at t q ⊢
  cases B:iZ a (iS (⟨d,(some m),id⟩:bC) i) (nx own i)with
  |none=>rw[B]at t;cases t
  |some v=>rw[B]at q;simp only[cx]at q ⊢;rw[<-q]) l C b
 generalize Bj a (w0::own) (gd a (⟨d,(some m),id⟩:bC) own own.length) (⟨d,(some m),id⟩:bC).id=res at ha hd;refine fc [(23,[.ev A]),(24,[.u 0 (cu true 6 zz aG)]),(25,[.i (.at 1)]),(27,[.ev hs]),(10029,[.i (.iL 0)]),(30,[.i (.at 1)]),(31,[.ev (qj b)]),(32,[.i (.at 1)]),(35,[.i (.at 0)]),(38,[.i (.op (.sl 3 ((bQ w0).map (bC.ao b lq))))]),(39,[.i (.at 1)]),(42,[.i (.at 0)]),(45,[.fz 8]),(46,[.ev hi]),(49,[.u 0 (cu true 6 zz aG)]),(52,[.i (.cells ((⟨d,(some m),id⟩:bC).ao b lq))]),(54,[.fz 10]),(91,[.u 0 (dE 0 zz)]),(95,[.u 0 hd]),(10004,[.i (.iL 2)]),(10005,[.i (.iL 3)])] [(0,{n:=own.length,E:=λk=>[(2,.po b2 0),(4,.po b4 0),(5,.po b5 0),(8,.pi [strs own]),(10,.pi ((⟨d,(some m),id⟩:bC).ao b lq)),(11,.aT 3 1 ((gd a (⟨d,(some m),id⟩:bC) own k).map λx=>[I x])),(12,I (ft a (⟨d,(some m),id⟩:bC) own k)),(54,strs own),(55,I own.length),(56,I k)],I:=λk=>oP a (⟨d,(some m),id⟩:bC) own k,H:=λk=>[(b,.cells 66 (dD a (strs (w0::own)))),(b2,.cells 59 [.po b 0]),(b4,.cells 9 [bh []]),(b5,.cells 50 [I 0]),(b6,.cells 66 (dD a (strs ws0)))],K:=λk=>[(59,[.i (.cells [bh (nx own k)])]),(71,[.i (.cells [.v (zi (nx d k))])]),(74,[.i (.at 1)]),(79,[.u 0 (Au ok b (w0::own) (iS (⟨d,(some m),id⟩:bC) k) (nx own k) (z k))])]})] ?_;repeat' first|exact(xZ e bB bB).elim|apply aN|apply aM|apply aL|apply ax|apply ad|(intro D;(try simp only[nL]at D);(try contradiction))
 all_goals try first|exact fo _|exact Am rfl sc|exact⟨xA b w0 rfl rfl⟩|exact⟨y⟩|exact⟨oP.zero⟩|exact⟨vr (x:=(⟨d,(some m),id⟩:bC)) bB⟩|exact⟨af,mR (f:=λk=>[.v (zi k)]) bB⟩|exact⟨vL bB af⟩|exact⟨rfl,rfl,rE⟩|exact⟨rfl,oZ bB⟩|exact⟨rfl,oX bB⟩|exact⟨oP.on bB bB⟩|exact⟨kz (decide_eq_true af)⟩|exact⟨Ah bB⟩|exact⟨Gy he bB bB⟩|exact⟨JA bB bB⟩|exact⟨rfl,rfl,rfl,XG ws0 b b2 b4 b5 b6 bB (ha.trans (IM bB)) rfl⟩|exact⟨rfl,rfl,rfl,res.arc a,res.say,ae6 o rfl,ha.trans (JL a bB)⟩|exact⟨rfl⟩|exact⟨bj _⟩|exact fi _
 done
end
section
variable {a:cQ} (ok:a.OK) (ws0:List Wd) {s:Wd} (b b2 b4 b5 b6:Nat)
include ok
theorem aa3 {w0:Wd}{own:List Wd}{id:Nat}(h:dC s=true)(m:br 32 s=w0::own)(l:(bQ w0).find? (λx=>eA x own)=some (⟨d,none,id⟩:bC))(e: ∀i,i<own.length->(uh a (⟨d,none,id⟩:bC) own i).isSome=true)(he:ft a (⟨d,none,id⟩:bC) own own.length≠0):
  aU an none 96 HN (wH a ws0 s b b2 b4 b5 b6) (el (EO s b b2 b4 b5 b6)) (pq b b2 b4 b5 b6 (dD a (strs ws0)) (dD a (strs ws0)) [] 0) []:=by
 have y:=kZ s;rw[h]at y;have hl:=kg h;have hs:=nO s 32 af;rw[m]at hs;have ha:=pZ a _ own h m l;have B:own.length<=100:=by have:=gL (c:=32) s;rw[m,ap]at this;omega
 have r: ∀w∈own,w.length<=1000:=λw hm=>by have:=gY (c:=32) (s:=s) (w:=w) (by rw[m];exact bs _ hm);omega
 have p:=zW r;have hi:=sG b (bQ w0) 75 [.pi [strs own]] (λx=>eA x own) (λx hx=>pQ b x own (by have:=jZ hx;omega) af);obtain⟨uT,j⟩:=sg l;generalize bM (λx=>eA x own) (bQ w0) 0=i at hi uT j;have t:=a6 l;have g:=bI l;have A:d.length<=5:=jZ t;have o:0<=i/\((bQ w0).map (bC.ao b lq))[i.toNat]? =some ((⟨d,none,id⟩:bC).ao b lq):=⟨uT,by simp [j]⟩;have q:own.length=d.length:=(ve g).2 zz;rw[zy e,zy he]at ha;refine fc [(23,[.ev y]),(24,[.u 0 (cu true 6 zz aG)]),(25,[.i (.at 1)]),(27,[.ev hs]),(10029,[.i (.iL 0)]),(30,[.i (.at 1)]),(31,[.ev (qj b)]),(32,[.i (.at 1)]),(35,[.i (.at 0)]),(38,[.i (.op (.sl 3 ((bQ w0).map (bC.ao b lq))))]),(39,[.i (.at 1)]),(42,[.i (.at 0)]),(45,[.fz 8]),(46,[.ev hi]),(49,[.u 0 (cu true 6 zz aG)]),(52,[.i (.cells ((⟨d,none,id⟩:bC).ao b lq))]),(54,[.fz 10]),(91,[.u 0 (dE (ft a (⟨d,none,id⟩:bC) own own.length) (xK (BV _ _ _)))])] [(0,{n:=own.length,E:=λk=>[(2,.po b2 0),(4,.po b4 0),(5,.po b5 0),(8,.pi [strs own]),(10,.pi ((⟨d,none,id⟩:bC).ao b lq)),(11,.aT 3 1 ((gd a (⟨d,none,id⟩:bC) own k).map λx=>[I x])),(12,I (ft a (⟨d,none,id⟩:bC) own k)),(54,strs own),(55,I own.length),(56,I k)],I:=λk=>oP a (⟨d,none,id⟩:bC) own k,H:=λk=>[(b,.cells 66 (dD a (strs (w0::own)))),(b2,.cells 59 [.po b 0]),(b4,.cells 9 [bh []]),(b5,.cells 50 [I 0]),(b6,.cells 66 (dD a (strs ws0)))],K:=λk=>[(59,[.i (.cells [bh (nx own k)])]),(71,[.i (.cells [.v (zi (nx d k))])]),(74,[.i (.at 1)]),(79,[.u 0 (Au ok b (w0::own) (iS (⟨d,none,id⟩:bC) k) (nx own k) (p k))])]})] ?_;repeat' first|exact(xZ e bB bB).elim|exact absurd (q▸(show _<own.length from bB):_<d.length) bB|exact absurd (show ft a (⟨d,none,id⟩:bC) own own.length=0 from bB) he|apply aN|apply aM|apply aL|apply ax|apply ad|(intro z;(try simp only[nL]at z);(try contradiction))
 all_goals try first|exact fo _|exact Am rfl sc|exact⟨xA b w0 rfl rfl⟩|exact⟨o⟩|exact⟨oP.zero⟩|exact⟨vr (x:=(⟨d,none,id⟩:bC)) bB⟩|exact⟨af,mR (f:=λk=>[.v (zi k)]) bB⟩|exact⟨vL bB af⟩|exact⟨rfl,rfl,rE⟩|exact⟨rfl,oZ bB⟩|exact⟨rfl,oX bB⟩|exact⟨oP.on bB bB⟩|exact⟨kz (decide_eq_true af)⟩|exact⟨Ed bB bB⟩|exact⟨rfl,rfl,rfl,ZF ws0 s b b2 b4 b5 b6 (H:=[]) rfl bB ha rfl⟩|exact⟨rfl⟩|exact⟨bj _⟩|exact fi _
 done
end
section
variable {a:cQ} (ok:a.OK) (ws0:List Wd) {s:Wd} (b b2 b4 b5 b6:Nat)
include ok
theorem aco {w0:Wd}{own:List Wd}{id:Nat}(h:dC s=true)(l:br 32 s=w0::own)(j:(bQ w0).find? (λx=>eA x own)=some (⟨d,(some m),id⟩:bC))(e: ∀i,i<own.length->(uh a (⟨d,(some m),id⟩:bC) own i).isSome=true)(he:ft a (⟨d,(some m),id⟩:bC) own own.length≠0):
  aU an none 96 HN (wH a ws0 s b b2 b4 b5 b6) (el (EO s b b2 b4 b5 b6)) (pq b b2 b4 b5 b6 (dD a (strs ws0)) (dD a (strs ws0)) [] 0) []:=by
 have y:=kZ s;rw[h]at y;have hl:=kg h;have hs:=nO s 32 af;rw[l]at hs;have ha:=pZ a _ own h l j;have B:own.length<=100:=by have:=gL (c:=32) s;rw[l,ap]at this;omega
 have q: ∀w∈own,w.length<=1000:=λw hm=>by have:=gY (c:=32) (s:=s) (w:=w) (by rw[l];exact bs _ hm);omega
 have p:=zW q;have hi:=sG b (bQ w0) 75 [.pi [strs own]] (λx=>eA x own) (λx hx=>pQ b x own (by have:=jZ hx;omega) af);obtain⟨uT,g⟩:=sg j;generalize bM (λx=>eA x own) (bQ w0) 0=i at hi uT g;have r:=a6 j;have t:=bI j;have A:d.length<=5:=jZ r;have o:0<=i/\((bQ w0).map (bC.ao b lq))[i.toNat]? =some ((⟨d,(some m),id⟩:bC).ao b lq):=⟨uT,by simp [g]⟩;rw[zy e,zy he]at ha;refine fc [(23,[.ev y]),(24,[.u 0 (cu true 6 zz aG)]),(25,[.i (.at 1)]),(27,[.ev hs]),(10029,[.i (.iL 0)]),(30,[.i (.at 1)]),(31,[.ev (qj b)]),(32,[.i (.at 1)]),(35,[.i (.at 0)]),(38,[.i (.op (.sl 3 ((bQ w0).map (bC.ao b lq))))]),(39,[.i (.at 1)]),(42,[.i (.at 0)]),(45,[.fz 8]),(46,[.ev hi]),(49,[.u 0 (cu true 6 zz aG)]),(52,[.i (.cells ((⟨d,(some m),id⟩:bC).ao b lq))]),(54,[.fz 10]),(91,[.u 0 (dE (ft a (⟨d,(some m),id⟩:bC) own own.length) (xK (BV _ _ _)))])] [(0,{n:=own.length,E:=λk=>[(2,.po b2 0),(4,.po b4 0),(5,.po b5 0),(8,.pi [strs own]),(10,.pi ((⟨d,(some m),id⟩:bC).ao b lq)),(11,.aT 3 1 ((gd a (⟨d,(some m),id⟩:bC) own k).map λx=>[I x])),(12,I (ft a (⟨d,(some m),id⟩:bC) own k)),(54,strs own),(55,I own.length),(56,I k)],I:=λk=>oP a (⟨d,(some m),id⟩:bC) own k,H:=λk=>[(b,.cells 66 (dD a (strs (w0::own)))),(b2,.cells 59 [.po b 0]),(b4,.cells 9 [bh []]),(b5,.cells 50 [I 0]),(b6,.cells 66 (dD a (strs ws0)))],K:=λk=>[(59,[.i (.cells [bh (nx own k)])]),(71,[.i (.cells [.v (zi (nx d k))])]),(74,[.i (.at 1)]),(79,[.u 0 (Au ok b (w0::own) (iS (⟨d,(some m),id⟩:bC) k) (nx own k) (p k))])]})] ?_;repeat' first|exact(xZ e bB bB).elim|exact absurd (show ft a (⟨d,(some m),id⟩:bC) own own.length=0 from bB) he|apply aN|apply aM|apply aL|apply ax|apply ad|(intro z;(try simp only[nL]at z);(try contradiction))
 all_goals try first|exact fo _|exact Am rfl sc|exact⟨xA b w0 rfl rfl⟩|exact⟨o⟩|exact⟨oP.zero⟩|exact⟨vr (x:=(⟨d,(some m),id⟩:bC)) bB⟩|exact⟨af,mR (f:=λk=>[.v (zi k)]) bB⟩|exact⟨vL bB af⟩|exact⟨rfl,rfl,rE⟩|exact⟨rfl,oZ bB⟩|exact⟨rfl,oX bB⟩|exact⟨oP.on bB bB⟩|exact⟨kz (decide_eq_true af)⟩|exact⟨Ah bB⟩|exact⟨Ed bB bB⟩|exact⟨rfl,rfl,rfl,ZF ws0 s b b2 b4 b5 b6 (H:=[]) rfl bB ha rfl⟩|exact⟨rfl⟩|exact⟨bj _⟩|exact fi _
 done
end
section
variable {a:cQ} (ok:a.OK) (ws0:List Wd) {s:Wd} (b b2 b4 b5 b6:Nat)
include ok
theorem abc {w0:Wd}{own:List Wd}{id:Nat}(h:dC s=true)(m:br 32 s=w0::own)(l:(bQ w0).find? (λx=>eA x own)=some (⟨d,none,id⟩:bC))(e: ¬ ∀i,i<own.length->(uh a (⟨d,none,id⟩:bC) own i).isSome=true):
  aU an none 96 HN (wH a ws0 s b b2 b4 b5 b6) (el (EO s b b2 b4 b5 b6)) (pq b b2 b4 b5 b6 (dD a (strs ws0)) (dD a (strs ws0)) [] 0) []:=by
 have y:=kZ s;rw[h]at y;have hl:=kg h;have hs:=nO s 32 af;rw[m]at hs;have ha:=pZ a _ own h m l;have B:own.length<=100:=by have:=gL (c:=32) s;rw[m,ap]at this;omega
 have r: ∀w∈own,w.length<=1000:=λw hm=>by have:=gY (c:=32) (s:=s) (w:=w) (by rw[m];exact bs _ hm);omega
 have p:=zW r;have hi:=sG b (bQ w0) 75 [.pi [strs own]] (λx=>eA x own) (λx hx=>pQ b x own (by have:=jZ hx;omega) af);obtain⟨uT,j⟩:=sg l;generalize bM (λx=>eA x own) (bQ w0) 0=i at hi uT j;have t:=a6 l;have g:=bI l;have A:d.length<=5:=jZ t;have o:0<=i/\((bQ w0).map (bC.ao b lq))[i.toNat]? =some ((⟨d,none,id⟩:bC).ao b lq):=⟨uT,by simp [j]⟩;have q:own.length=d.length:=(ve g).2 zz;rw[zj e]at ha;refine fc [(23,[.ev y]),(24,[.u 0 (cu true 6 zz aG)]),(25,[.i (.at 1)]),(27,[.ev hs]),(10029,[.i (.iL 0)]),(30,[.i (.at 1)]),(31,[.ev (qj b)]),(32,[.i (.at 1)]),(35,[.i (.at 0)]),(38,[.i (.op (.sl 3 ((bQ w0).map (bC.ao b lq))))]),(39,[.i (.at 1)]),(42,[.i (.at 0)]),(45,[.fz 8]),(46,[.ev hi]),(49,[.u 0 (cu true 6 zz aG)]),(52,[.i (.cells ((⟨d,none,id⟩:bC).ao b lq))]),(54,[.fz 10])] [(0,{n:=own.length,E:=λk=>[(2,.po b2 0),(4,.po b4 0),(5,.po b5 0),(8,.pi [strs own]),(10,.pi ((⟨d,none,id⟩:bC).ao b lq)),(11,.aT 3 1 ((gd a (⟨d,none,id⟩:bC) own k).map λx=>[I x])),(12,I (ft a (⟨d,none,id⟩:bC) own k)),(54,strs own),(55,I own.length),(56,I k)],I:=λk=>oP a (⟨d,none,id⟩:bC) own k,H:=λk=>[(b,.cells 66 (dD a (strs (w0::own)))),(b2,.cells 59 [.po b 0]),(b4,.cells 9 [bh []]),(b5,.cells 50 [I 0]),(b6,.cells 66 (dD a (strs ws0)))],K:=λk=>[(59,[.i (.cells [bh (nx own k)])]),(71,[.i (.cells [.v (zi (nx d k))])]),(74,[.i (.at 1)]),(79,[.u 0 (Au ok b (w0::own) (iS (⟨d,none,id⟩:bC) k) (nx own k) (p k))])]})] ?_;repeat' first|exact(Pl e bB bB).elim|exact absurd (q▸(show _<own.length from bB):_<d.length) bB|apply aN|apply aM|apply aL|apply ax|apply ad|(intro z;(try simp only[nL]at z);(try contradiction))
 all_goals try first|exact fo _|exact Am rfl sc|exact⟨xA b w0 rfl rfl⟩|exact⟨o⟩|exact⟨oP.zero⟩|exact⟨vr (x:=(⟨d,none,id⟩:bC)) bB⟩|exact⟨af,mR (f:=λk=>[.v (zi k)]) bB⟩|exact⟨vL bB af⟩|exact⟨rfl,rfl,rE⟩|exact⟨rfl,oZ bB⟩|exact⟨rfl,oX bB⟩|exact⟨oP.on bB bB⟩|exact⟨kz (decide_eq_true af)⟩|exact⟨rfl,rfl,rfl,XG ws0 b b2 b4 b5 b6 bB ha rfl⟩|exact⟨rfl⟩|exact⟨bj _⟩|exact fi _
 done
end
section
variable {a:cQ} (ok:a.OK) (ws0:List Wd) {s:Wd} (b b2 b4 b5 b6:Nat)
include ok
theorem ac5 {w0:Wd}{own:List Wd}{id:Nat}(h:dC s=true)(l:br 32 s=w0::own)(j:(bQ w0).find? (λx=>eA x own)=some (⟨d,(some m),id⟩:bC))(e: ¬ ∀i,i<own.length->(uh a (⟨d,(some m),id⟩:bC) own i).isSome=true):
  aU an none 96 HN (wH a ws0 s b b2 b4 b5 b6) (el (EO s b b2 b4 b5 b6)) (pq b b2 b4 b5 b6 (dD a (strs ws0)) (dD a (strs ws0)) [] 0) []:=by
 have y:=kZ s;rw[h]at y;have hl:=kg h;have hs:=nO s 32 af;rw[l]at hs;have ha:=pZ a _ own h l j;have B:own.length<=100:=by have:=gL (c:=32) s;rw[l,ap]at this;omega
 have q: ∀w∈own,w.length<=1000:=λw hm=>by have:=gY (c:=32) (s:=s) (w:=w) (by rw[l];exact bs _ hm);omega
 have p:=zW q;have hi:=sG b (bQ w0) 75 [.pi [strs own]] (λx=>eA x own) (λx hx=>pQ b x own (by have:=jZ hx;omega) af);obtain⟨uT,g⟩:=sg j;generalize bM (λx=>eA x own) (bQ w0) 0=i at hi uT g;have r:=a6 j;have t:=bI j;have A:d.length<=5:=jZ r;have o:0<=i/\((bQ w0).map (bC.ao b lq))[i.toNat]? =some ((⟨d,(some m),id⟩:bC).ao b lq):=⟨uT,by simp [g]⟩;rw[zj e]at ha;refine fc [(23,[.ev y]),(24,[.u 0 (cu true 6 zz aG)]),(25,[.i (.at 1)]),(27,[.ev hs]),(10029,[.i (.iL 0)]),(30,[.i (.at 1)]),(31,[.ev (qj b)]),(32,[.i (.at 1)]),(35,[.i (.at 0)]),(38,[.i (.op (.sl 3 ((bQ w0).map (bC.ao b lq))))]),(39,[.i (.at 1)]),(42,[.i (.at 0)]),(45,[.fz 8]),(46,[.ev hi]),(49,[.u 0 (cu true 6 zz aG)]),(52,[.i (.cells ((⟨d,(some m),id⟩:bC).ao b lq))]),(54,[.fz 10])] [(0,{n:=own.length,E:=λk=>[(2,.po b2 0),(4,.po b4 0),(5,.po b5 0),(8,.pi [strs own]),(10,.pi ((⟨d,(some m),id⟩:bC).ao b lq)),(11,.aT 3 1 ((gd a (⟨d,(some m),id⟩:bC) own k).map λx=>[I x])),(12,I (ft a (⟨d,(some m),id⟩:bC) own k)),(54,strs own),(55,I own.length),(56,I k)],I:=λk=>oP a (⟨d,(some m),id⟩:bC) own k,H:=λk=>[(b,.cells 66 (dD a (strs (w0::own)))),(b2,.cells 59 [.po b 0]),(b4,.cells 9 [bh []]),(b5,.cells 50 [I 0]),(b6,.cells 66 (dD a (strs ws0)))],K:=λk=>[(59,[.i (.cells [bh (nx own k)])]),(71,[.i (.cells [.v (zi (nx d k))])]),(74,[.i (.at 1)]),(79,[.u 0 (Au ok b (w0::own) (iS (⟨d,(some m),id⟩:bC) k) (nx own k) (p k))])]})] ?_;repeat' first|exact(Pl e bB bB).elim|apply aN|apply aM|apply aL|apply ax|apply ad|(intro z;(try simp only[nL]at z);(try contradiction))
 all_goals try first|exact fo _|exact Am rfl sc|exact⟨xA b w0 rfl rfl⟩|exact⟨o⟩|exact⟨oP.zero⟩|exact⟨vr (x:=(⟨d,(some m),id⟩:bC)) bB⟩|exact⟨af,mR (f:=λk=>[.v (zi k)]) bB⟩|exact⟨vL bB af⟩|exact⟨rfl,rfl,rE⟩|exact⟨rfl,oZ bB⟩|exact⟨rfl,oX bB⟩|exact⟨oP.on bB bB⟩|exact⟨kz (decide_eq_true af)⟩|exact⟨Ah bB⟩|exact⟨rfl,rfl,rfl,XG ws0 b b2 b4 b5 b6 bB ha rfl⟩|exact⟨rfl⟩|exact⟨bj _⟩|exact fi _
 done
end
theorem Uv (ok:a.OK)(d:List Wd)(s:Wd)(b:Nat):iM an 34 [.po b 0,bh s] [cU b a (strs d)] (H8 a d s b):=by
 refine Rf d s b λb2 f b5 g=>?_;cases h:dC s with
 |false=>exact ad9 d s b b2 f b5 g h
 |true=>
  cases j:br 32 s with
  |nil=>exact absurd j (Gr _ _)
  |cons w0 own=>
   cases k:(bQ w0).find? (λx=>eA x own)with
   |none=>exact afk d b b2 f b5 g h j k
   |some x=>
    obtain⟨e,more,id⟩:=x;cases more with
    |none=>by_cases c: ∀i,i<own.length->(uh a (⟨e,none,id⟩:bC) own i).isSome=true;by_cases he:ft a (⟨e,none,id⟩:bC) own own.length=0;exact acW ok d b b2 f b5 g h j k c he;exact aa3 ok d b b2 f b5 g h j k c he;exact abc ok d b b2 f b5 g h j k c
    |some m=>by_cases c: ∀i,i<own.length->(uh a (⟨e,some m,id⟩:bC) own i).isSome=true;by_cases he:ft a (⟨e,some m,id⟩:bC) own own.length=0;exact ac9 ok d b b2 f b5 g h j k c he;exact aco ok d b b2 f b5 g h j k c he;exact ac5 ok d b b2 f b5 g h j k c
section
def jB:jx->Prop
 | .inl e=>e≠0/\eb e
 | .inr x=>x.1.OK/\x.2.length<=1000000
theorem vq {l:List Int}(hl:l.length<=1000)(h: ∀x∈l,-9223372036854775808<=x/\x<=9223372036854775807):(nQ l).length<=1000000:=by
 have:=nC (B:=21) (l:=l.map fX) (by
  intro w a
  obtain⟨x,hx,rfl⟩:=cB.1 a
  exact bn x (h x hx).1 (h x hx).2)
 rw[az]at this;unfold nQ wc;split;simp;omega
theorem IU {a:List Wd}{l:List Int}(hl:l.length<=1000)(b: ∀w∈a,w.length<=16):(wz a l).length<=1000000:=by
 have:=nC (B:=16) (l:=l.map λi=>a.getD i.toNat []) (by
  intro w c
  obtain⟨x,hx,rfl⟩:=cB.1 c
  by_cases h:x.toNat<a.length
  ·exact b _ (by simp [b0,h])
  ·simp [b0,h])
 rw[az]at this;unfold wz wc;split;simp;omega
theorem ta {b:cQ}(w:b.wf)(h:b.OK->jB r):jB (lP b r):=by unfold lP;split;rename_i a;exact⟨a,FE b⟩;rename_i a;exact h (rU w af)
variable {a:cQ} (ok:a.OK)
include ok
theorem Du:jB (uC a):=by rw[xW ok];exact⟨ok,IU (OI ok).1 (J1 ok)⟩
theorem Tj:jB (wQ a):=by have h:=Hm ok;unfold wQ;rw[zj af];exact⟨ok,vq h.2.1 h.2.2⟩
theorem JS:jB (pR a):=by have h:=Ej ok;unfold pR;rw[zj af];exact⟨ok,vq aF (DG ok)⟩
theorem Ty {n:Nat}:(a.dr.cs.getD n ⟨[],[]⟩).nm.length<=1000000:=by
 have h:(dF a.dr).2.2=0:=ok.e 2 aG;unfold dF at h;by_cases d:(ae 1 6 [a.dr.st]||ae 1 a.dr.st [a.dr.le]||ae 0 9 [a.dr.we])=true;rw[zy d]at h;cases h;rw[zj d]at h;by_cases f:4<a.dr.cs.length;rw[zy f]at h;cases h;rw[zj f]at h;by_cases b:(aB (eJ (mV a.dr) 0 a.dr.cs) a.dr.cs.length 0).2≠0;rw[zy b]at h;exact absurd h b;have b:=eN.1 (b3.1 b);by_cases c:n<a.dr.cs.length;have h4:=b n c;unfold eJ at h4;rw[a7 c]at h4;simp only at h4;have e:a.dr.cs.getD n ⟨[],[]⟩=a.dr.cs[n]:=by simp [b0,c]
 rw[e];cases g:eI a.dr.cs[n].nm with
 |true=>have:=zR g;omega
 |false=>rw[g]at h4;simp at h4
 simp [b0,c]
theorem Wp (h:Int):jB (Gk a [h]):=by unfold Gk;dsimp only;split;rename_i b;exact⟨b,Iu _ _⟩;exact⟨ok,Ty ok⟩
theorem YR (p n:Int)(_: -9223372036854775808<=n)(_:n<=9223372036854775807):jB (P1 a [p,n]):=by unfold P1;dsimp only;split;rename_i b;exact⟨b,N2 _ _ _⟩;exact⟨ok,IU (W6 ok _ _).1 (TY ok)⟩
theorem U4 (ws:List Wd)(_:2<=ws.length)(_:ws.length<=1000)(p:Int)(m:List Int):jB (FQ a ws (p::m)):=by unfold FQ;dsimp only;split;exact re;split;rename_i c;exact⟨c,Jq _ _ _⟩;have d:=OJ ok (nth (p::m) 0) (((ec a.ix.length).filter λi=>(ws.drop 2).contains (a.ix.getD i [])).map λ(i:Nat)=>(i:Int));refine⟨ok,vq (by rw[az];omega) ?_⟩;intro x hx;obtain⟨i,hi,rfl⟩:=cB.1 hx;have b:=(d.2 i hi).2;have:=(ok.ch.co (a.ch.co[i.toNat]) (cR b)).1;have e:=ok.ch.la;simp only[b0,a7 b,cx];omega
theorem NB (p n:Int)(_:0<=p/\p<a.ch.pe.length):jB (vQ a [p,n]):=by unfold vQ;dsimp only;split;exact re;split;exact re;refine⟨ok,?_⟩;generalize (bM _ _ _).toNat=k;by_cases hk:k<a.le.length;have e:a.le.getD k []=a.le[k]:=(by simp [b0,hk]);dsimp only;rw[e];have c:=lX.1 (OQ ok a.le[k] (cR hk));have b: ∀w∈a.le[k],w.length<=8:=λw d=>(by have h:=cr.1 c.2 w d;simp only[mU,cD,decide_eq_true_eq]at h;omega);have f:=eM 9 c.1;have:=nC b;unfold wc;split;simp;omega;have e:a.le.getD k []=[]:=(by simp [b0,hk]);dsimp only;rw[e];exact show 1<=1000000 from aG
theorem Vn (w0 w1:Wd)(ws:List Wd)(x:Int)(os:List Int)(c:w1.length<=1000)(d:os.length<=1000):jB (Jx a (w0::w1::ws) (x::os)):=by refine ta (J6 ok (os:=os) c) λb=>?_;dsimp only;split;exact⟨b,show 1<=1000000 from aG⟩;exact⟨b,Ty b⟩
theorem PV (x y:Int)(same:Bool):jB (zO a [x,y] same):=by have c:(Em a x y same).wf:={ok.w with tw:={ok.w.tw with}};refine ta c λb=>⟨b,vq (l:=[(gP (Em a x y same).tw).2.1]) aF ?_⟩;intro v d;rw[bx.1 d];have:=F1 _ c.tw;exact⟨by have:=this.1;omega,by have:=this.2;omega⟩
theorem yG (x z y b:Int):jB (mn a [x,z,y] b):=by have w6:=ok.li.w6;have d:(JE a x y b).wf:={ok.w with li:={ok.w.li with wn:=by simp;omega}};exact ta d λc=>Du c
theorem US (n:Int)(_:0<=n/\n<=999):jB (Fg a [n]):=by unfold Fg;dsimp only;split;exact re;rename_i w d;split;exact re;have c:(AW a n w).wf:={ok.w with li:={ok.w.li with wn:=by rw[e4];exact ok.w.li.wn}};exact ta c λb=>Du b
theorem IN (s v lo hi p:Int)(hx:(⟨s,v,lo,hi,p⟩:fw).wf):jB (sj a [s,v,lo,hi,p]):=by unfold sj;dsimp only;split;rename_i c;exact⟨c,OD _ _⟩;have hl:=Uf ok ⟨s,v,lo,hi,p⟩;exact ta (PE ok hx) λb=>⟨b,vq hl.1 hl.2⟩
theorem Ys (n:Int):jB (Q9 a [n]):=by unfold Q9;dsimp only;split;exact re;split;rename_i b;exact⟨b,Ou _ _⟩;split;exact re;rename_i b f;obtain⟨⟨n0,n1⟩,c0,c1⟩:=Vu ok.w.li (n:=n) (by have: ¬(qY a.li n).2≠0:=b;omega);obtain⟨x,hx⟩: ∃x,a.li.su[n.toNat]? =some x:=⟨_,a7 n1⟩;have e:a.li.su.getD (nth [n] 0).toNat ⟨[],0,0⟩=x:=(by show a.li.su.getD n.toNat _=x;simp [b0,hx]);have g:=(ok.li.su x (cd hx));rw[e]at f ⊢;refine ta (NX ok (n:=n) (pe:=x.pe) (c:=(qY a.li n).1) af af) λd=>⟨d,?_⟩;have h:(a.li.cl.getD (qY a.li n).1.toNat []).length<=16:=(by rw[b0,a7 c1];exact WQ ok _ (cR c1));show (a.li.cl.getD (qY a.li n).1.toNat []).length<=1000000;omega
theorem Wz (w0 w1 d:Wd)(l:List Wd)(_:l.length<=1000)(n p:Int)(m:List Int)(h:0<=p/\p<a.ch.pe.length):jB (FC a (w0::w1::d::l) (n::p::m)):=by
 have hs:FC a (w0::w1::d::l) (n::p::m)=if (gh a.sh n l).2.2≠0 then .inl (gh a.sh n l).2.2 else lP (wi a l p.toNat) (.inr (wi a l p.toNat,nQ [a.ch.la+1,(gh a.sh n l).2.1])):=by rw[show wi a l p.toNat=_ from by unfold wi;rw[<-NU,e2]];rfl
 rw[hs];split;rename_i e;exact⟨e,E8 _ _ _⟩;have g:=Jp ok n l;have f:=ok.ch.la;refine ta (Kz ok (l:=l) (p:=p.toNat)) λb=>⟨b,vq (l:=[a.ch.la+1,(gh a.sh n l).2.1]) aF ?_⟩;intro v c;simp only[bA,cb,or_false]at c;rcases c with rfl|rfl<;>omega
theorem Zy {w0:Wd}{own:List Wd}{n:List Int}(hx:x∈bQ w0)(o:eA x own=true)(hl:n.length=own.length)
  (c: ∀i,i<own.length->iZ a (iS x i) (nx own i)=some (n.getD i 0,0)) (hs: ∀s∈own,s.length<=1000) (h:own.length<=100):jB (Bj a (w0::own) n x.id):=by
 obtain⟨f1,f2⟩:=ve o;have hx:=um hx;simp only[wP,eU,e1,a8,e0,en,bA,cb,or_false]at hx;rcases hx with rfl|rfl|rfl|rfl|rfl|rfl|rfl|rfl|rfl|rfl|rfl|rfl|rfl|rfl|rfl|rfl|rfl|rfl;
 match own,n,f1,hl with
 |s1::e::l,[],_,hl=>simp at hl
 |s1::e::l,[_],_,hl=>simp at hl
 |s1::e::l,v1::b::m,_,_=>have f:=vo (c 1 aF);simp only[ap]at h;exact Wz ok w0 s1 e l af v1 b m f
 
 match own,n,f1,hl with
 |s1::l,[],_,hl=>simp at hl
 |s1::l,v1::m,_,_=>simp only[ap]at h;exact U4 ok (w0::s1::l) aF (by simp only[ap];omega) v1 m
 
 obtain⟨s1,e,rfl⟩:=l2 (f2 zz);obtain⟨v1,b,rfl⟩:=l2 hl;exact NB ok v1 b (vo (c 0 aF))
 
 obtain⟨s1,e,rfl⟩:=l2 (f2 zz);obtain⟨v1,b,rfl⟩:=l2 hl;have f:=mI (c 1 aF);exact YR ok v1 b (by simp only[c8,b9]at f;omega) (by simp only[c8,b9]at f;omega)
 
 match own,n,f1,hl with
 |s1::l,[],_,hl=>simp at hl
 |s1::l,v1::m,_,hl=>simp only[ap]at h hl;exact Vn ok w0 s1 l v1 m (hs s1 aF) af
 
 obtain⟨s1,rfl⟩:=l1 (f2 zz);obtain⟨v1,rfl⟩:=l1 hl;exact Wp ok v1
 
 obtain⟨s1,e,r,t,s5,rfl⟩:=l5 (f2 zz);obtain⟨v1,b,d,p,q,rfl⟩:=l5 hl;have g:=mI (c 0 aF);have f:=mI (c 1 aF);have j:=mI (c 2 aF);have h4:=mI (c 3 aF);have k:=mI (c 4 aF);simp only[c8,b9]at g f j h4 k;exact IN ok v1 b d p q {Pf:=by simp only;omega,Oc:=by simp only;omega,v0:=by simp only;omega,v1:=by simp only;omega,Xp:=by simp only;omega,lo1:=by simp only;omega,uT:=by simp only;omega,MR:=by simp only;omega,zL:=by simp only;omega,zl:=by simp only;omega}
 obtain⟨s1,e,rfl⟩:=l2 (f2 zz);obtain⟨v1,b,rfl⟩:=l2 hl;exact PV ok v1 b true;obtain⟨s1,e,rfl⟩:=l2 (f2 zz);obtain⟨v1,b,rfl⟩:=l2 hl;exact PV ok v1 b false;obtain⟨v1,b,d,rfl⟩:=l3 (hl.trans (f2 zz));exact yG ok v1 b d 0;obtain⟨v1,b,d,rfl⟩:=l3 (hl.trans (f2 zz));exact yG ok v1 b d 1;obtain⟨v1,b,d,rfl⟩:=l3 (hl.trans (f2 zz));exact yG ok v1 b d 2;obtain⟨v1,b,d,rfl⟩:=l3 (hl.trans (f2 zz));exact yG ok v1 b d 3;
 obtain⟨s1,rfl⟩:=l1 (f2 zz);obtain⟨v1,rfl⟩:=l1 hl;have g:=mI (c 0 aF);simp only[b9]at g;exact US ok v1 ⟨g.2.2 zq,g.2.1⟩
 obtain⟨v1,rfl⟩:=l1 (hl.trans (f2 zz));exact Ys ok v1;exact Du ok;exact Tj ok;exact JS ok
end
theorem B5 (ok:a.OK)(s:Wd):jB (iq a s):=by
 cases h:dC s with
 |false=>rw[EZ a h];exact re
 |true=>
  cases d:br 32 s with
  |nil=>exact absurd d (Gr _ _)
  |cons w0 own=>
   cases f:(bQ w0).find? (λx=>eA x own)with
   |none=>rw[J5 a own h d f];exact re
   |some x=>
    have ha:=pZ a x own h d f;have hl:=kg h;have l:own.length<=100:=(by have:=gL (c:=32) s;rw[d,ap]at this;omega);have j: ∀w∈own,w.length<=1000:=λw hm=>(by have:=gY (c:=32) (s:=s) (w:=w) (by rw[d];exact bs _ hm);omega);rw[ha];split;rename_i b;split;rename_i he;exact⟨he,BV _ _ _⟩;rename_i he;have he:ft a x own own.length=0:=b3.1 he;refine Zy ok (a6 f) (by simpa using bI f) (n:=gd a x own own.length) (by simp [gd]) (λi hi=>?_) j l;have g:=b i hi;have e:=vP a x own _ he i hi;rw[show (gd a x own own.length).getD i 0=((uh a x own i).getD (0,0)).1 by simp [gd,hi]];unfold uh at g e ⊢;cases k:iZ a (iS x i) (nx own i)with
    |none=>rw[k]at g;cases g
    |some v=>rw[k]at e;simp only[cx]at e ⊢;rw[<-e]
    exact re
section
variable {a:cQ} (ok:a.OK) (ws0:List Wd) (b:Nat)
def PY (ws:List Wd)(s:Wd):jx->List Wd
 | .inl _=>ws
 | .inr _=>br 32 s
def Br (x:cQ×List Wd)(s:Wd):cQ×List Wd:=(qN x.1 (iq x.1 s),PY x.2 s (iq x.1 s))
def nM (a:cQ)(ws0:List Wd)(l:List Wd)(k:Nat):cQ×List Wd:=(l.take k).foldl Br (a,ws0)
def iz (a:cQ)(l:List Wd)(k:Nat):Wd:=yh k (nx l k) (iq (nM a [] l k).1 (nx l k))
theorem abr (hk:k<l.length):nM a ws0 l (k+1)=Br (nM a ws0 l k) (nx l k):=by unfold nM;rw[dk,bP hk];simp
theorem UD (l:List Wd): ∀(x:cQ) (ws a:List Wd),(l.foldl Br (x,ws)).1=(l.foldl Br (x,a)).1:=by
 induction l with
 |nil=>intros;rfl
 |cons s l b=>intro x ws a;exact b _ _ _
theorem afi (l:List Wd)(k:Nat):(nM a ws0 l k).1=(nM a [] l k).1:=UD _ _ _ _
theorem SP {x:cQ}(h:x.OK)(s:Wd):(qN x (iq x s)).OK:=by
 have:=B5 h s;cases hc:iq x s with
 |inl e=>exact h
 |inr y=>rw[hc]at this;exact this.1
include ok in
theorem xg (l:List Wd): ∀k,(nM a ws0 l k).1.OK:=by
 have: ∀(l:List Wd) (x:cQ×List Wd),x.1.OK->(l.foldl Br x).1.OK:=by
  intro l;induction l with
  |nil=>exact λ_ h=>h
  |cons s l b=>exact λx h=>b _ (SP h s)
 exact λk=>this _ _ ok
theorem aaP (p q s t u:Wd):AV.v (.string (bm p.toArray++bm q.toArray++bm s.toArray++bm t.toArray++bm u.toArray))=bh (p++q++s++t++u):=by rw[jT,jT,jT,jT]
abbrev lnE (b a:Nat)(l:List Wd)(k:Nat)(x:Wd):List (Nat×AV):=[(0,.fn (.yield a) [] []),(4,.fn (.func 34) [.po b 0] []),(12,strs l),(13,I l.length),(14,I k),(5,I k),(9,bh x)]
include ok in
theorem Iq (hl:l.length<=1000000)(hs: ∀s∈l,s.length<=1000000)(U:Y->av)(o:Nat->Y->Prop)(A:Y)(w:o 0 A)(c:Nat)(lo:J->dp)(Z:Nat->J->Y->Prop)
  (hy: ∀k y,k<l.length->o k y->Gl an c [I k,bh (iz a l k)] ((c,lo .go)::(cU b (nM a ws0 l (k+1)).1 (strs (nM a ws0 l (k+1)).2)::U y)) (λr Ho=> ∃j z,(j= .go->o (k+1) z)/\(j≠.go->Z k j z)/\r=B j.on/\Ho=(c,lo j)::(cU b (nM a ws0 l (k+1)).1 (strs (nM a ws0 l (k+1)).2)::U z))):
  iM an 33 [.fn (.yield c) [] [],.pi [.po b 0],.pi [strs l]] ((c,lo .go)::(cU b a (strs ws0)::U A)) (λ_ Ho=> ∃j k z,((j= .go/\k=l.length/\o k z)\/(j≠.go/\0<k/\k<=l.length/\Z (k-1) j z))/\Ho=(c,lo j)::(cU b (nM a ws0 l k).1 (strs (nM a ws0 l k).2)::U z)):=by
 have K: ∀k,(nx l k).length<=1000000:=λk=>by by_cases hk:k<l.length;exact hs _ (dh hk);simp [nx,hk];exact c7 _
 refine bH S33.ok<|aJ zz<|aJ zz<|ay<|bJ (X:=Nat×Y) (λx=>x.1<=l.length/\o x.1 x.2) (λx=>el [(0,.fn (.yield c) [] []),(4,.fn (.func 34) [.po b 0] []),(12,strs l),(13,I l.length),(14,I x.1)]) (λx=>(c,lo .go)::(cU b (nM a ws0 l x.1).1 (strs (nM a ws0 l x.1).2)::U x.2)) (λ_=>[]) (λx=>l.length-x.1) (0,A) ⟨c7 _,w⟩ (au ⟨zz,zz,zz,by show I _=I _;rw[az],zz,zq⟩) ?_
 rintro⟨k,y⟩ ⟨hk,u⟩;simp only at hk u ⊢;refine aJ zz<|aa (aj zz (λhc=>?_) (λhc=>?_))
 ·simp only[nL]at hc;have d:=hy k y hc u;have p:=Uv (xg ok ws0 l k) (nM a ws0 l k).2 (nx l k) b;have g:=B5 (xg ok ws0 l k) (nx l k);have i:=abr (a:=a) ws0 hc;have L:=K k;have MR:Ev an 35 [I ((k:Int)+1)] (bh (fX (k+1))):=vK ((k:Int)+1) af af;rw[show iz a l k=yh k (nx l k) (iq (nM a ws0 l k).1 (nx l k))by unfold iz;rw[afi ws0]]at d;rw[i]at d;unfold Br at d i;refine ak (aa (ay (aa ?_)));refine kn [.cells [bh (nx l k)]] zz ⟨⟨af,by rw[cA];exact mR (f:=λs=>[bh s]) hc⟩,zq⟩<|aa (aA ?_)
  refine lY 2 zz zz<|aR (cM (e8 _ _ _))<|ah (cq (Hin:=[cU b (nM a ws0 l k).1 (strs (nM a ws0 l k).2)]) (H0:=(c,lo .go)::U y) zz (show Sr an (.func _) _ _ _ _ from p) zz zz (aW _) zz ?_)
  intro res Ho m;have key: ∃r e,res= .cG [bh r,I e]/\Ho=[cU b (qN (nM a ws0 l k).1 (iq (nM a ws0 l k).1 (nx l k))) (strs (PY (nM a ws0 l k).2 (nx l k) (iq (nM a ws0 l k).1 (nx l k))))]/\eb e/\r.length<=1000000/\
    yh k (nx l k) (iq (nM a ws0 l k).1 (nx l k))=if e=0 then fX (k+1)++[58,32]++nx l k++[32,62,32]++r else fX (k+1)++[58,32]++nx l k++[32,35,32]++fX e:=by
   unfold H8 at m
   cases hc:iq (nM a ws0 l k).1 (nx l k)with
   |inl e=>
    rw[hc]at m g
    exact⟨[],e,m.1,m.2,g.2,c7 _,by rw[zj g.1];rfl⟩
   |inr x=>
    rw[hc]at m g
    exact⟨x.2,0,m.1,m.2,pu,g.2,zz⟩
  obtain⟨r,e,rfl,rfl,he,M,v⟩:=key;rw[v]at d;have H:=he.1;have C:=he.2;have q:Ev an 35 [I e] (bh (fX e)):=vK e af af;have F:(fX (k+1)).length<=21:=bn ((k:Int)+1) af af;have G:(fX e).length<=21:=bn e af af;refine aR (cM (e8 _ _ _))<|gk zz<|iF [(0,.fn (.yield c) [] []),(4,.fn (.func 34) [.po b 0] []),(12,strs l),(13,I l.length),(14,I k),(5,I k),(6,bh (nx l k)),(7,bh r),(8,I e)]<|aa<|kn [.ret (bh (fX (k+1)))] zz (by(repeat' (with_reducible apply ad));(all_goals first|exact zk _|((first|exact MR|exact q|((simp only[cc,uZ,ap,bl]);omega)))))<|ag (au (l:=[(0,.fn (.yield c) [] []),(4,.fn (.func 34) [.po b 0] []),(12,strs l),(13,I l.length),(14,I k),(5,I k),(6,bh (nx l k)),(8,I e),(9,bh (fX (k+1)++[58,32]++nx l k++[32,62,32]++r))]) ⟨zz,zz,zz,zz,zz,zz,zz,zz,aaP _ _ _ _ _,zq⟩)<|aU.G2 (Y:=Unit) (λ_=>True) (λ_=>el (lnE b c l k (if e=0 then fX (k+1)++[58,32]++nx l k++[32,62,32]++r else fX (k+1)++[58,32]++nx l k++[32,35,32]++fX e)))
   (λ_=>(c,lo .go)::cU b (qN (nM a ws0 l k).1 (iq (nM a ws0 l k).1 (nx l k))) (strs (PY (nM a ws0 l k).2 (nx l k) (iq (nM a ws0 l k).1 (nx l k))))::U y) (λ_=>[]) (aa ?_) ?_
  ·refine cZ zz ?_;by_cases t:e=0;rw[zy t];refine aH zz (by subst t;rfl) ?_;exact⟨(),zq,au (l:=lnE b c l k _) ⟨zz,zz,zz,zz,zz,zz,zz,zq⟩⟩;rw[zj t];refine aC zz (by simpa using t)<|kn [.ret (bh (fX (k+1))),.ret (bh (fX e))] zz (by(repeat' (with_reducible apply ad));(all_goals first|exact zk _|((first|exact MR|exact q|((simp only[cc,uZ,ap,bl]);omega))))) ?_
   exact⟨(),zq,au (l:=lnE b c l k _) ⟨zz,zz,zz,zz,zz,zz,aaP _ _ _ _ _,zq⟩⟩
  intro _ _;generalize (if e=0 then fX (k+1)++[58,32]++nx l k++[32,62,32]++r else fX (k+1)++[58,32]++nx l k++[32,35,32]++fX e)=E at d;refine aa (aA ?_);refine lY 3 zz zz<|ah (cq (Hin:=(c,lo .go)::(cU b (qN (nM a ws0 l k).1 (iq (nM a ws0 l k).1 (nx l k))) (strs (PY (nM a ws0 l k).2 (nx l k) (iq (nM a ws0 l k).1 (nx l k))))::U y)) (H0:=[]) zz (show Sr an (.yield c) [] _ _ _ from⟨zz,d⟩) zz zz (aW _) (a8 _).symm ?_)
  rintro res Ho ⟨j,z,n,D,rfl,rfl⟩;rw[a8];refine gk zz ?_;cases j with
  |go=>have n:=n zz;refine aH zz zz ?_;refine show aU _ _ _ _ _ _ _ _ from ?_;refine fE zz bL ?_;exact⟨(k+1,z),⟨by simp only;omega,n⟩,by simp only;omega,ai (aw (by rw[i])) eL⟩
  |ret=>refine aC zz zz (ab ?_);refine⟨.inr zz,_,.cG [],_,zz,.many aG zq,⟨.ret,k+1,z,.inr ⟨aG,af,af,D aF⟩,by rw[i]⟩,b7 _⟩
  |exit id=>refine aC zz zz (ab ?_);refine⟨.inr zz,_,.cG [],_,zz,.many aG zq,⟨.exit id,k+1,z,.inr ⟨(λh=>nomatch h),af,af,D aF⟩,by rw[i]⟩,b7 _⟩
 simp only[nL]at hc;refine aE ?_;have e:k=l.length:=af;subst e;refine⟨.inl zz,_,.cG [],_,zz,.many aG zq,⟨.go,_,_,.inl ⟨zz,zz,u⟩,zz⟩,b7 _⟩
end
theorem Jt (b:Nat)(l:List Wd):Ev an 11 [.po b 0,strs l] (.fn (.func 33) [] [.pi [.po b 0],.pi [strs l]]):=by exact iG S11.ok [(5,[.fz 2,.fz 3])] []
theorem Dg (w:a.wf)(hl:l.length<=1000000)(h:dU a l=0):B7 an 10 [.agg a.ao,strs l] [] (λb=>.cG [.po b 0,I 0]) (λb=>[cU b a (strs [])]):=by refine(XJ w hl h).cell λb=>yq [] (show fK (.v (.slice none 0 0)) (strs [])from λS v h=>?_) a.ao;simp only[bf]at h ⊢;exact .inl ⟨⟨_,h⟩,zz⟩
abbrev tr (l:List Wd):List (List AV):=l.map λs=>[bh s]
def yS (l:List Wd)(m:Nat×Nat):Option (Nat×Nat):=match l with|[]=>none|_::_=>some m
theorem Pn {m:Nat×Nat}(h:yS l m=none):l=[]:=by cases l with|nil=>rfl|cons _ _=>cases h
theorem Yp (m:Nat×Nat)(h:l≠[]):yS l m=some m:=by cases l with|nil=>exact absurd zz h|cons _ _=>rfl
abbrev lnU (a:Nat)(y:List Wd×(Nat×Nat)):av:=(a,.cells 25 [Bw (yS y.1 y.2) y.1.length])::ze (yS y.1 y.2) 9 1 (tr y.1)
abbrev HQ:List AV:=let i:=I 0;let s:=AV.v (.slice none 0 0);[i,s,s,i,s,s,i,s,s,i,i,i,s,s,s,s,s,s,i,i,s,i,s,s,s,i]
def je (a:cQ)(l:List Wd)(k:Nat):List Wd:=(ec k).map (iz a l)
theorem R9 (a:cQ)(l:List Wd)(k:Nat):je a l (k+1)=je a l k++[iz a l k]:=by unfold je;rw[e5,cy];rfl
theorem str_inj {s:Wd}(h:bh s=bh t):s=t:=bD
theorem Mi (w:a.wf)(h:dU a l=0):Ev an 4 [.agg a.ao,strs l] (.cG [strs (je a l l.length),.agg (nM a [] l l.length).1.ao,I 0]):=by
 have hl:l.length<=14/\(cF a).2=0/\l.all dC=true:=by
  unfold dU at h;repeat' split at h
  all_goals first|contradiction|skip
  refine⟨af,af,by simp_all⟩
 obtain⟨hl,M,B⟩:=hl;have ok:a.OK:=rU w M;have hs: ∀s∈l,s.length<=1000000:=λs hm=>by have:=kg (cr.1 B s hm);omega
 have K:=Dg w af h;refine ar S4.ok<|fl<|fc [(4,[.fz 2,.sh]),(5,[.sh])] [] ?_;repeat' first|apply aN|apply aM|apply aL|apply ax|apply ad|(intro o;(try simp only[nL]at o);(try contradiction))
 all_goals try exact fi _
 rename_i c;revert o;intro b5;refine⟨?_⟩;refine fl<|fc [(13,[.b 0 K])] [] ?_;repeat' first|apply aN|apply aM|apply aL|apply ax|apply ad|(intro o;(try simp only[nL]at o);(try contradiction))
 all_goals try exact fi _
 revert o;intro b;refine⟨?_⟩;refine ag (ai (aw (H':=[cU b a (strs []),(c,.cells 25 [Bw none 0]),(b5,.cells 49 HQ)]) zz) (au (l:=[(1,strs l),(2,.pi a.ao),(4,.po c 0),(5,.po b5 0),(6,I 0),(7,.po b 0)]) lO))<|aa (aa ?_);refine cZ zz<|aH zz zz<|show aU _ _ _ _ _ _ _ _ from ?_;refine aa (aa ?_);refine kn [.ret (.fn (.func 33) [] [.pi [.po b 0],.pi [strs l]])] zz ⟨Jt b l,zq⟩<|ay<|aU.Cu (X:=(cQ×List Wd)×(List Wd×(Nat×Nat))) (HS:=λx=>cU b x.1.1 (strs x.1.2)::lnU c x.2) (H0:=[(b5,.cells 49 HQ)]) ((a,[]),([],(0,0)))
  (λj x=>j= .go/\x.1=nM a [] l l.length/\x.2.1=je a l l.length)
  (λx args=> ∃k,k<l.length/\x.1=nM a [] l (k+1)/\x.2.1=je a l k/\args=[I (k:Nat),bh (iz a l k)])
  (λx args j u=>j= .go/\u.1=x.1/\ ∀(k:Nat) v,args=[I k,bh v]->u.2.1=x.2.1++[v])
  (el [(4,.po c 0)]) zz zz (td cI zz) aG ?_ ?_ ?_
 rintro G ⟨st,q,m⟩ args ⟨k,hk,g,f,rfl⟩;simp only at g f ⊢;refine⟨zz,?_⟩;generalize iz a l k=v;refine cZ zz ?_;refine⟨zz,?_⟩;refine ag (ai (aw (H':=cU b st.1 (strs st.2)::(c,.cells 25 [Bw (yS q m) q.length])::ze (yS q m) 9 1 (tr q)) zz) (au (l:=[(4,.po c 0),(9,bh v)]) jA))<|ay (aA ?_);refine mO [.at 1] 1 zz zz cI<|aR (bO.Pg (t:=25) (H:=[cU b st.1 (strs st.2),(c,.cells 25 [Bw (yS q m) q.length])]) (es:=tr q) zz aF (λe=>by rw[show q=[]from Pn (m:=m) e];rfl)) ?_;have L:q.length<=14:=by rw[f];unfold je;simp;omega
 have J:(tr q).length=q.length:=az _;refine mO [.bY] 3 zz zz ⟨zz,⟨by show ((tr q).length+1)*16<=_;omega,by show (tr q).length+1<=_;omega⟩,zq⟩ ?_;have A:tr (q++[v])=tr q++[[bh v]]:=cy;refine aY.TV (t:=28) (es:=tr (q++[v])) (by rw[A];rfl) (λF C=>?_);have D: ∃d,F=some d:=by cases F with|none=>exact absurd (C zz) aF|some d=>exact⟨d,zz⟩
 obtain⟨d,rfl⟩:=D;refine ah (bz (i:=1) zz zz zz zz zz zz (by show 1<=1;decide) ?_);refine bF ⟨.go,(st,(q++[v],d)),zz,⟨zz,zz,λN O e=>?_⟩,?_⟩;simp only[e3,and_true]at e;rw[str_inj e.2];show (cU b st.1 (strs st.2)::lnU c (q++[v],d)).Sublist _;unfold lnU;rw[show yS (q++[v],d).1 (q++[v],d).2=some d from Yp _ aF];show List.Sublist _ ([cU b st.1 (strs st.2),(c,dp.cells _ [Bw (some d) (tr (q++[v])).length])]++ze (some d) 9 1 (tr (q++[v])));rw[az];exact b7 _
 intro G lo hy;refine(Iq ok [] b af hs (λy:List Wd×(Nat×Nat)=>lnU c y) (λk y=>y.1=je a l k) ([],(0,0)) zz G lo (λ_ _ _=>False) (λk y hk p=>(hy (nM a [] l (k+1),y) [I (k:Nat),bh (iz a l k)] ⟨k,hk,zz,p,zz⟩).mono ?_)).mono ?_;rintro r Ho ⟨j,u,⟨rfl,g,f⟩,rfl,rfl⟩;refine⟨.go,u.2,λ_=>?_,λh=>absurd zz h,zz,?_⟩;rw[f k _ zz,p,R9];rw[g];rintro r Ho ⟨j,k,z,(⟨rfl,rfl,p⟩|⟨_,_,_,h⟩),rfl⟩;exact⟨.go,(nM a [] l l.length,z),⟨zz,zz,p⟩,zz⟩;exact h.elim;rintro j ⟨st,q,m⟩ E ⟨rfl,g,f⟩;simp only at g f;subst g f;show aU _ _ _ _ _ _ _ _;generalize hx:nM a [] l l.length=x;generalize je a l l.length=q at*
 refine ag (ai (cM (H':=[(E,.ri),cU b x.1 (strs x.2),(b5,.cells 49 HQ)]++[(c,.cells 25 [Bw (yS q m) q.length])]++ze (yS q m) 9 1 (tr q)) (e7 _ (e7 _ (List.perm_append_singleton _ (_::_))))) (bO.OS (j:=3) (bo:=c) [] [] zz zz aF (λe=>by rw[show q=[]from Pn (m:=m) e];rfl)))<|ag (aw (H':=[(E,.ri),cU b x.1 (strs x.2),(b5,.cells 49 HQ),(c,.cells 25 [strs q])]) zz)<|aa (aU.WG (gs:=[]) (hs:=[.at 3,.at 1]) [4,29] 3 zx zz aX jA zz zz zz zz zz zz (b8 1) zz ?_);refine aY.hd (gs:=[]) (hs:=[.iL 2]) zz ⟨⟨zz,zz,zz,zz,b8 26⟩,zq⟩ ?_
 exact ab ⟨.inr zz,_,⟨0,zz,zz⟩,.many aG (show fp (jU an _ _) [.cell 4 25,.cell 5 49,.tmp 6] [strs q,.agg x.1.ao,I 0]from
  ⟨.dY (n:=none) (i:=2) (cs:=[strs q]) zz zz aX zz,.dY (n:=some 26) (i:=1) (cs:=x.1.ao) zz zz aX zz,.tmp zz zz,zq⟩)⟩
theorem jv: ∀(l:List Wd) (a:cQ) (i:Nat),(ee a i l).1.length=l.length/\(ee a i l).2=(nM a [] l l.length).1/\ ∀k,k<l.length->(ee a i l).1[k]? =some (yh (i+k) (nx l k) (iq (nM a [] l k).1 (nx l k)))
 |[],a,i=>⟨zz,zz,λk h=>absurd h (er k)⟩
 |s::l,a,i=>by
  obtain⟨b,c,d⟩:=jv l (qN a (iq a s)) (i+1);have e: ∀k,(nM a [] (s::l) (k+1)).1=(nM (qN a (iq a s)) [] l k).1:=λk=>UD (l.take k) _ _ _;refine⟨by simp only[ee,ap,b],?_,?_⟩;rw[ap,e,<-c];rfl;intro k hk;cases k with
  |zero=>rfl
  |succ k=>have:=d k (by simpa using hk);rw[e];simp only[ee,List.getElem?_cons_succ,this];rw[show i+1+k=i+(k+1)from af];rfl
theorem vl (a:cQ)(l:List Wd):je a l l.length=(ee a 0 l).1:=by obtain⟨b,_,c⟩:=jv l a 0;apply List.ext_getElem?;intro k;unfold je;by_cases hk:k<l.length;rw[c k hk,Nat.zero_add];rw[List.getElem?_map,List.getElem?_range hk];rfl;simp [hk,b]
theorem HV:fK (.v (.slice none 0 0)) (.sl k []):=λS v h=>by simp only[bf]at h ⊢;exact .inl ⟨⟨_,h⟩,zq⟩
theorem Hn (w:a.wf)(hl:l.length<=9223372036854775807)(h:dU a l≠0):Ev an 4 [.agg a.ao,strs l] (.cG [strs [],.agg kr.ao,I (dU a l)]):=by
 have d:=Kx w hl h;generalize dU a l=e at h d;refine ar S4.ok<|fl<|fc [(4,[.fz 2,.sh]),(5,[.sh])] [] ?_;repeat' first|apply aN|apply aM|apply aL|apply ax|apply ad|(intro b;(try simp only[nL]at b);(try contradiction))
 all_goals try exact fi _
 rename_i c;revert b;intro b5;refine⟨?_⟩;refine fl<|fc [(13,[.ev d])] [] ?_;repeat' first|apply aN|apply aM|apply aL|apply ax|apply ad|(intro b;(try simp only[nL]at b);(try contradiction))
 all_goals try exact fi _
 refine⟨?_⟩;refine ag (ai (aw (H':=[(c,.cells 25 [.v (.slice none 0 0)]),(b5,.cells 49 HQ)]) zz) (au (l:=[(4,.po c 0),(5,.po b5 0),(6,I e)]) ⟨zz,zz,zz,zq⟩))<|aa (aa ?_);refine cZ zz<|aC zz (by simpa using h)<|ag (cW (j:=0) [.nil] zz ⟨λS v h=>by simp only[bf]at h;subst h;simp only[bf],zq⟩)<|ag (aw (H':=[(c,.cells 25 [.nil]),(b5,.cells 49 HQ)]) zz)<|aa (aU.nj zx (wg.run (gs:=[]) (hs:=[.at 1]) zz cI (wg.cons (W:=[]) [4] ?_ zz zz (wg.cons (W:=[]) [5,18] ?_ zz zz (wg.run (gs:=[]) (hs:=[]) zz zq wg.nil)))) aX (bF ?_))
 exact bz (i:=0) zz zz zz zz zz zz (b8 1) ⟨zz,zz,zz⟩;exact bz (i:=1) zz zz zz zz zz zz (b8 26) ⟨zz,zz,zz⟩;refine show aU _ _ _ _ _ _ _ _ from ?_;refine ag (ai (cW (j:=0) [strs []] zz ⟨iP 1,zq⟩) (cW (j:=1) kr.ao zz ?_)) ?_
 ·repeat' first|exact bj _|exact HV|exact trivial|apply ad
 exact ab ⟨.inr zz,_,zz,.many aG (show fp (jU an _ _) [.cell 4 25,.cell 5 49,.tmp 6] [strs [],.agg kr.ao,I e]from
  ⟨.dY (n:=none) (i:=0) (cs:=[strs []]) zz zz aX zz,.dY (n:=some 26) (i:=1) (cs:=kr.ao) zz zz aX zz,.tmp zz zz,zq⟩)⟩
theorem C4 (w:a.wf)(hl:l.length<=9223372036854775807):Ev an 4 [.agg a.ao,strs l] (.cG [strs (mQ a l).1,.agg (mQ a l).2.1.ao,I (mQ a l).2.2]):=by grind [mQ,dU,vl,jv,Mi,Hn]
theorem adT (ok:a.OK)(c:List Wd){s:Wd}(b:Nat){e:Int}(h:iq a s= .inl e):B7 an 34 [.po b 0,bh s] [cU b a (strs c)] (λ_=>.cG [bh [],I e]) (λ_=>[cU b a (strs c)]):=
 (Uv ok c s b).mono λr Ho d=>by unfold H8 at d;rw[h]at d;exact⟨0,d.1,d.2⟩
theorem afe (ok:a.OK)(c:List Wd){s:Wd}(b:Nat){x:cQ×Wd}(h:iq a s= .inr x):B7 an 34 [.po b 0,bh s] [cU b a (strs c)] (λ_=>.cG [bh x.2,I 0]) (λ_=>[cU b x.1 (strs (br 32 s))]):=
 (Uv ok c s b).mono λr Ho d=>by unfold H8 at d;rw[h]at d;exact⟨0,d.1,d.2⟩
theorem zero_sub:fp fK HQ kr.ao:=by repeat' first|exact bj _|exact HV|exact trivial|apply ad
theorem SK (w:a.wf)(s:Wd):Ev an 20 [.agg a.ao,bh s] (.cG [.agg (Su a s).1.ao,bh (Su a s).2.1,I (Su a s).2.2]):=by
 unfold Su;refine ar S20.ok<|fl<|fc [(4,[.fz 2,.sh])] [] ?_;repeat' first|apply aN|apply aM|apply aL|apply ax|apply ad|(intro c;(try simp only[nL]at c);(try contradiction))
 all_goals try exact fi _
 revert c;intro d;refine⟨?_⟩;refine ag (ai (aw (H':=[(d,.cells 49 HQ)]) zz) (cW (j:=0) kr.ao zz zero_sub)) ?_;by_cases h:dU a []=0
 ·rw[zj af];have ok:a.OK:=rU w (by unfold dU at h;split at h<;>omega);refine fl<|fc [(10,[.b 0 (Dg w (l:=[]) aG h)])] [] ?_;repeat' first|apply aN|apply aM|apply aL|apply ax|apply ad|(intro c;(try simp only[nL]at c);(try contradiction))
  all_goals try first|exact fo _|exact⟨iP 1⟩|exact fi _
  revert c;intro b;refine⟨?_⟩;refine ag (ai (aw (H':=[cU b a (strs []),(d,.cells 49 kr.ao)]) zz) (au (l:=[(1,bh s),(4,.po d 0),(5,bh []),(6,I 0),(7,.po b 0)]) jt)) ?_;cases hc:iq a s with
  |inl e=>
   have he:=(B5 ok s);rw[hc]at he;refine fc [(20,[.b 0 (adT ok [] b hc)]),(15,[.i (.at 1)]),(25,[.i (.at 1)]),(10004,[.i (.iL 1)])] [] ?_;repeat' first|exact absurd (show e=0 from bB) he.1|apply aN|apply aM|apply aL|apply ax|apply ad|(intro c;(try simp only[nL]at c);(try contradiction))
   all_goals first|exact trivial|(refine O5.mk ?_;kernel_rfl)|exact .inr rfl|exact⟨_,rfl,.many aG ⟨.dY (n:=some 26) (i:=1) (cs:=kr.ao) rfl rfl aX rfl,.tmp rfl rfl,.tmp rfl rfl,trivial⟩⟩|exact⟨iP 1⟩|(refine Ob.mk ?_;exact pf _)
  |inr x=>
   refine fc [(20,[.b 0 (afe ok [] b hc)]),(15,[.i (.at 1)]),(30,[.i (.at 0)]),(10004,[.i (.iL 1)])] [] ?_;repeat' first|apply aN|apply aM|apply aL|apply ax|apply ad|(intro c;(try simp only[nL]at c);(try contradiction))
   all_goals first|exact trivial|(refine O5.mk ?_;kernel_rfl)|exact .inr rfl|exact⟨_,rfl,.many aG ⟨.dY (n:=some 26) (i:=1) (cs:=x.1.ao) rfl rfl aX rfl,.tmp rfl rfl,.tmp rfl rfl,trivial⟩⟩|exact⟨iP 1⟩|(refine Ob.mk ?_;exact pf _)
 rw[zy h];have f:=Kx w (l:=[]) aG h;generalize dU a []=e at h f;refine fc [(10,[.ev f]),(15,[.i (.at 0)]),(10004,[.i (.iL 0)])] [] ?_;repeat' first|exact absurd (show e=0 from bB) h|apply aN|apply aM|apply aL|apply ax|apply ad|(intro c;(try simp only[nL]at c);(try contradiction))
 all_goals first|exact trivial|(refine O5.mk ?_;kernel_rfl)|exact .inr rfl|exact⟨_,rfl,.many aG ⟨.dY (n:=some 26) (i:=0) (cs:=kr.ao) rfl rfl aX rfl,.tmp rfl rfl,.tmp rfl rfl,trivial⟩⟩|exact⟨iP 1⟩|(refine Ob.mk ?_;exact pf _)
def mY (c:Int):Wd:=[99,97,115,104,32]++fX c++[10]
def mq (l:List Wd):Wd:=l.flatMap λs=>s++[10]
def ON (c0 c1:Int)(l:List Wd):Wd:=mY c0++mq l++mY c1
theorem aay (p q s:Wd):AV.v (.string (bm p.toArray++bm q.toArray++bm s.toArray))=bh (p++q++s):=by rw[jT,jT]
theorem WX (h: ∀s∈l,s.length<=1001000):(mq l).length<=l.length*1001001:=by
 induction l with
 |nil=>simp [mq]
 |cons s l b=>have c:=h s aF;have d:=b λt a=>h t (by simp [a]);have e:mq (s::l)=s++[10]++mq l:=rfl;rw[e];simp only[bk,ap,bl,Nat.add_mul];omega
theorem ZA (hk:k<l.length):mq (l.take (k+1))=mq (l.take k)++(nx l k++[10]):=by unfold mq;rw[dk,bP hk];simp
theorem Kv {c:Int}(a: -9223372036854775808<=c)(b:c<=9223372036854775807):(mY c).length<=27:=by have:=bn c a b;unfold mY fX;simp only[bk,ap,bl];omega
theorem OA (c0 c1:Int)(l:List Wd)(d: -9223372036854775808<=c0/\c0<=9223372036854775807)(e: -9223372036854775808<=c1/\c1<=9223372036854775807)(hl:l.length<=100)(hs: ∀s∈l,s.length<=1001000):
  Ev an 45 [I c0,I c1,strs l] (bh (ON c0 c1 l)):=by
 have uT:Ev an 35 [I c0] (bh (fX c0)):=vK c0 d.1 d.2;have MR:Ev an 35 [I c1] (bh (fX c1)):=vK c1 e.1 e.2;have z:(fX c0).length<=21:=bn c0 d.1 d.2;have A:(fX c1).length<=21:=bn c1 e.1 e.2;have w:=Kv d.1 d.2;have y:=Kv e.1 e.2;have q: ∀k,(mq (l.take k)).length<=100100100:=λk=>by
  have p:=WX (l:=l.take k) (λs hm=>hs s (ey hm));have r:(l.take k).length<=100:=by rw[ea];omega
  generalize (l.take k).length=n at r p;generalize (mq (l.take k)).length=m at p;omega
 refine ar S45.ok<|aJ zz<|bE [.aT] zz cI<|bW (t:=7) zz λb=>ag (ai (cW (j:=0) [.v (.pointer none),.nil] zz ⟨bj _,λS v h=>by simp only[bf]at h;subst h;simp only[bf],zq⟩) (ai (aw (H':=xP b (.v (.pointer none)) none []) zz) (au (l:=[(0,I c0),(1,I c1),(2,strs l),(7,.po b 0)]) ⟨zz,zz,zz,zz,zq⟩)))<|aa (aA ?_)
 refine mO [.ret (bh (fX c0))] 4 zz zz (by(repeat' (with_reducible apply ad));(all_goals first|exact zk _|((first|exact uT|((simp only[cc,uZ,ap,bl]);omega)))))<|aR (au (l:=[(0,I c0),(1,I c1),(2,strs l),(7,.po b 0),(13,bh (mY c0))]) ⟨zz,zz,zz,zz,aay _ _ _,zq⟩)<|ah (cC (Hin:=xP b (.v (.pointer none)) none []) (H0:=[]) (pJ b (.v (.pointer none)) none [] (mY c0) (.inl zz) zz (by simp [mY]) (by simp only[bl];omega)) zz zz (aW _) (a8 _).symm ?_)
 rintro D Ho ⟨o,a,rfl⟩;rw[a8,en]at*
 refine bF<|show aU _ _ _ _ _ _ _ _ from ?_
 refine iF [(1,I c1),(2,strs l),(7,.po b 0)]<|aa (aa ?_)
 refine cZ zz<|aU.iN (Y:=Option (Nat×Nat)) (λo=>wG o (mY c0++mq l)) (λ_=>el [(1,I c1),(7,.po b 0)]) (λo=>xP b (.po b 0) o (mY c0++mq l)) (λ_=>[]) ?_ ?_
 ·refine bJ (X:=Nat×Option (Nat×Nat)) (λx=>x.1<=l.length/\wG x.2 (mY c0++mq (l.take x.1))) (λx=>el [(1,I c1),(7,.po b 0),(15,strs l),(16,I l.length),(17,I x.1)]) (λx=>xP b (.po b 0) x.2 (mY c0++mq (l.take x.1))) (λ_=>[]) (λx=>l.length-x.1) (0,o)
   ⟨c7 _,by simpa [mq]using a⟩ (ai (aw (by simp [mq])) (au ⟨zz,zz,zz,by show I _=I _;rw[az],zz,zq⟩)) ?_
  rintro⟨k,o⟩ ⟨hk,a⟩;simp only at hk a ⊢;refine aJ zz ?_;refine aa (aj zz (λhc=>?_) (λhc=>?_))
  ·simp only[nL]at hc;have B:=hs _ (dh hc);have u:=q k;refine ak (aa (ay (aa ?_)));refine kn [.cells [bh (nx l k)]] zz ⟨⟨af,by rw[cA];exact mR (f:=λs=>[bh s]) hc⟩,zq⟩ ?_;refine aA ?_;refine Rz 2 zz zz (by(and_intros);(all_goals first|exact zk _|(((simp only[uZ,ap,bl]);omega)))) ?_;refine aR (au (l:=[(1,I c1),(7,.po b 0),(15,strs l),(16,I l.length),(17,I k),(22,bh (nx l k++[10]))]) ⟨zz,zz,zz,zz,zz,agi _ _,zq⟩) ?_;refine ah (cC (Hin:=xP b (.po b 0) o (mY c0++mq (l.take k))) (H0:=[]) (pJ b (.po b 0) o _ (nx l k++[10]) (.inr zz) a aF (by simp only[bk,ap,bl];omega)) zz zz (aW _) (a8 _).symm ?_);rintro C Ho ⟨g,c,rfl⟩;rw[a8];refine bF ?_;rw[List.append_assoc,<-ZA hc]at*
   refine show aU _ _ _ _ _ _ _ _ from ?_;refine fE zz bL ?_;exact⟨(k+1,g),⟨by simp only;omega,c⟩,by simp only;omega,eL⟩
  simp only[nL]at hc;rw[ej af]at*
  refine aE ?_;exact⟨o,a,eL⟩
 intro o a;have i:=q l.length;rw[List.take_length]at i;refine aa (aA ?_);refine mO [.ret (bh (fX c1))] 4 zz zz (by(repeat' (with_reducible apply ad));(all_goals first|exact zk _|((first|exact MR|((simp only[cc,uZ,ap,bl]);omega))))) ?_;refine aR (au (l:=[(7,.po b 0),(28,bh (mY c1))]) ⟨zz,aay _ _ _,zq⟩) ?_;refine ah (cC (Hin:=xP b (.po b 0) o (mY c0++mq l)) (H0:=[]) (pJ b (.po b 0) o _ (mY c1) (.inr zz) a (by simp [mY]) (by simp only[bk];omega)) zz zz (aW _) (a8 _).symm ?_);rintro C Ho ⟨g,c,rfl⟩;rw[a8];refine bF ?_;refine show aU _ _ _ _ _ _ _ _ from ?_;refine aa (aA ?_);refine ah (cC (Hin:=xP b (.po b 0) g (mY c0++mq l++mY c1)) (H0:=[]) (Ll b (.po b 0) g _ c (by simp only[bk];omega)) zz zz (aW _) (a8 _).symm ?_);rintro E Ho ⟨rfl,rfl⟩;refine gk zz ?_;refine ab (aD ?_);rfl
theorem V2 (a:cQ)(s:Wd):a.ch.co.length<=(qN a (iq a s)).ch.co.length:=by
 have key: ∀(ws:List Wd) (n:List Int) (id:Nat),a.ch.co.length<=(qN a (Bj a ws n id)).ch.co.length:=by
  intro ws n id;unfold Bj;split;all_goals first|unfold FC|unfold FQ|unfold vQ|unfold P1|unfold Jx|unfold Gk|unfold sj|unfold zO|unfold mn|unfold Fg|unfold Q9|unfold uC|unfold wQ|unfold pR
  all_goals try unfold lP
  all_goals try unfold uC
  all_goals try dsimp only
  all_goals (repeat' split)
  all_goals first|exact b8 _|(simp [qN];done)|skip
 unfold iq;split;exact b8 _;dsimp only;split;exact b8 _;split;exact b8 _;split;exact b8 _;exact key _ _ _
theorem adb (l:List Wd): ∀(x:cQ×List Wd),x.1.ch.co.length<=(l.foldl Br x).1.ch.co.length:=by
 induction l with
 |nil=>exact λ_=>b8 _
 |cons s l a=>exact λx=>Nat.le_trans (V2 x.1 s) (a (Br x s))
theorem Nk (x:pC):Ev an 43 [.agg x.ao] (I x.nu):=by exact iG S43.ok [(2,[.fz 1])] []
theorem abd (l:List pC)(g:Nat)(a:List AV)(f:pC->Int)(c:l.length<=1000000)(h: ∀x∈l,Ev an g (.agg x.ao::a) (I (f x))):Ev an 42 [lQ l,.fn (.func g) [] a] (.aT 3 1 ((l.map f).map λx=>[I x])):=by
 refine di S42.ok (kh []) (lh [(0,{n:=l.length,E:=λk=>[(1,.fn (.func g) [] a),(4,.aT 3 1 ((l.take k).map λx=>[I (f x)])),(7,lQ l),(8,I l.length),(9,I k)],I:=λk=>True,K:=λk=>[(11,[.i (.cells (nx l k).ao)]),(16,[.i (.ret (I (f (nx l k))))])]})]) ?_;repeat' first|apply aN|apply aM|apply aL|apply ax|apply ad|(intro b;(try simp only[nL]at b);(try contradiction))
 all_goals try exact fi _
 exact⟨h _ (dh b)⟩;exact⟨zz,zz,by rw[Ek b,fe];rfl⟩
theorem agh {l m:List pC}:fK (.sl 4 (kI (l.map pC.ao) (some ((m.map pC.ao).length:Int).toNat) none)) (lQ (l.drop m.length)):=by
 have e:kI (l.map pC.ao) (some ((m.map pC.ao).length:Int).toNat) none=(l.drop m.length).map pC.ao:=by simp [kI,e9]
 rw[e];exact bj _
def B1 (a:cQ)(l:List Wd):List Int×Int:=if dU a l≠0 then([],dU a l)else(((ee a 0 l).2.ch.co.drop a.ch.co.length).map (·.nu),0)
theorem Sa (w:a.wf)(hl:l.length<=1000000):Ev an 16 [.agg a.ao,strs l] (.cG [ints (B1 a l).1,I (B1 a l).2]):=by
 unfold B1;by_cases h:dU a l=0
 ·rw[zj af,(jv l a 0).2.1];have hd:=Mi w h;have hx:a.ch.co.length<=(nM a [] l l.length).1.ch.co.length:=adb (l.take l.length) (a,[]);have c:(nM a [] l l.length).1.ch.co.length<=1000000:=by have ok:a.OK:=rU w (by unfold dU at h;split at h<;>omega);have:=(xg ok [] l l.length).ch.c6;omega
  generalize (nM a [] l l.length).1=x at hd hx c;generalize je a l l.length=ls at hd;have hc:=abd (x.ch.co.drop a.ch.co.length) 43 [] (·.nu) (by rw[ds];omega) (λy _=>Nk y);refine di S16.ok (kh [(4,[.fz 2]),(12,[.ev hd]),(19,[.fz 7]),(27,[.ev hc])]) (lh []) ?_;repeat' first|apply aN|apply aM|apply aL|apply ax|apply ad|(intro b;(try simp only[nL]at b);(try contradiction))
  all_goals try first|exact fo _|exact⟨agh⟩|exact fi _
  done
 ·rw[zy h];have hd:=Hn w af h;generalize dU a l=e at h hd;refine di S16.ok (kh [(4,[.fz 2]),(12,[.ev hd])]) (lh []) ?_;repeat' first|exact absurd (show e=0 from bB) h|apply aN|apply aM|apply aL|apply ax|apply ad|(intro b;(try simp only[nL]at b);(try contradiction))
  all_goals try exact fi _
  done
theorem DB (ok:a.OK)(hl:l.length<=1000)(hs: ∀s∈l,s.length<=70){s:Wd}(h:s∈je a l l.length):s.length<=1001000:=by
 obtain⟨k,hk,rfl⟩:=cB.1 h;have hk:=de.1 hk;have c:=hs _ (dh hk);have d:(fX (k+1)).length<=21:=bn ((k:Int)+1) af af;have b:=B5 (xg ok [] l k) (nx l k);unfold iz yh;cases hc:iq (nM a [] l k).1 (nx l k)with
 |inl e=>rw[hc]at b;have h4:(fX e).length<=21:=bn e (by have:=b.2.1;omega) (by have:=b.2.2;omega);simp only[bk,ap,bl];omega
 |inr x=>rw[hc]at b;have h4:x.2.length<=1000000:=b.2;simp only[bk,ap,bl];omega
def PW (a:cQ)(l:List Wd):Wd×Int:=if dU a l≠0 then([],dU a l)else(ON a.ca (ee a 0 l).2.ca (ee a 0 l).1,0)
theorem Dw (h:dU a l=0):l.length<=14/\(cF a).2=0/\ ∀s∈l,s.length<=70:=by grind [dU,dC,only]
theorem ZC (w:a.wf)(hl:l.length<=1000000):Ev an 18 [.agg a.ao,strs l] (.cG [bh (PW a l).1,I (PW a l).2]):=by
 unfold PW;by_cases h:dU a l=0;rw[zj af,(jv l a 0).2.1,<-vl];obtain⟨j,f,g⟩:=Dw h;have ok:a.OK:=rU w f;have hd:=Mi w h;have b:=xg ok [] l l.length;have d:(je a l l.length).length<=100:=by unfold je;simp;omega
 have c:=OA a.ca (nM a [] l l.length).1.ca (je a l l.length) ⟨w.ca0,w.ca1⟩ ⟨b.w.ca0,b.w.ca1⟩ d (λs hs=>DB ok af g hs);generalize (nM a [] l l.length).1=x at hd c;generalize je a l l.length=ls at hd c;exact iG S18.ok [(4,[.fz 2]),(12,[.ev hd]),(19,[.fz 7]),(24,[.ev c])] []
 rw[zy h];have hd:=Hn w af h;generalize dU a l=e at h hd;refine di S18.ok (kh [(4,[.fz 2]),(12,[.ev hd])]) (lh []) ?_;repeat' first|exact absurd (show e=0 from bB) h|apply aN|apply aM|apply aL|apply ax|apply ad|(intro i;(try simp only[nL]at i);(try contradiction))
 all_goals try exact fi _
section
def uN (text:Wd):List Wd:=((br 10 text).take ((br 10 text).length-2)).drop 1
theorem aen {s:Wd}(h:(bm s.toArray).toList=(bm t.toArray).toList):s=t:=by simpa using h
theorem aaQ {s:Wd}(h:s=t):(bm s.toArray).toList=(bm t.toArray).toList:=by rw[h]
abbrev Ld (s:Wd):Int:=((bm s.toArray).size:Int)
theorem abk {text:Wd}(a: ¬((br 10 text).length:Int)<3):((0:Int)<=1/\0<=((br 10 text).length:Int)-2)/\(some (1:Int).toNat).getD 0<=(some (((br 10 text).length:Int)-2).toNat).getD ((br 10 text).map λs=>[bh s]).length/\(some (((br 10 text).length:Int)-2).toNat).getD ((br 10 text).map λs=>[bh s]).length<=((br 10 text).map λs=>[bh s]).length:=bD
theorem Zb {text:Wd}:fK (.sl 1 (kI ((br 10 text).map λs=>[bh s]) (some (1:Int).toNat) (some (((br 10 text).length:Int)-2).toNat))) (strs (uN text)):=by
 have e:kI ((br 10 text).map λs=>[bh s]) (some (1:Int).toNat) (some (((br 10 text).length:Int)-2).toNat)=(uN text).map λs=>[bh s]:=by have:(((br 10 text).length:Int)-2).toNat=(br 10 text).length-2:=af;rw[this];simp [kI,uN,e9,List.map_take]
 rw[e];exact bj _
theorem UQ {text:Wd}:fK (.sl 1 (kI ((br 10 text).map λs=>[bh s]) (some (1:Int).toNat) (some ((((br 10 text).map λs=>[bh s]).length:Int)-2).toNat))) (strs (uN text)):=by rw[az];exact Zb
theorem ab3 {text:Wd}(a: ¬3000<Ld text): -9223372036854775808<=((((br 10 text).map λs=>[bh s]).length:Int)-2)/\((((br 10 text).map λs=>[bh s]).length:Int)-2)<=9223372036854775807:=by have h:=gL (c:=10) text;have e:Ld text=(text.length:Int):=rfl;rw[az];omega
theorem Xy {text:Wd}(a: ¬((br 10 text).length:Int)<3):((0:Int)<=1/\0<=(((br 10 text).map λs=>[bh s]).length:Int)-2)/\(some (1:Int).toNat).getD 0<=(some ((((br 10 text).map λs=>[bh s]).length:Int)-2).toNat).getD ((br 10 text).map λs=>[bh s]).length/\(some ((((br 10 text).map λs=>[bh s]).length:Int)-2).toNat).getD ((br 10 text).map λs=>[bh s]).length<=((br 10 text).map λs=>[bh s]).length:=by have:=abk a;rw[az]at this ⊢;exact this
variable {a:cQ} (w:a.wf) {text:Wd} (h:dU a []=0)
include w h
theorem XK (e: ¬3000<Ld text)(f: ¬((br 10 text).length:Int)<3){d:List Wd}(hd:Ev an 44 [strs (uN text)] (.cG [strs d,B true])){ls:List Wd}(hy:Ev an 4 [.agg a.ao,strs d] (.cG [strs ls,.agg y.ao,I 0])){g:Wd}(m:Ev an 45 [I a.ca,I y.ca,strs ls] (bh g))(k:g=text):Ev an 19 [.agg a.ao,bh text] (.cG [strs d,.agg y.ao,I 0]):=by
 have o:Ld text=(text.length:Int):=rfl;have hs:=nO text 10 af;refine ar S19.ok<|fl<|fc [(5,[.fz 2,.sh])] [] ?_;repeat' first|apply aN|apply aM|apply aL|apply ax|apply ad|(intro c;(try simp only[nL]at c);(try contradiction))
 all_goals try exact fi _
 revert c;intro b5;refine⟨?_⟩;refine ag (ai (aw (H':=[(b5,.cells 49 HQ)]) zz) (cW (j:=0) kr.ao zz zero_sub))<|fl<|fc [(13,[.b 0 (Dg w (l:=[]) aG h)])] [] ?_;repeat' first|apply aN|apply aM|apply aL|apply ax|apply ad|(intro c;(try simp only[nL]at c);(try contradiction))
 all_goals try first|exact fo _|exact⟨iP 1⟩|exact fi _
 rename_i b;refine⟨?_⟩;refine ag (ai (aw (H':=[cU b a (strs []),(b5,.cells 49 kr.ao)]) zz) (au (l:=[(1,bh text),(2,.pi a.ao),(4,.nil),(5,.po b5 0),(6,I 0)]) jt))<|fc [(25,[.ev hs]),(36,[.ev hd]),(45,[.ev hy]),(52,[.fz 10]),(57,[.ev m]),(10005,[.i (.iL 1)])] [] ?_;repeat' first|exact absurd (show 3000<Ld text from bB) e|exact absurd (show ((br 10 text).length:Int)<3 from bB) f|exact absurd (aaQ k) bB|apply aN|apply aM|apply aL|apply ax|apply ad|(intro c;(try simp only[nL]at c);(try contradiction))
 all_goals try first|exact fo _|exact .inr rfl|exact⟨_,rfl,.many aG ⟨.tmp rfl rfl,.dY (n:=some 26) (i:=1) (cs:=y.ao) rfl rfl aX rfl,.tmp rfl rfl,trivial⟩⟩|exact⟨Xy f⟩|exact⟨UQ⟩|exact⟨ab3 e⟩|exact fi _
 done
end
def tU (a:cQ)(text:Wd):List Wd×cQ×Int:=
 if dU a []≠0 then([],kr,dU a [])else if 3000<text.length then([],kr,3)else if (br 10 text).length<3 then([],kr,6)else
 if (si (uN text)).2=false then([],kr,6)else
 if (mQ a (si (uN text)).1).2.2≠0 then([],kr,6)else
 if ON a.ca (mQ a (si (uN text)).1).2.1.ca (mQ a (si (uN text)).1).1≠text then([],kr,6)else((si (uN text)).1,(mQ a (si (uN text)).1).2.1,0)
theorem vD {p:UInt8->Bool}{c:UInt8}: ∀{s:Wd} {v:Wd},s.all p=true->v∈br c s->v.all p=true
 |[],v,_,h=>by simp [br]at h;subst h;rfl
 |x::l,v,hs,h=>by
  simp only[List.all_cons,Bool.and_eq_true]at hs;unfold br at h;split at h;rcases List.mem_cons.1 h with rfl|h;rfl;exact vD hs.2 h
  split at h;simp only[List.mem_singleton]at h;subst h;simp [hs.1];rename_i u a e;rcases List.mem_cons.1 h with rfl|h
  simp only[List.all_cons,hs.1,Bool.true_and];exact vD hs.2 (c:=c) (by rw[e];simp);exact vD hs.2 (c:=c) (by rw[e];simp [h])
theorem Oa {text s:Wd}(h:s∈uN text):s∈br 10 text:=ey (List.mem_of_mem_drop h)
theorem Ev.aem {P:Program}{f:FuncId}{args:List AV}{q:AV}(h:Ev P f args p)(hs:fK p q)(m:p.bT=false)(n:q.bT=false):Ev P f args q:=by refine⟨h.1,λS w r i j a=>(h.2 S w r i j a).mono ?_⟩;rintro e w' ⟨v,l,g,rfl,k,c,d,b,o⟩;exact⟨v,l,none,zz,k,c,d,b,cH.gW n (hs _ _ (o.sA m).2)⟩
theorem X0 (w:a.wf){text:Wd}(hA:text.all (λb=>decide (b.toNat<128))=true)(d:tU a text=(l,y,0)):Ev an 19 [.agg a.ao,bh text] (.cG [strs l,.agg y.ao,I 0]):=by
 have r:Ld text=(text.length:Int):=rfl;unfold tU at d;split at d;rename_i h;exact absurd (congrArg (·.2.2) d) h;rename_i h;split at d;cases d;split at d;cases d;split at d;cases d;rename_i n o h4;split at d;cases d;rename_i g;split at d;cases d;rename_i j;have hd:=Ox (uN text) (by
  have:=gL (c:=10) text
  unfold uN
  rw[ds,ea];omega) (λs hs=>⟨by have:=gY (Oa hs);omega,vD hA (Oa hs)⟩)
 rw[eT]at h4;rw[h4]at hd;have k:(si (uN text)).1.length<=1000000:=by have:=gL (c:=10) text;unfold si;split;rw[az];unfold uN;rw[ds,ea];omega;exact c7 _
 generalize (si (uN text)).1=f at hd k g j d;have hy:=C4 w (l:=f) af;have g:=b3.1 g;rw[g]at hy;have q:dU a f=0:=by unfold mQ at g;split at g;exact g;rename_i j;omega
 have p:Ev an 45 [I a.ca,I (mQ a f).2.1.ca,strs (mQ a f).1] (bh (ON a.ca (mQ a f).2.1.ca (mQ a f).1)):=by unfold mQ;rw[zj af,(jv f a 0).2.1,<-vl];obtain⟨t,n,o⟩:=Dw q;have ok:a.OK:=rU w n;have i:=xg ok [] f f.length;exact OA a.ca (nM a [] f f.length).1.ca (je a f f.length) ⟨w.ca0,w.ca1⟩ ⟨i.w.ca0,i.w.ca1⟩ (by unfold je;simp;omega) (λs hs=>DB ok af o hs)
 have e:=congrArg (·.1) d;have m:=congrArg (·.2.1) d;simp only at e m;subst e m;exact XK w (b3.1 h) af af hd hy p (b3.1 j)
abbrev prH (a b5 b:Nat)(i:Int)(s:Wd)(e:Int):av:=[(a,.cells 3 [I i]),(b5,.cells 9 [bh s]),(b,.cells 50 [I e])]
theorem ZX (w:a.wf)(h:dU a []=0)(F: ¬14<(l.length:Int)){c:List Wd}(hd:Ev an 44 [strs l] (.cG [strs c,B true]))(L:c.length=l.length)(h4:dU a c=0)
  (hi:(i,t)=match (ec c.length).find? (λk=>iz a c k !=nx l k)with|some k=>((k:Int),iz a c k)|none=>(-1,[])):
  Ev an 17 [.agg a.ao,strs l] (.cG [I i,bh t,I 0]):=by
 refine ar S17.ok<|fl<|fc [(4,[.fz 2,.fz 3,.sh]),(5,[.sh]),(6,[.sh])] [] ?_
 repeat' first|apply aN|apply aM|apply aL|apply ax|apply ad|(intro g;(try simp only[nL]at g);(try contradiction))
 all_goals try exact fi _
 rename_i m b5;revert g;intro o;refine⟨?_⟩;refine fl<|fc [(14,[.b 0 (Dg w (l:=[]) aG h)]),(10006,[.i (.iL 3)]),(17,[.i (.at 3)])] [] ?_
 repeat' first|apply aN|apply aM|apply aL|apply ax|apply ad|(intro g;(try simp only[nL]at g);(try contradiction))
 all_goals try first|exact fo _|exact⟨iP 1⟩|exact fi _
 rename_i O;refine⟨?_⟩;refine ag (ai (aw (H':=cU O a (strs [])::prH m b5 o 0 [] 0) zz) (ai (dW (List.sublist_cons_self _ _)) (au (l:=[(2,.pi a.ao),(3,.pi [strs l]),(4,.po m 0),(5,.po b5 0),(6,.po o 0)]) jt)))<|fl<|fc [] [] ?_
 repeat' first|exact absurd (show 14<(l.length:Int)from bB) F|apply aN|apply aM|apply aL|apply ax|apply ad|(intro g;(try simp only[nL]at g);(try contradiction))
 all_goals try exact fi _
 refine⟨?_⟩;refine fl<|fc [(25,[.ev hd])] [] ?_
 repeat' first|apply aN|apply aM|apply aL|apply ax|apply ad|(intro g;(try simp only[nL]at g);(try contradiction))
 all_goals try exact fi _
 refine⟨?_⟩;refine fl<|fc [] [] ?_
 repeat' first|apply aN|apply aM|apply aL|apply ax|apply ad|(intro g;(try simp only[nL]at g);(try contradiction))
 all_goals try exact fi _
 refine⟨?_⟩;refine ag (ai (aw (H':=prH m b5 o 0 [] 0) zz) (au (l:=[(2,.pi a.ao),(3,.pi [strs l]),(4,.po m 0),(5,.po b5 0),(6,.po o 0),(7,strs c)]) lO))<|fl<|fc [(33,[.b 0 (Dg w (l:=c) af h4)]),(10006,[.i (.iL 3)])] [] ?_
 repeat' first|apply aN|apply aM|apply aL|apply ax|apply ad|(intro g;(try simp only[nL]at g);(try contradiction))
 all_goals try exact fi _
 revert g;intro b;refine⟨?_⟩;refine ag (ai (aw (H':=cU b a (strs [])::prH m b5 o 0 [] 0) zz) (au (l:=[(3,.pi [strs l]),(4,.po m 0),(5,.po b5 0),(6,.po o 0),(7,strs c),(9,.po b 0)]) lO))<|fl<|fc [(36,[.i (.at 3)])] [] ?_
 repeat' first|apply aN|apply aM|apply aL|apply ax|apply ad|(intro g;(try simp only[nL]at g);(try contradiction))
 all_goals try exact fi _
 refine⟨?_⟩;obtain⟨M,R,K⟩:=Dw h4;have ok:a.OK:=rU w R;have hs: ∀s∈c,s.length<=1000000:=λs hm=>by have:=K s hm;omega
 refine aa (aa ?_);refine kn [.ret (.fn (.func 33) [] [.pi [.po b 0],.pi [strs c]])] zz ⟨Jt b c,zq⟩<|ay<|ag (ai (aw (H':=cU b a (strs [])::prH m b5 o 0 [] 0) zz) (au (l:=[(3,.pi [strs l]),(4,.po m 0),(5,.po b5 0),(6,.po o 0),(41,.fn (.func 33) [] [.pi [.po b 0],.pi [strs c]])]) ⟨zz,zz,zz,zz,zz,zq⟩))<|aU.Cu (X:=(cQ×List Wd)×(Int×Wd)) (HS:=λx=>cU b x.1.1 (strs x.1.2)::prH m b5 o x.2.1 x.2.2 0) (H0:=[]) ((a,[]),(0,[]))
  (λj x=>(j= .go/\x.2=(0,[])/\ ∀k,k<c.length->iz a c k=nx l k)\/(j= .ret/\ ∃k,k<c.length/\iz a c k≠nx l k/\x.2=((k:Int),iz a c k)/\ ∀d,d<k->iz a c d=nx l d))
  (λx args=> ∃k,k<c.length/\x.1=nM a [] c (k+1)/\x.2=(0,[])/\args=[I (k:Nat),bh (iz a c k)])
  (λx args j E=>E.1=x.1/\ ∀(k:Nat) v,args=[I k,bh v]->(j= .go/\v=nx l k/\E.2=x.2)\/(j= .ret/\v≠nx l k/\E.2=((k:Int),v)))
  (el [(3,.pi [strs l]),(4,.po m 0),(5,.po b5 0),(6,.po o 0)]) zz (a8 _).symm (td ⟨zz,zz,zz,zz,zq⟩ zz) aG ?_ ?_ ?_
 ·rintro N ⟨st,q⟩ args ⟨k,hk,H,F,rfl⟩;simp only at H F;subst F;refine⟨zz,?_⟩;generalize iz a c k=v;refine aJ zz<|cZ zz ?_;refine⟨zz,?_⟩;refine ag (ai (aw (H':=cU b st.1 (strs st.2)::prH m b5 o 0 [] 0) zz) (au (l:=[(3,.pi [strs l]),(4,.po m 0),(5,.po b5 0),(6,.po o 0),(10,I k),(11,bh v)]) lO)) ?_;have A: ∀(d:Nat) D,[I (k:Nat),bh v]=[I (d:Nat),bh D]->d=k/\D=v:=λd D e=>by simp only[e3,and_true]at e;refine⟨?_,(str_inj e.2).symm⟩;have:=e.1;simp only[AV.v.injEq,fk,true_and,Int.natCast_inj]at this;exact this.symm
  by_cases p:v=nx l k
  ·refine fc [(47,[.i (.cells [bh (nx l k)])])] [] ?_;repeat' first|exact absurd (aaQ p) bB|apply aN|apply aM|apply aL|apply ax|apply ad|(intro g;(try simp only[nL]at g);(try contradiction))
   exact⟨af,by rw[cA];exact mR (f:=λs=>[bh s]) af⟩;show ∃(j:J) (E:(cQ×List Wd)×(Int×Wd)),_;refine⟨.go,(st,(0,[])),zz,⟨zz,λd D e=>.inl ⟨zz,?_,zz⟩⟩,b7 _⟩;obtain⟨rfl,rfl⟩:=A d D e;exact p
  refine fc [(47,[.i (.cells [bh (nx l k)])]),(10004,[.i (.iL 1)]),(10005,[.i (.iL 2)]),(10006,[.i (.iL 3)])] [] ?_;repeat' first|exact absurd (aen (s:=v) (t:=nx l k) bB) p|apply aN|apply aM|apply aL|apply ax|apply ad|(intro g;(try simp only[nL]at g);(try contradiction))
  all_goals try first|exact fo _|exact⟨af,by rw[cA];exact mR (f:=λs=>[bh s]) af⟩|exact fi _
  show ∃(j:J) (E:(cQ×List Wd)×(Int×Wd)),_;refine⟨.ret,(st,((k:Int),v)),zz,⟨zz,λd D e=>.inr ⟨zz,?_,?_⟩⟩,b7 _⟩;obtain⟨rfl,rfl⟩:=A d D e;exact p;obtain⟨rfl,rfl⟩:=A d D e;rfl
 intro N lo hy;refine(Iq ok [] b af hs (λy:Int×Wd=>prH m b5 o y.1 y.2 0) (λk y=>y=(0,[])/\ ∀d,d<k->iz a c d=nx l d) (0,[]) ⟨zz,λk hk=>absurd hk (er k)⟩ N lo (λk j y=>j= .ret/\iz a c k≠nx l k/\y=((k:Int),iz a c k)/\ ∀d,d<k->iz a c d=nx l d)
  (λk y hk C=>(hy (nM a [] c (k+1),y) [I (k:Nat),bh (iz a c k)] ⟨k,hk,zz,C.1,zz⟩).mono ?_)).mono ?_
 rintro r Ho ⟨j,E,⟨H,F⟩,rfl,rfl⟩;rcases F k _ rfl with⟨rfl,p,e⟩|⟨rfl,p,e⟩;refine⟨.go,E.2,λ_=>⟨e.trans C.1,λd G=>?_⟩,λh=>absurd zz h,zz,by rw[H]⟩;by_cases P:d=k;rw[P];exact p;exact C.2 d af;exact⟨.ret,E.2,(λh=>nomatch h),λ_=>⟨zz,p,e,C.2⟩,zz,by rw[H]⟩;rintro r Ho ⟨j,k,z,(⟨rfl,rfl,C⟩|⟨_,T,hk,rfl,p,e,C⟩),rfl⟩;exact⟨.go,(nM a [] c c.length,z),.inl ⟨zz,C.1,C.2⟩,zz⟩;exact⟨.ret,(nM a [] c k,z),.inr ⟨zz,k-1,af,p,e,C⟩,zz⟩
 rintro j ⟨st,q⟩ S (⟨rfl,e,u⟩|⟨rfl,k,hk,p,e,u⟩)
 ·simp only at e;subst e;rw[eS.2 (λk hk=>by simp [u k (de.1 hk)])]at hi;cases hi;show aU _ _ _ _ _ _ _ _;refine ag (aw (H':=(S,.ri)::cU b st.1 (strs st.2)::prH m b5 o 0 [] 0) zz)<|fc [(10004,[.i (.iL 2)]),(10005,[.i (.iL 3)]),(10006,[.i (.iL 4)])] [] ?_
  repeat' first|apply aN|apply aM|apply aL|apply ax|apply ad|(intro g;(try simp only[nL]at g);(try contradiction))
  all_goals try first|exact fo _|exact .inr rfl|exact fi _
  exact⟨_,⟨0,zz,zz⟩,.many aG (show fp (jU an _ _) [.cell 4 3,.cell 5 9,.cell 6 50] [I (-1),bh [],I 0]from
   ⟨.dY (n:=none) (i:=1) (cs:=[I (-1)]) zz zz aX zz,.dY (n:=none) (i:=2) (cs:=[bh []]) zz zz aX zz,.dY (n:=none) (i:=3) (cs:=[I 0]) zz zz aX zz,zq⟩)⟩
 simp only at e;subst e;have Q:(ec c.length).find? (λk=>iz a c k !=nx l k)=some k:=(by rw[List.find?_range_eq_some];refine⟨by simpa using p,de.2 hk,λd G=>?_⟩;simp [u d G]);rw[Q]at hi;cases hi;refine show qn _ _ _ _ _ _ _ from ?_;exact⟨.inr zz,_,⟨0,zz,zz⟩,.many aG (show fp (jU an _ _) [.cell 4 3,.cell 5 9,.cell 6 50] [I (k:Nat),bh (iz a c k),I 0]from
  ⟨.dY (n:=none) (i:=1) (cs:=[I (k:Nat)]) zz zz aX zz,.dY (n:=none) (i:=2) (cs:=[bh (iz a c k)]) zz zz aX zz,.dY (n:=none) (i:=3) (cs:=[I 0]) zz zz aX zz,zq⟩)⟩
theorem Yo (lo hi:Int):Ev an 189 [I lo,I hi] (.agg [I lo,I hi]):=by refine ar ajy.ok<|aa (aA (ah (aO.alloc zz (λb=>?_))));refine bF<|aa (aA ?_);refine lY 3 zz zz<|ah (bz (i:=0) zz zz zz zz zz zz (by show 2<=2;decide) ?_);refine bF<|ab (gv (.inr zz) (.one ?_));exact .dY (i:=0) (n:=some 2) zz zz aX zz
theorem Vc (s:List UInt8)(h:s.length<=1000000):Ev an 188 [bh s] (strs (br 32 s)):=by have e:Ev an 293 [bh s,U 32] (strs (br 32 s)):=Qa s 32 h;generalize br 32 s=W at e;refine ar aiQ.ok<|aJ zz<|bE [.ret (strs W)] zz ⟨e,zq⟩<|ab (aD ?_);rfl
theorem Hu (lo hi:Int):Ev an 90 [I lo,I hi] (.agg (Part.ao ⟨[],lo,hi⟩)):=by refine ar S90.ok<|aa (aA (ah (aO.alloc zz (λb=>?_))));refine bF<|aa (aA ?_);refine mO [.ret (.agg [I lo,I hi])] 4 zz zz ⟨Yo lo hi,zq⟩<|ah (bz (i:=0) zz zz zz zz zz zz (by show 3<=3;decide) ?_);refine bF<|ag (cW (j:=0) (Part.ao ⟨[],lo,hi⟩) zz ⟨(λS v h=>by simp only[bf]at h ⊢;exact .inl ⟨⟨_,h⟩,zz⟩),bj _,bj _,zq⟩)<|ab (gv (.inr zz) (.one ?_));exact .dY (i:=0) (n:=some 3) zz zz aX zz
theorem Jr (s:List UInt8)(h:s.length<=1000000):Ev an 89 [bh s] (.agg (Part.ao ⟨br 32 s,0,0⟩)):=by have e:=Vc s h;generalize br 32 s=W at e;refine ar S89.ok<|aa (aA (ah (aO.alloc zz (λb=>?_))));refine bF<|aa (aA ?_);refine mO [.ret (strs W)] 3 zz zz ⟨e,zq⟩<|ah (bz (i:=0) zz zz zz zz zz zz (by show 3<=3;decide) ?_);refine bF<|ab (gv (.inr zz) (.one ?_));exact .dY (i:=0) (n:=some 3) zz zz aX zz
def HZ:Shelf:=
 {w:=12
  bi:=[⟨[112,108,101,97],[⟨[[116,111],[116,104,101]],0,0⟩,⟨[],1,2⟩,⟨[[105],[97,115,107]],0,0⟩,⟨[],1,3⟩]⟩,
   ⟨[110,111,116,101],[⟨[],1,2⟩,⟨[[105],[97,115,107]],0,0⟩,⟨[],0,2⟩]⟩,⟨[108,105,115,116],[⟨[],1,2⟩,⟨[],1,2⟩]⟩]}
theorem RF:HZ.wf:=by
 have ws: ∀l:List Wd,l.all (λw=>decide (w.length<=100))=true->aaE l:=by intro l h w c;have:=cr.1 h w c;simp only[decide_eq_true_eq]at this;unfold M1;omega
 refine⟨aG,aG,?_⟩;intro f b;simp only[HZ,bA,cb,or_false]at b;rcases b with rfl|rfl|rfl;all_goals refine⟨by unfold M1;decide,λp a=>?_⟩
 all_goals simp only[bA,cb,or_false]at a
 rcases a with rfl|rfl|rfl|rfl<;>exact⟨ws _ zz,aG,aG,aG,aG⟩;rcases a with rfl|rfl|rfl<;>exact⟨ws _ zz,aG,aG,aG,aG⟩;rcases a with rfl|rfl<;>exact⟨ws _ zz,aG,aG,aG,aG⟩
theorem V6:Ev an 38 [] (.agg HZ.ao):=by have g1:Ev an 89 [bh [116,111,32,116,104,101]] (.agg (Part.ao ⟨[[116,111],[116,104,101]],0,0⟩)):=Jr [116,111,32,116,104,101] aG;have g2:Ev an 89 [bh [105,32,97,115,107]] (.agg (Part.ao ⟨[[105],[97,115,107]],0,0⟩)):=Jr [105,32,97,115,107] aG;have a:=Hu 1 2;have d:=Hu 1 3;have c:=Hu 0 2;refine ar S38.ok<|aa (aA (ah (aO.alloc zz (λb=>?_))));refine bF<|aa (aA ?_);refine mO [.ret (.agg (Part.ao ⟨[[116,111],[116,104,101]],0,0⟩)),.ret (.agg (Part.ao ⟨[],1,2⟩)),.ret (.agg (Part.ao ⟨[[105],[97,115,107]],0,0⟩)),.ret (.agg (Part.ao ⟨[],1,3⟩)),.bY] 6 zz zz ⟨g1,a,g2,d,zz,zq⟩<|Ug [(0,.po b 0),(6,.agg (Form.ao ⟨[112,108,101,97],[⟨[[116,111],[116,104,101]],0,0⟩,⟨[],1,2⟩,⟨[[105],[97,115,107]],0,0⟩,⟨[],1,3⟩]⟩))]<|mO [.ret (.agg (Part.ao ⟨[],1,2⟩)),.ret (.agg (Part.ao ⟨[[105],[97,115,107]],0,0⟩)),.ret (.agg (Part.ao ⟨[],0,2⟩)),.bY] 5 zz zz ⟨a,g2,c,zz,zq⟩<|Ug [(0,.po b 0),(6,.agg (Form.ao ⟨[112,108,101,97],[⟨[[116,111],[116,104,101]],0,0⟩,⟨[],1,2⟩,⟨[[105],[97,115,107]],0,0⟩,⟨[],1,3⟩]⟩)),(11,.agg (Form.ao ⟨[110,111,116,101],[⟨[],1,2⟩,⟨[[105],[97,115,107]],0,0⟩,⟨[],0,2⟩]⟩))]<|mO [.ret (.agg (Part.ao ⟨[],1,2⟩)),.ret (.agg (Part.ao ⟨[],1,2⟩)),.bY,.bY] 6 zz zz ⟨a,a,zz,zz,zq⟩<|ah (bz (i:=0) zz zz zz zz zz zz (by show 2<=2;decide) ?_);refine bF<|ab (gv (.inr zz) (.one ?_));exact .dY (i:=0) (n:=some 2) zz zz aX zz
open Go.MapKept
theorem Xl (a b:Int):Ev an 191 [I a,I b] (.agg [I a,I b]):=by refine ar ajw.ok<|bE [.aT] zz cI<|Ik zz ⟨⟨zz,zz,zz,aG⟩,zq⟩<|ag (aq (t:=4) zz) (ab (gv (.inr zz) (.one (.nP (n:=some 2) (bN _ _ _) aX zz))))
theorem qK (x:fw):Ev an 92 [I x.sp,I x.v,I x.lo,I x.hi,I x.eY] (.agg x.ao):=by refine ar S92.ok<|bE [.aT] zz cI<|bE [.ret (.agg [I x.lo,I x.hi])] zz ⟨Xl _ _,⟨zz,zz,zz,aG⟩,zq⟩<|ag (aq (t:=10) zz) (ab (gv (.inr zz) (.one (.nP (n:=some 5) (bN _ _ _) aX zz))))
theorem Oj (s:Bool):Ev an 93 [B s] (.agg (sr.ao ⟨0,1,s⟩)):=by refine ar S93.ok<|bE [.aT] zz cI<|Ik zz ⟨⟨zz,zz,zz,aG⟩,zq⟩<|ag (aq (t:=2) zz) (ab (gv (.inr zz) (.one (.nP (n:=some 3) (bN _ _ _) aX zz))))
def JW (l:List sr):be:=⟨Ce,2,[⟨0,0,100,110,-1⟩,⟨1,-1,105,120,-1⟩,⟨2,1,100,130,-1⟩,⟨3,-1,130,140,0⟩],l⟩
def Eh:Nat->List sr
 |0=>[]
 |1=>[⟨0,1,true⟩]
 |_=>[⟨0,1,true⟩,⟨0,1,false⟩]
theorem aaa (k:Nat)(hk:k<=2):Ev an 39 [I k] (.agg (JW (Eh k)).ao):=by
 have g:=Yw;have f:(JW (Eh k)).ao=Ce.ao++[I 2,.sl 5 [fw.ao ⟨0,0,100,110,-1⟩,fw.ao ⟨1,-1,105,120,-1⟩,fw.ao ⟨2,1,100,130,-1⟩,fw.ao ⟨3,-1,130,140,0⟩],qR (Eh k)]:=rfl;rw[f];clear f;generalize Ce=a at g ⊢;refine ar S39.ok<|bE [.aT] zz cI ?_;have m:=qK ⟨0,0,100,110,-1⟩;have o:=qK ⟨1,-1,105,120,-1⟩;have p:=qK ⟨2,1,100,130,-1⟩;have r:=qK ⟨3,-1,130,140,0⟩;refine aa (aA ?_);refine mO [.ret (.agg a.ao),.ret (.agg (fw.ao ⟨0,0,100,110,-1⟩)),.ret (.agg (fw.ao ⟨1,-1,105,120,-1⟩)),.ret (.agg (fw.ao ⟨2,1,100,130,-1⟩)),.ret (.agg (fw.ao ⟨3,-1,130,140,0⟩))] 5 zz zz ⟨g,m,o,p,r,zq⟩<|Ug [(0,I k),(2,.eR 33 [I 0,.v (.slice none 0 0),.v (.slice none 0 0),I 0,.v (.slice none 0 0),.v (.slice none 0 0)]),(4,.agg a.ao),(5,.agg (fw.ao ⟨0,0,100,110,-1⟩)),(6,.agg (fw.ao ⟨1,-1,105,120,-1⟩)),(7,.agg (fw.ao ⟨2,1,100,130,-1⟩)),(8,.agg (fw.ao ⟨3,-1,130,140,0⟩))]<|ah (aO.GY (q:=fw.ao ⟨0,0,100,110,-1⟩++fw.ao ⟨1,-1,105,120,-1⟩++fw.ao ⟨2,1,100,130,-1⟩++fw.ao ⟨3,-1,130,140,0⟩) ?_ ?_ ?_)
 kernel_rfl;rfl;have d:chunk 5 4 (fw.ao ⟨0,0,100,110,-1⟩++fw.ao ⟨1,-1,105,120,-1⟩++fw.ao ⟨2,1,100,130,-1⟩++fw.ao ⟨3,-1,130,140,0⟩)=[fw.ao ⟨0,0,100,110,-1⟩,fw.ao ⟨1,-1,105,120,-1⟩,fw.ao ⟨2,1,100,130,-1⟩,fw.ao ⟨3,-1,130,140,0⟩]:=aX;rw[d];clear d;generalize ([fw.ao ⟨0,0,100,110,-1⟩,fw.ao ⟨1,-1,105,120,-1⟩,fw.ao ⟨2,1,100,130,-1⟩,fw.ao ⟨3,-1,130,140,0⟩]:List (List AV))=M;refine Ug [(0,I k),(2,.eR 33 [I 0,.v (.slice none 0 0),.v (.slice none 0 0),I 0,.v (.slice none 0 0),.v (.slice none 0 0)]),(4,.agg a.ao),(9,.sl 5 M)]<|VR [.aT] zz eQ<|bW (t:=3) zz λc=>ag (cW (j:=0) (a.ao++[I 2,.sl 5 M,.nil]) zz ?_) ?_
 exact⟨bj _,bj _,bj _,bj _,bj _,λS v h=>by simpa only[bf]using h,zq⟩;refine ag (ai (aw (H':=[(c,.cells 33 (a.ao++[I 2,.sl 5 M,.nil]))]) zz) (au (l:=[(0,I k),(2,.eR 33 [I 0,.v (.slice none 0 0),.v (.slice none 0 0),I 0,.v (.slice none 0 0),.v (.slice none 0 0)]),(3,.po c 0)]) ⟨zz,zz,zz,zq⟩)) ?_;have t1:=Oj true;have t2:=Oj false;rcases (by omega:k=0\/k=1\/k=2)with rfl|rfl|rfl
 refine aa (aa ?_);refine cZ zz<|aH zz zz<|aa (aa ?_);refine cZ zz<|aH zz zz<|ag (cW (j:=0) (a.ao++[I 2,.sl 5 M,qR []]) zz ⟨bj _,bj _,bj _,bj _,bj _,iP 3,zq⟩)<|nw [.at 0] zz eQ<|ag (aq (t:=2) zz) (ab ⟨.inr zz,_,zz,.one (.nP (n:=some 6) (cs:=a.ao++[I 2,.sl 5 M,qR []]) (bN _ _ _) aX zz)⟩)
 refine aa (aa ?_);refine cZ zz<|aC zz zz<|zg [] [.at 0,.ret (.agg (sr.ao ⟨0,1,true⟩)),.bY] zz ⟨zz,t1,zz,⟨(show 1*24<=140737488355328 from aG),(show 1<=9223372036854775807 from aG)⟩,zq⟩<|aR (bO.gp (t:=17) zz)<|aY.hd (gs:=[]) (hs:=[.iL 0]) zz ⟨⟨zz,zz,zz,zz,(show 6<=6 from af)⟩,zq⟩<|ag (aw (H':=[(c,.cells 33 (a.ao++[I 2,.sl 5 M,qR (Eh 1)]))]) zz)<|aa (aa ?_);refine cZ zz<|aH zz zz<|nw [.at 0] zz eQ<|ag (aq (t:=2) zz) (ab ⟨.inr zz,_,zz,.one (.nP (n:=some 6) (cs:=a.ao++[I 2,.sl 5 M,qR (Eh 1)]) (bN _ _ _) aX zz)⟩)
 refine aa (aa ?_);refine cZ zz<|aC zz zz<|zg [] [.at 0,.ret (.agg (sr.ao ⟨0,1,true⟩)),.bY] zz ⟨zz,t1,zz,⟨(show 1*24<=140737488355328 from aG),(show 1<=9223372036854775807 from aG)⟩,zq⟩<|aY.mJ (t:=17) zz (λh=>by cases h) (λe b=>?_);refine aY.hd (gs:=[]) (hs:=[.iL 1]) zz ⟨⟨zz,zz,zz,zz,(show 6<=6 from af)⟩,zq⟩<|ag (ai (aw (H':=[(e,.arr 135 3 b [sr.ao ⟨0,1,true⟩]),(c,.cells 33 (a.ao++[I 2,.sl 5 M,.so e 1 b]))]) zz) (au (l:=[(0,I 2),(2,.eR 33 [I 0,.v (.slice none 0 0),.v (.slice none 0 0),I 0,.v (.slice none 0 0),.v (.slice none 0 0)]),(3,.po c 0)]) ⟨zz,zz,zz,zq⟩))<|aa (aa ?_);refine cZ zz<|aC zz zz<|zg [] [.at 1,.ret (.agg (sr.ao ⟨0,1,false⟩)),.bY] zz ⟨zz,t2,zz,zq⟩<|aR (bO.lC (i:=0) (t:=22) (es:=[sr.ao ⟨0,1,true⟩]) zz zz)<|Rz 1 zz zz ⟨⟨(show 2*24<=140737488355328 from aG),(show 2<=9223372036854775807 from aG)⟩,zq⟩<|aR (bO.gp (t:=25) zz)<|aY.hd (gs:=[]) (hs:=[.iL 0]) zz ⟨⟨zz,zz,zz,zz,(show 6<=6 from af)⟩,zq⟩<|ag (aw (H':=[(c,.cells 33 (a.ao++[I 2,.sl 5 M,qR (Eh 2)]))]) zz)<|nw [.at 0] zz eQ<|ag (aq (t:=2) zz) (ab ⟨.inr zz,_,zz,.one (.nP (n:=some 6) (cs:=a.ao++[I 2,.sl 5 M,qR (Eh 2)]) (bN _ _ _) aX zz)⟩)
def yi:ln:=⟨4,2,1,[⟨[97,110,97],[3,5,2,7]⟩,⟨[98,101,110],[3,4,2,1]⟩,⟨[99,111,114,97],[8,8,1,6]⟩],[⟨[116,97,108,108],[3,5,2,6]⟩,⟨[115,104,111,114,116],[2,1]⟩]⟩
def wC:gO:=⟨[[97,110,97],[98,101,110],[99,111,114,97]],[⟨[102,105,114,115,116],20,3⟩,⟨[115,101,99,111,110,100],30,6⟩,⟨[116,104,105,114,100],15,7⟩],[⟨2,0,1,-1,true⟩,⟨1,2,1,-1,true⟩,⟨0,2,2,-1,false⟩,⟨3,0,1,0,false⟩],[]⟩
def iW:cQ:=⟨HZ,[[116,111],[109,101,114,99,121],[115,104,105,112]],JW [],yi,wC,⟨3,1,[[97,110,97],[98,101,110]],1,[⟨1,1,0,3⟩],[]⟩,[[[116,111],[98,101,110]]],60⟩
def tq:List Wd:=[[115,101,97,108,32,112,108,101,97,32,97,110,97,32,116,111,32,116,104,101,32,106,117,100,103,101,32,105,32,97,115,107,32,109,101,114,99,121],[102,105,110,100,32,97,110,97,32,116,111],[102,105,110,100,32,98,101,110,32,109,101,114,99,121],[99,111,112,121,32,98,101,110,32,50],[104,97,108,102,32,116,111,114,110,32,45,32,50],[114,101,97,100,32,115,104,111,114,116],[112,97,121,32,115,101,99,111,110,100],[112,97,121,32,116,104,105,114,100],[99,111,109,101,32,50],[112,97,121,32,116,104,105,114,100],[112,97,121,32,102,105,114,115,116],[109,101,110,116,105,111,110,32,48,32,49,32,49,50,48,32,49,50,48,32,45],[115,97,109,101,32,48,32,49],[107,101,121,32,97,110,97,32,50]]
def DN:List Wd:=[[49,58,32,115,101,97,108,32,112,108,101,97,32,97,110,97,32,116,111,32,116,104,101,32,106,117,100,103,101,32,105,32,97,115,107,32,109,101,114,99,121,32,62,32,50,32,49],[50,58,32,102,105,110,100,32,97,110,97,32,116,111,32,62,32,49,32,50],[51,58,32,102,105,110,100,32,98,101,110,32,109,101,114,99,121,32,62,32,45],[52,58,32,99,111,112,121,32,98,101,110,32,50,32,35,32,50],[53,58,32,104,97,108,102,32,116,111,114,110,32,45,32,50,32,62,32,45],[54,58,32,114,101,97,100,32,115,104,111,114,116,32,35,32,57],[55,58,32,112,97,121,32,115,101,99,111,110,100,32,62,32,98,101,110],[56,58,32,112,97,121,32,116,104,105,114,100,32,35,32,57],[57,58,32,99,111,109,101,32,50,32,62,32,45],[49,48,58,32,112,97,121,32,116,104,105,114,100,32,62,32,99,111,114,97],[49,49,58,32,112,97,121,32,102,105,114,115,116,32,35,32,57],[49,50,58,32,109,101,110,116,105,111,110,32,48,32,49,32,49,50,48,32,49,50,48,32,45,32,62,32,49,32,50],[49,51,58,32,115,97,109,101,32,48,32,49,32,62,32,51],[49,52,58,32,107,101,121,32,97,110,97,32,50,32,62,32,109,101,114,99,121]]
end Go.Px
