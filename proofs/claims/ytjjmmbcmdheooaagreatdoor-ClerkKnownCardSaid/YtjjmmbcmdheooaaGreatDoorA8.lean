/- Part 8 of the proof of a statement of this seat (a logic of pure contracts; the functions; their contracts). No conditions. -/
import Derived.Test.YtjjmmbcmdheooaaGreatDoorA7
import Derived.MapKept
import Derived.Laws.CopyRow
open Array renaming getD_eq_getD_getElem?->dk,replicate->et,getElem?_modify->ey,getD->hn
open Bool renaming or_eq_true->bm,and_eq_true->ej,false_eq_true->e9,false_or->ht,or_true->hv
open Go.Builtin renaming copy_->bx,firstCells->cb,lenOf->ec
open Go.Deferred renaming ofValue->fD
open Go.Fence renaming wide->fb
open Go.Lib renaming strCells->fs
open Go.Op renaming equalIn->hC,equal->hD
open Go.Oper renaming uponIn_enter->fv
open Go.Region renaming ready->fy
open Go.Result renaming andThen_ok->cr
open Go.Sem renaming run_bind->en,run_pure->er
open Go.Value.slice renaming injEq->ea
open Go.World renaming freeze->cA
open List renaming getElem?_eq_some_iff->an,range->az,mem_range->bi,getElem?_map->bk,all_eq_true->bn,getElem?_eq_getElem->bt,range_eq_range'->bA,length_map->bI,getElem?_set->cc,map_toArray->cD,map_cons->cR,countP_eq_zero->de,nodup_append->dn,map_nil->ek,map_append->eu,getElem?_of_mem->eM,mem_of_getElem?->eP,range'->eS,range'_append_1->eT,take_zero->eU,countP_append->fe,getElem?_take->ff,mem_singleton->fk,ext_getElem?->fu,cons_append->gg,length_nil->gx,mem_append->hb,mem_map->hz
open Nat renaming eq_of_beq_eq_true->ap,zero_add->be,lt_or_ge->bs,le_of_ble_eq_true->cB,beq_refl->dl,le_refl->ds,beq->hj,sub_self->hB,ble->hE
open Option renaming map_some->ew
open Option.some renaming injEq->fx
namespace Go.Px
variable {T ty:TypeId}{b cap i kk n t:Nat}{Q:cI}{S:aE}{x y:Operand}{es:List (List AV)}
section
variable {P:Program}{r:Option Nat}{N:Nat}{env:Env}{H:Heap}{D:List Nat}{dst:Option Nat}{K:Env->Heap->List Nat->Prop}
theorem aF.YP (hx:bu env x= .so b n cap)(hc:cap≠0)(k:K (ct env dst (.po b 0)) H D):aF P r N (.wz T ty x) dst env H D K:=
 aF.pure rfl zj (by
  intro o c C a w S L hs
  have e:=hs.cY x hx rfl
  simp only[aR]at e
  cases c with
  |wz d=>
   refine⟨.pointer (some ⟨b,0,none⟩),?_,by simp [aR]⟩
   have f:=Lib.run_unsafeSliceData_row (P:=P) w #[T] o.type ⟨b,0,none⟩ n cap hc
   simp only[execOp,d,resolve,invoke,builtin,en,er,cr,cD,cR,ek,e,f]) k
theorem aF.X6 (hx:bu env x= .nil)(k:K (ct env dst (.v (.pointer none))) H D):aF P r N (.wz T ty x) dst env H D K:=
 aF.pure rfl zj (by
  intro o b C a w S L hs
  have d:=hs.cY x hx rfl
  simp only[aR]at d
  cases b with
  |wz c=>
   refine⟨.pointer none,?_,by simp [aR]⟩
   have e:=Lib.run_unsafeSliceData_nil (P:=P) w #[T] o.type 0 0
   simp only[execOp,c,resolve,invoke,builtin,en,er,cr,cD,cR,ek,d,e]) k
theorem aF.aao {d:TypeId}(hx:bu env x= .v (.pointer none))(hy:bu env y= .v (.int .i64 0))(k:K (ct env dst (.v (.string ⟨#[]⟩))) H D):aF P r N (.Cg T d ty x y) dst env H D K:=
 aF.pure rfl zj (by
  intro o b C a w S L hs
  have g:=hs.int hx
  have f:=hs.int hy
  cases b with
  |Cg c=>
   refine⟨.string .empty,?_,by simp only[aR];rfl⟩
   have e:=Lib.run_unsafeString_none (P:=P) w T d o.type none
   simp only[execOp,c,resolve,invoke,builtin,en,er,cr,cD,cR,ek,g,f,e]) k
theorem Cv : ∀{l cs:List Value},aS S (l.map AV.v) cs->cs=l
 |[],_,h=>h
 |x::l,cs,h=>by
  rw[cR,aS]at h
  obtain⟨c,b,rfl,a,d⟩:=h
  rw[aR]at a
  rw[a,Cv d]
theorem FF (s:ByteArray):(sD s).flatten=(fs s).map AV.v:=by
 unfold sD fs;induction s.data.toList with
 |nil=>rfl
 |cons c l a=>grind
theorem aF.ZB {J E:TypeId}{s:ByteArray}(hx:bu env x= .po b 0)(hy:bu env y= .v (.int .i64 s.size))(M:H[i]? =some (b,.arr E 1 cap (sD s)))(Z:P.underlying T=some (.pointer E))
  (X:P.cellsOf E=1) (z:s.size≠0) (W:s.size<=9223372036854775807) (k:K (ct env dst (.v (.string s))) (H.eraseIdx i) D):aF P r N (.Cg T J ty x y) dst env H D K:=by
 intro o m hd F C a w S L Y hs next Q h
 have U:=hs.cY x hx rfl
 simp only[aR]at U
 have hu:=hs.int hy
 have q:=hs.at_ M
 obtain⟨cur,f,h1,V,h3,h4,A,h6⟩:=q.arr
 rw[uI]at V A
 rw[FF]at A
 have l:=Cv A
 have B:s.data.toList.length=s.size:=by rw[Array.length_toList];rfl
 cases F with
 |Cg n=>
  have R:=Lib.run_unsafeString_row (P:=P) w T J o.type E Z X b cur.toArray.size (by simp [World.shape?,f]) s.data.toList zx zx zx (by
   intro j c O
   rw[addr_add,be,cell_of_row w b j _ _ _ f]
   have a0:=(an.1 O).1
   have u:(cur.take (s.size*1))[j]? =some (Value.int .u8 c.toNat):=by
    rw[l]
    unfold fs
    rw[bk,O];rfl
   rw[ff]at u
   split at u
   ·simpa using u
   ·cases u)
  rw[B]at R
  have G:=hs.replace M (y:=.raw (.cells cur.toArray E (0,s.size))) (w':=w.freeze ⟨b,0,none⟩ s.size) (o:=.cells cur.toArray E (0,s.size)) (by
   unfold cA
   rw[if_neg z]
   simp only[ey,f,if_true,ew]
   simp) rfl (by unfold cA;rw[if_neg z];simp) (λg hg=>by
   unfold cA
   rw[if_neg z]
   simp only[ey]
   rw[if_neg (λe=>hg e.symm)]) (by unfold cA;split<;>rfl) (by unfold cA;split<;>rfl) (by unfold cA;split<;>rfl)
  have t:=G.drop i
  rw[List.eraseIdx_set_eq]at t
  obtain⟨L',I⟩:=t.lA (dst:=dst) (p:=.v (.string s)) (y:=.string ⟨s.data.toList.toArray⟩) (λd e=>Y▸hd d e) rfl (by simp [aR])
  refine Oper.bO (.Cg n) zj (y:=.string ⟨s.data.toList.toArray⟩) (w':=w.freeze ⟨b,0,none⟩ s.size) ?_ (by rw[m];exact h _ _ _ _ _ _ _ k I (aE.Le.refl _))
  simp only[execOp,n,resolve,invoke,builtin,en,er,cr,cD,cR,ek,U,hu,R]
theorem aJ.YS {x:bN}(i:Nat){T:Nat}(e:H[i]? =some (b,.arr T kk cap es))(h:es.length<=cap->aJ P r N x Q env H D):aJ P r N x Q env H D:=by intro c hc C a w S L f hs;obtain⟨_,_,_,d,_⟩:=(hs.at_ e).arr;exact h d c hc C a w S L f hs
theorem aJ.PF {x:bN}(t:Nat){T:Nat}{g:Option Addr}(m:env t= .jr T kk es g cap)
  (n:es=[]->g=none->cap=0->aJ P r N x Q (dK env t .nil) H D) (o: ∀b,g=some ⟨b,0,none⟩->aJ P r N x Q (dK env t (.so b es.length cap)) ((b,.arr T kk cap es)::H) D):aJ P r N x Q env H D:=by
 intro c hc C a w S L l hs
 have f:=hs.env t
 rw[m]at f
 simp only[bF]at f
 obtain⟨f,_⟩:=f
 obtain⟨j,p,_,i⟩:=bB.XP (H:=H) (D:=D) m C a w S L hs
 rcases i.share (bw _ _ _)with⟨he,h⟩|⟨b,k,h⟩
 ·have d:=h.env t
  rw[bw]at d
  simp only[bF,aR]at d
  rw[f]at d
  have e:=d.2
  simp only[ea]at e
  rw[dX]at h
  exact n he e.1 e.2.2 c hc C a w j _ l h
 ·have d:=h.env t
  rw[bw]at d
  simp only[bF,aR]at d
  rw[f]at d
  have e:=d.2
  simp only[ea]at e
  rw[dX]at h
  obtain⟨rfl,_,rfl⟩:=e
  exact o b rfl c hc C a w j _ l h
theorem bB.soV {T:Nat}(j:env t= .so b n cap)(p:n=es.length)(o:H[i]? =some (b,.arr T kk cap es)):bB env H D (dK env t (.jr T kk es (some ⟨b,0,none⟩) cap)) (H.eraseIdx i) D:=by subst p;intro C a w S L hs;have g:=hs.env t;rw[j]at g;simp only[bF,aR]at g;obtain⟨l,q,m,f⟩:=bB.jT (D:=D) j o C a w S L hs;obtain⟨r,h,k,c⟩:=f.VX (bw _ _ _);have d:=c.env t;rw[bw]at d;simp only[bF]at d;have e:=d.1;rw[g.2]at e;simp only[ea]at e;obtain⟨rfl,_,rfl⟩:=e;rw[dX]at c;exact⟨l,k,m,c⟩
end
variable {P:Program}
open Go.MapKept
theorem gO.plain {K:TypeId}{d:TypeDesc}(hd:P.underlying K=some d):gO P K (IsKey d) where
 check:=λk hk em w=>run_checkKey hd hk em 9999
 find:=by
  intro k l hk hl w
  rcases findNow_spec hk l 0 hl with⟨a,b⟩|⟨j,e,a,b,c⟩
  ·exact .inl ⟨run_findKey hd a,b⟩
  ·exact .inr ⟨j,e,by have:=run_findKey (w:=w) hd a;rwa [be]at this,b,c⟩
 same:=by
  intro k hk
  cases d<;>cases k<;>simp_all [IsKey,Instr.sameBits,(bytes_beq _ _).2]
structure xO (G:Value->AV->Prop)(es:List (Value×AV)):Prop where
 nd:(es.map (·.1)).Nodup
 ok: ∀e∈es,G e.1 e.2
theorem xO.nil (G:Value->AV->Prop):xO G []:=⟨List.nodup_nil,λ_ h=>by cases h⟩
theorem Ei (es:List (Value×AV))(k:Value): ∃o,Av es k o:=by
 by_cases h: ∃e∈es,e.1=k
 ·obtain⟨⟨b,p⟩,he,rfl⟩:=h;obtain⟨j,a⟩:=eM he;exact⟨some (j,p),.some a⟩
 ·exact⟨none,.none λe he hk=>h ⟨e,he,hk⟩⟩
theorem xO.mono {G c:Value->AV->Prop}{es:List (Value×AV)}(h:xO G es)(k: ∀a b,G a b->c a b):xO c es:=⟨h.nd,λe he=>k _ _ (h.ok e he)⟩
theorem Cw {es:List (Value×AV)}{k:Value}{v:AV}{o:Option (Nat×AV)}(a:Av es k o):(km es k v o).map (·.1)=match o with|none=>es.map (·.1)++[k]|some _=>es.map (·.1):=by
 cases a with
 |none h=>simp [km]
 | @some j p h=>
  simp only[km];apply fu;intro i;rw[bk,bk,cc];by_cases e:j=i
  ·grind
  ·rw[if_neg e]
theorem xO.put {G:Value->AV->Prop}{es:List (Value×AV)}{k:Value}{v:AV}{o:Option (Nat×AV)}(n:Av es k o)(h:xO (λa b=>a=k\/G a b) es)(r:G k v):xO G (km es k v o):=by
 have hk:=Cw (v:=v) n;cases n with
 |none m=>
  simp only at hk;refine⟨?_,λe he=>?_⟩
  ·rw[hk,dn];refine⟨h.nd,zj,λa ha b l e=>?_⟩;simp only[fk]at l;subst l e;obtain⟨x,hx,d⟩:=hz.1 ha;exact m x hx d
  ·simp only[km,hb,fk]at he;rcases he with he|rfl
   ·rcases h.ok e he with h1|h1
    ·exact absurd h1 (m e he)
    ·exact h1
   ·exact r
 | @some j p q=>
  simp only at hk;refine⟨by rw[hk];exact h.nd,λe he=>?_⟩;simp only[km]at he;obtain⟨i,hi⟩:=eM he;rw[cc]at hi;by_cases g:j=i
  ·grind
  ·rw[if_neg g]at hi;rcases h.ok e (eP hi)with h1|h1
   ·exfalso;have a1:(es.map (·.1))[i]? =some k:=by rw[bk,hi,<-h1];rfl
    have f:(es.map (·.1))[j]? =some k:=by rw[bk,q];rfl
    have c:=(an.1 f).1;have:=(List.getElem?_inj c h.nd).1 (f.trans a1.symm);exact g this
   ·exact h1
theorem xO.Ki {G:Value->AV->Prop}{es:List (Value×AV)}(k:Value)(h:xO G es):xO (λa b=>a=k\/G a b) es:=h.mono λ_ _=>.inr
theorem Lg {es:List (Value×AV)}{k:Value}{v:AV}{o:Option (Nat×AV)}(b:Av es k o):Av (km es k v o) k (some (sr es o,v)):=by
 cases b with
 |none c=>exact .some (by simp [km,sr])
 | @some j p a=>exact .some (by simp only[km,sr];rw[cc,if_pos rfl,if_pos (an.1 a).1])
theorem A6 {G:Value->AV->Prop}{es:List (Value×AV)}{k:Value}{o:Option (Nat×AV)}(b:Av es k o)(h:xO G es):o=none\/ ∃j p,o=some (j,p)/\G k p:=by
 cases b with
 |none c=>grind
 | @some j p a=>exact .inr ⟨j,p,rfl,h.ok _ (eP a)⟩
variable {H H':Heap}{args:List AV}{f:FuncId}
def aQ {α X:Type}(f:X->α->J×X):List α->X->J×X
 |[],x=>(.go,x)
 |p::L,x=>match f x p with
  |(.go,a)=>aQ f L a
  |r=>r
section
variable {α X:Type}{f:X->α->J×X}
theorem sG: ∀{a b:List α} {x:X},(aQ f a x).1= .go->aQ f (a++b) x=aQ f b (aQ f a x).2
 |[],_,_,_=>rfl
 |p::a,b,x,h=>by
  simp only[gg,aQ]at h ⊢
  rcases c:f x p with⟨j,d⟩
  rw[c]at h
  cases j with
  |go=>exact sG h
  |ret=>cases h
  |exit id=>cases h
theorem nN: ∀{a b:List α} {x:X},(aQ f a x).1≠.go->aQ f (a++b) x=aQ f a x
 |[],_,_,h=>absurd rfl h
 |p::a,b,x,h=>by
  simp only[gg,aQ]at h ⊢
  rcases c:f x p with⟨j,d⟩
  rw[c]at h
  cases j with
  |go=>exact nN h
  |ret=>rfl
  |exit id=>rfl
theorem A3 {x:X}{p:α}:aQ f [p] x=f x p:=by simp only[aQ];rcases f x p with⟨j,a⟩;cases j<;>rfl
end
theorem NQ {j:J}:j.on=true↔j= .go:=by cases j<;>simp [J.on]
section
theorem il.perm {R q:AV->Heap->Prop}(h:il P f args H R)(o:H.Perm H')(k: ∀r Ho,R r Ho-> ∃a,Ho.Perm a/\q r a):il P f args H' q:=by
 obtain⟨C,D⟩:=h;refine⟨C,λS w I l m c E n=>?_⟩;have i:AH w H=AH w H':=by funext b;unfold AH;exact propext (or_congr_right ((o.map _).mem_iff))
 refine(D S w I l m c (λe he=>E e (o.subset he)) ((o.map (·.1)).symm.nodup n)).mono ?_;rintro e w' ⟨v,y,g,res,p,he,F,a1,z,s,t,u,x,A,B⟩;obtain⟨a,d,j⟩:=k _ _ F;rw[i]at s t u x;exact⟨v,y,g,res,a,he,j,a1,z,s,t,u,λe he=>x e (d.symm.subset he),(d.map (·.1)).nodup A,λb G hm=>B b G ((d.map (·.1)).symm.subset hm)⟩
theorem zX.perm {l:Nat}{R q:AV->Heap->Prop}(h:zX P l args H R)(o:H.Perm H')(k: ∀r Ho,R r Ho-> ∃a,Ho.Perm a/\q r a):zX P l args H' q:=by
 intro S w J j m c F n;have f:AH w H=AH w H':=by funext b;unfold AH;exact propext (or_congr_right ((o.map _).mem_iff))
 obtain⟨lp,C,D,E⟩:=h S w J j m c (λe he=>F e (o.subset he)) ((o.map (·.1)).symm.nodup n);refine⟨lp,C,D,E.mono ?_⟩;rintro e w' ⟨v,y,g,res,p,he,G,a1,z,s,t,u,x,A,B⟩;obtain⟨a,d,i⟩:=k _ _ G;rw[f]at s t u x;exact⟨v,y,g,res,a,he,i,a1,z,s,t,u,λe he=>x e (d.symm.subset he),(d.map (·.1)).nodup A,λb I hm=>B b I ((d.map (·.1)).symm.subset hm)⟩
end
variable {q:AV}{off:Nat}{ob:Prop}{hs':List Hint}{cs:List AV}{env':Env}{gs:List (Nat×Bool)}
section
variable {r:Option Nat}{N:Nat}{env:Env}{D:List Nat}
theorem aJ.SV {ops:List (aH×List Nat)}{hs:List Hint}{a:List (List Nat×List Nat)}{rest:List (aH×List Nat)}{l:TypeId}{s:List Nat} 
  (f:List Nat) (i:Nat) (hm:P.follows .mixedOrders=true) (h:zC P gs H ops hs env=(env',a,(⟨none,none,.store T x y n⟩,s)::rest,hs',ob)) (e:mY (ops.map (·.2)) (a++[(f,[])])=true) (o:ob)
  (hx:bu (only f env') x= .po b off) (m:H[i]? =some (b,.cells l cs)) (hy:bu (only f env') y=q) (p:q.cj=true) (j:(bQ q).length=n) (g:(bQ q).all AV.dW=true) (c:off+n<=cs.length)
  (d:H.set i (b,.cells l (bK cs off (bQ q)))=H) (k:aT P r N (rest.map (·.1)) Q env' H D):aJ P r N (.iP ops) Q env H D:=by
 refine aJ.iP hm (vE.run h o (vE.cons (W:=[]) f ?_ rfl rfl vE.nil)) e k
 exact aF.Er hx m hy p j g c ⟨rfl,d,rfl⟩
end
def Sf (A:List Nat)(m n:Nat):Bool:=(az n).all λk=>Nat.blt k m||(az m).all λi=>(A.getD k 0).testBit i
def Qu (A:List Nat)(m n:Nat):Bool:=(az n).all λk=>hE k m||(A.getD k 0).testBit m
def B4 (A:List Nat)(o:Nat)(a:List (List Nat×List Nat)):Bool:=
 (az a.length).all λj=>(az j).all λi=>(A.getD (o+j) 0).testBit (o+i)||
   (match a[i]?,a[j]? with
     |some (fi,c),some (b,d)=>FG c b&&FG d fi
     |_,_=>false)
def gp (P:Program)(r:Option Nat)(N:Nat)(ops:List (aH×List Nat))(j:Nat)(Q:cI)(env:Env)(H:Heap)(D:List Nat):Prop:=
 ∀(arr:Array Oper) (ls:List aH),gP P N arr (az arr.size) ls->ops=ls.zip (arr.toList.map jL)->
  ∀(C:Ctx) (a:Act) (w:World) (S:aE) (L:Nat->Option Nat),C.N=N->Sat C env H D a w S L-> ∀(b:Nat) (listed:Array Bool),listed.size=arr.size->
   (∀k,k<arr.size->(listed.getD k true=true↔k<j))->arr.size<=j+b->wpAnyIn (Fw r) 0 P .any arr (vM C Q) b listed a w
def Ps (A:List Nat)(o q:Nat)(a:List rM):Bool:=(az a.length).all λi=>hj i q||
 (match a[i]? with
   |some (_,_,b,c)=>(b||(A.getD (o+i) 0).testBit (o+q))&&(c||(A.getD (o+q) 0).testBit (o+i))
   |none=>false)
section
variable {r:Option Nat}{N:Nat}{env:Env}{D:List Nat}{ops:List (aH×List Nat)}
theorem RF {arr:Array Oper}{ps:List (List Nat)}(h:ps=arr.toList.map jL)(a:ko 0 ps=true):xc arr ps ps.length:=by refine⟨h,a,bn.2 λj b=>?_,ds _⟩;have:=bi.1 b;rw[bm];exact .inl (Nat.ble_eq_true_of_le this)
theorem xy {arr:Array Oper}{ls:List aH}(d:gP P N arr (az arr.size) ls)(c:ops=ls.zip (arr.toList.map jL)):ls.length=arr.size/\ops.map (·.2)=arr.toList.map jL/\ops.map (·.1)=ls/\ops.length=arr.size:=by
 have a:ls.length=arr.size:=by rw[d.length];simp
 have b:ops.map (·.1)=ls:=by rw[c,List.map_fst_zip];simp [a]
 exact⟨a,by rw[c,List.map_snd_zip];simp [a],b,by rw[<-a,<-b];simp⟩
theorem gp.nil {j:Nat}(l:ko 0 (ops.map (·.2))=true)(t:ops.length<=j)(k:Q .normal env H D):gp P r N ops j Q env H D:=by
 intro arr ls d e C a w S L q hs b listed n hl s;obtain⟨o,h,p,h4⟩:=xy d e;have hd:=RF h l
 have c:fy .any arr listed=[]:=by
  cases m:fy .any arr listed with
  |nil=>rfl
  |cons x xs=>obtain⟨g,f,_⟩:=hd.ready (listed:=listed) (j:=x) (by rw[m];simp);rw[(hl x g).2 zz]at f;cases f
 cases b with
 |zero=>exact⟨c,env,H,D,S,L,hs,k⟩
 |succ b=>exact⟨λ_=>⟨env,H,D,S,L,hs,k⟩,λi hi=>by rw[c]at hi;cases hi⟩
def mS (P:Program)(r:Option Nat)(N:Nat)(l:jM)(dst:Option Nat)(env:Env)(H:Heap)(D:List Nat)(K:Env->Heap->List Nat->Prop)(f:List PanicEntry->Env->Heap->List Nat->Prop):Prop:=
 ∀o:Oper,o.dst=dst->(∀d,dst=some d->d<N)->Lo P o l-> ∀(C:Ctx) (a:Act) (w:World) (S:aE) (L:Nat->Option Nat),C.N=N->Sat C env H D a w S L->
  ∀(next:Act->World->Prop) (Q:Exit->Act->World->Prop),
   (∀env' H' b y w' c e,K env' H' b->Sat C env' H' b (a.put dst y) w' c e->S.Le c->next (a.put dst y) w')->
   (∀ch env' H' b w' c e,f ch env' H' b->Sat C env' H' b a w' c e->Q (.panic ch) a w')->o.wpIn (Fw r) 0 P a w next Q
theorem aF.toX {dst:Option Nat}{l:jM}{K:Env->Heap->List Nat->Prop}{b:List PanicEntry->Env->Heap->List Nat->Prop}(h:aF P r N l dst env H D K):mS P r N l dst env H D K b:=
 λo c d e C a w S L h4 f next Q k _=>h o c d e C a w S L h4 f next Q k
theorem gp.opX {j:Nat}{dst:Option Nat}{l:jM}{X:List Nat}{rest:List (aH×List Nat)}(c:ops.drop j=(⟨dst,none,l⟩,X)::rest)(W:ko 0 (ops.map (·.2))=true)(n:Qu (mU [] (ops.map (·.2))) j ops.length=true)
  (h:mS P r N l dst env H D (λenv' H' m=>gp P r N ops (j+1) Q env' H' m) (λch env' H' m=>Q (.panic ch) env' H' m)):gp P r N ops j Q env H D:=by
 intro arr ls d A C a w S L V hs b listed B hl hf
 obtain⟨h1,Z,h3,h4⟩:=xy d A
 have hd:=RF Z W
 have a1:j<ops.length:=by
  rcases bs j ops.length with h|h
  ·exact h
  ·rw[List.drop_eq_nil_of_le h]at c;cases c
 have z:listed.getD j true=false:=by
  cases hx:listed.getD j true with
  |false=>rfl
  |true=>have:=(hl j zz).1 hx;omega
 obtain⟨b,rfl⟩: ∃f,b=f+1:=⟨b-1,zz⟩
 have v:j∈fy .any arr listed:=hd.isReady B zz z (λi hi=>(hl i zz).2 hi)
 refine⟨λhr=>(by rw[hr]at v;cases v),λi hi=>?_⟩
 obtain⟨u,t,p,hp,e⟩:=hd.ready hi
 have I:pJ (ops.map (·.2)) (λk=>listed.getD k true):=by
  intro k p' hk hs q hq
  have R:k<arr.size:=by
   have:=(an.1 hk).1
   rw[bI]at this;omega
  have a2:=(hl k R).1 hs
  have:=mN W k p' hk q hq
  exact(hl q zz).2 zz
 have M:i=j:=by
  have a0:j<=i:=by
   rcases bs i j with hh|hh
   ·rw[(hl i u).2 hh]at t;cases t
   ·exact hh
  rcases bs j i with hh|hh
  ·have h5:=bn.1 n i (bi.2 zz)
   simp only[bm]at h5
   rcases h5 with h5|h5
   ·have:=cB h5;omega
   ·have:=(I.add hp e).ND (i:=j) (j:=i) zj h5
    simp only[bm,z,e9,false_or]at this
    have:=ap this;omega
  ·omega
 subst M
 have U:td P N arr i ⟨dst,none,l⟩:=by
  obtain⟨l',G,Y⟩:=d.get (k:=i) (i:=i) (by simp [u])
  have:ops[i]? =some (⟨dst,none,l⟩,X):=by
   have:=congrArg (λx=>x[0]?) c
   simpa using this
  rw[<-h3,bk,this]at G
  simp only[ew,fx]at G
  subst G;exact Y
 obtain⟨o,ho,s,J,T,hg⟩:=U.at_
 have K:o.guard=none:=by
  rcases hg with⟨_,hg⟩|⟨_,_,_,hg,_⟩
  ·exact hg
  ·cases hg
 simp only[wpOpIn,ho,fF K,if_true]
 refine h o s J T C a w S L V hs _ _ (λenv' H' m y w' F E hk g _=>?_) (λch env' H' m w' F E k g=>⟨env',H',m,F,E,g,k⟩)
 refine hk arr ls d A C _ w' F E V g b (listed.setIfInBounds i true) (by simpa using B) ?_ zz
 intro k hk
 rw[ft zz]
 simp only[bm,hl k hk]
 constructor
 ·rintro (h|h)
  ·omega
  ·have:=ap h;omega
 ·intro h
  by_cases O:k=i
  ·subst O;exact .inr (dl k)
  ·exact .inl zz
theorem gp.op {j:Nat}{dst:Option Nat}{l:jM}{e:List Nat}{rest:List (aH×List Nat)}(b:ops.drop j=(⟨dst,none,l⟩,e)::rest)(d:ko 0 (ops.map (·.2))=true)(a:Qu (mU [] (ops.map (·.2))) j ops.length=true)
 (h:aF P r N l dst env H D (λenv' H' c=>gp P r N ops (j+1) Q env' H' c)):gp P r N ops j Q env H D:=gp.opX b d a h.toX
theorem gp.Fo {Hs:Bool->Heap}{q j n:Nat}{M:List (aH×List Nat)}{b:List rM}{env':Env}(hA:(ops.drop j).take n=M)(c6:AU P r N Hs q D 0 env M b [] env')(A:ko 0 (ops.map (·.2))=true)
  (b3:Sf (mU [] (ops.map (·.2))) (j+b.length) ops.length=true) (a2:B4 (mU [] (ops.map (·.2))) j (qQ b)=true)
  (a0:Ps (mU [] (ops.map (·.2))) j q b=true) (b':q<b.length\/Hs false=Hs true) (hk:gp P r N ops (j+b.length) Q env' (Hs true) D):gp P r N ops j Q env (Hs false) D:=by
 intro arr ls a1 b1 C a w S L hN hs c listed G hl hf
 obtain⟨h1,h2,h3,h4⟩:=xy a1 b1
 have hd:=RF h2 A
 obtain⟨Ws,f1,f2,f3,f4,f5⟩:=c6.facts
 have d':M.length<=ops.length-j:=by
  rw[<-hA,List.length_take,List.length_drop];omega
 have Pm: ∀i x,M[i]? =some x->ops[j+i]? =some x:=by
  intro i x hx
  rw[<-hA,ff]at hx
  split at hx
  ·rwa [List.getElem?_drop]at hx
  ·cases hx
 have a7: ∀(i:Nat) f k O k1,b[i]? =some (f,k,O,k1)->(qQ b)[i]? =some (f,k):=by
  intro i f k O k1 h
  simp [qQ,h]
 have e3:(qQ b).length=b.length:=by simp [qQ]
 have c': ∀(i:Nat) f k O k1,b[i]? =some (f,k,O,k1)->i≠q->(O=true\/((mU [] (ops.map (·.2))).getD (j+i) 0).testBit (j+q)=true)/\(k1=true\/((mU [] (ops.map (·.2))).getD (j+q) 0).testBit (j+i)=true):=by
  intro i f k O k1 h d5
  have h1:=bn.1 a0 i (bi.2 (an.1 h).1)
  rw[h]at h1
  simp only[bm,ej]at h1
  rcases h1 with h1|h1
  ·exact absurd (ap h1) d5
  ·exact h1
 have e7:b.length=0\/j+b.length<=ops.length:=by
  by_cases h:b.length=0
  ·exact .inl h
  ·right;omega
 have H: ∀i k fi ki fj kj,i<k->(qQ b)[i]? =some (fi,ki)->(qQ b)[k]? =some (fj,kj)->((mU [] (ops.map (·.2))).getD (j+k) 0).testBit (j+i)=true\/((∀x∈ki,x ∉ fj)/\(∀x∈kj,x ∉ fi)):=by
  intro i k fi ki fj kj a8 hi hk
  have E:=(an.1 hk).1
  have h1:=bn.1 (bn.1 a2 k (bi.2 E)) i (bi.2 a8)
  rw[hi,hk]at h1
  simp only[bm,ej]at h1
  rcases h1 with h1|h1
  ·exact .inl h1
  ·exact .inr ⟨λx hx=>qT h1.1 hx,λx hx=>qT h1.2 hx⟩
 have key: ∀(c:Nat) (listed:Array Bool) (a:Act) (w:World) (S:aE) (L:Nat->Option Nat),listed.size=arr.size->pJ (ops.map (·.2)) (λk=>listed.getD k true)->
   (∀k,k<j->listed.getD k true=true)->(∀k,j+b.length<=k->k<arr.size->listed.getD k true=false)->(az arr.size).countP (λk=> !listed.getD k true)<=c->
   Sat C (dG env (iN (λk=>listed.getD (j+k) true) 0 Ws)) (Hs (listed.getD (j+q) true)) D a w S L->wpAnyIn (Fw r) 0 P .any arr (vM C Q) c listed a w:=by
  intro c
  induction c with
  |zero=>
   intro listed a w S L G z a6 V c7 hs
   have I: ∀k,k<arr.size->listed.getD k true=true:=by
    intro k hk
    have h0:(az arr.size).countP (λk=> !listed.getD k true)=0:=zz
    have:=de.1 h0 k (bi.2 hk)
    simpa using this
   have e4:arr.size<=j+b.length:=by
    rcases bs (j+b.length) arr.size with h|h
    ·have:=V _ (ds _) h
     rw[I _ h]at this;cases this
    ·exact h
   have J: ∀k,¬k<arr.size->listed.getD k true=true:=λk hk=>by simp [hn,show ¬k<listed.size from zz]
   rw[rT (λk hk=>by rw[be];by_cases F:j+k<arr.size;exact I _ F;exact J _ F),<-f4,(show listed.getD (j+q) true=true by by_cases F:j+q<arr.size;exact I _ F;exact J _ F)]at hs
   exact hk arr ls a1 b1 C a w S L hN hs 0 listed G (λk hk=>⟨λ_=>zz,λ_=>I k hk⟩) zz
  |succ c ih=>
   intro listed a w S L G z a6 V c7 hs
   have J: ∀k,¬k<arr.size->listed.getD k true=true:=λk hk=>by simp [hn,show ¬k<listed.size from zz]
   by_cases K: ∀k,k<j+b.length->listed.getD k true=true
   ·have hq:Hs (listed.getD (j+q) true)=Hs true:=by
     rcases b' with h|h
     ·rw[K (j+q) zz]
     ·cases listed.getD (j+q) true<;>first|exact h|rfl
    rw[rT (λk hk=>by rw[be];exact K _ zz),<-f4,hq]at hs
    refine hk arr ls a1 b1 C a w S L hN hs (c+1) listed G (λk hk=>⟨λhh=>?_,λhh=>K k hh⟩) ?_
    ·rcases bs k (j+b.length)with h|h
     ·exact h
     ·rw[V k h hk]at hh;cases hh
    ·have:arr.size-(j+b.length)<=(az arr.size).countP (λk=> !listed.getD k true):=by
      by_cases d4:j+b.length<=arr.size
      ·have e:az arr.size=az (j+b.length)++eS (j+b.length) (arr.size-(j+b.length)):=by
        rw[bA,bA]
        have:=eT (s:=0) (m:=j+b.length) (n:=arr.size-(j+b.length))
        rw[be]at this
        rw[this];congr 1;omega
       rw[e,fe]
       have:(eS (j+b.length) (arr.size-(j+b.length))).countP (λk=> !listed.getD k true)=arr.size-(j+b.length):=by
        rw[List.countP_eq_length.2]
        ·simp
        ·intro k hk
         have:=List.mem_range'_1.1 hk
         simp [V k this.1 zz]
       omega
      ·omega
     omega
   ·have c9: ∃k,k<j+b.length/\listed.getD k true=false/\ ∀i,i<k->listed.getD i true=true:=by
     have: ∀n,(∀k,k<n->listed.getD k true=true)\/ ∃k,k<n/\listed.getD k true=false/\ ∀i,i<k->listed.getD i true=true:=by
      intro n
      induction n with
      |zero=>exact .inl (by intro k hk;omega)
      |succ n d9=>
       rcases d9 with h|⟨k,h1,h2,h3⟩
       ·cases A:listed.getD n true with
        |true=>exact .inl (λk hk=>by
         rcases bs k n with hh|hh
         ·exact h k hh
         ·have:k=n:=zz
          subst this;exact A)
        |false=>exact .inr ⟨n,zz,A,h⟩
       ·exact .inr ⟨k,zz,h2,h3⟩
     rcases this (j+b.length)with h|h
     ·exact absurd h K
     ·exact h
    obtain⟨O,d2,Z,c5⟩:=c9
    have b5:O<arr.size:=by
     rcases bs O arr.size with h|h
     ·exact h
     ·rw[J O zz]at Z;cases Z
    have c2:=hd.isReady G (j:=O) b5 Z c5
    refine⟨λhr=>(by rw[hr]at c2;cases c2),λi hi=>?_⟩
    obtain⟨b4,g,p,hp,y⟩:=hd.ready hi
    have e5:j<=i:=by
     rcases bs i j with h|h
     ·rw[a6 i h]at g;cases g
     ·exact h
    have e6:i<j+b.length:=by
     rcases bs i (j+b.length)with h|h
     ·exact h
     ·have h5:=bn.1 b3 i (bi.2 zz)
      simp only[bm]at h5
      rcases h5 with h5|h5
      ·have:=cB h5
       omega
      ·have h6:=bn.1 h5 O (bi.2 d2)
       have:=(z.add hp y).ND (i:=O) (j:=i) zj h6
       simp only[bm,Z,e9,false_or]at this
       have:=ap this;omega
    obtain⟨d,rfl⟩: ∃d,i=j+d:=⟨i-j,zz⟩
    have c8:d<b.length:=zz
    obtain⟨fi,ki,a3,a4,B⟩: ∃fi ki a3 a4,b[d]? =some (fi,ki,a3,a4):=⟨_,_,_,_,bt c8⟩
    have U:=a7 _ _ _ _ _ B
    obtain⟨W,l,pr,hW,b8,hq,b9,rfl,d7,T⟩:=f5 d fi ki a3 a4 B
    rw[be]at hq b9
    have b0:td P N arr (j+d) l:=by
     obtain⟨l',e1,e2⟩:=a1.get (k:=j+d) (i:=j+d) (by simp [b4])
     rw[<-h3,bk,Pm d _ b8]at e1
     simp only[ew,fx]at e1
     subst e1;exact e2
    have u: ∀t,only fi (dG env (Ws.take d).flatten) t= .any\/only fi (dG env (Ws.take d).flatten) t=dG env (iN (λk=>listed.getD (j+k) true) 0 Ws) t:=by
     intro t
     by_cases a5:only fi (dG env (Ws.take d).flatten) t= .any
     ·exact .inl a5
     ·obtain⟨c3,he⟩:=Mc a5
      refine .inr ?_
      rw[he]
      have e0:(Ws.take d).flatten=iN (λk=>decide (k<0+d)) 0 Ws:=Dj.symm
      rw[e0]
      refine nW rfl (λk W' hk=>?_)
      simp only[be]
      have E:k<b.length:=by
       have:=(an.1 hk).1
       omega
      obtain⟨Y,kk,c0,c1,o⟩: ∃Y kk c0 c1,b[k]? =some (Y,kk,c0,c1):=⟨_,_,_,_,bt E⟩
      have v:=a7 _ _ _ _ _ o
      obtain⟨Wk,_,_,R,_,_,_,rfl,_,_⟩:=f5 k Y kk c0 c1 o
      rw[hk]at R;cases R
      rcases Nat.lt_trichotomy k d with hki|hki|hki
      ·rcases H k d Y _ fi _ hki v U with h1|h1
       ·have:=(z.add hp y).ND (i:=j+k) (j:=j+d) zj h1
        simp only[bm]at this
        rcases this with h|h
        ·exact .inl (by simp [hki,h])
        ·have:=ap h;omega
       ·exact .inr (λhx=>h1.1 t hx c3)
      ·subst hki;exact .inl (by simp [g])
      ·rcases H d k fi _ Y _ hki U v with h1|h1
       ·left
        have b7: ¬k<d:=zz
        simp only[b7,decide_false]
        cases A:listed.getD (j+k) true with
        |false=>rfl
        |true=>
         have:=z.ND (i:=j+d) (j:=j+k) A h1
         simp only[g]at this;cases this
       ·exact .inr (λhx=>h1.2 t hx c3)
    have hK: ∀a' w' S' L',Sat C (dG (dG env (iN (λk=>listed.getD (j+k) true) 0 Ws)) W) (Hs ((listed.setIfInBounds (j+d) true).getD (j+q) true)) D a' w' S' L'->wpAnyIn (Fw r) 0 P .any arr (vM C Q) c (listed.setIfInBounds (j+d) true) a' w':=by
     intro a' w' S' L' X
     have e1:(λk=>(listed.setIfInBounds (j+d) true).getD k true)=(λk=>listed.getD k true||hj k (j+d)):=by
      funext k;rw[ft zz]
     have c4:(λk=>(listed.setIfInBounds (j+d) true).getD (j+k) true)=(λk=>listed.getD (j+k) true||hj k (0+d)):=by
      funext k
      rw[ft zz,be]
      congr 1
      rw[Bool.eq_iff_iff]
      constructor
      ·intro h
       have:=ap h
       have:k=d:=zz
       subst this;exact dl k
      ·intro h
       have:=ap h
       subst this;exact dl _
     refine ih (listed.setIfInBounds (j+d) true) a' w' S' L' (by simpa using G) ?_ ?_ ?_ ?_ ?_
     ·rw[e1];exact z.add hp y
     ·intro k hk
      rw[ft zz,a6 k hk,Bool.true_or]
     ·intro k h1 h2
      rw[ft zz,V k h1 h2,ht]
      cases A:hj k (j+d)with
      |false=>rfl
      |true=>have:=ap A;omega
     ·have:=yp (p:=λk=> !listed.getD k true) (q:=λk=> !(listed.setIfInBounds (j+d) true).getD k true) (i:=j+d) (l:=az arr.size)
       (by intro x hx;rw[ft zz]at hx;simp only[Bool.not_eq_true',Bool.or_eq_false_iff]at hx ⊢;exact hx.1) (bi.2 b4) (by simp only[g,Bool.not_false])
       (by simp only[ft (show j+d<listed.size from zz),dl,hv,Bool.not_true])
      omega
     ·rw[c4,FL hW (by rw[be];exact g)]
      ·exact X
      ·intro k W' hk a8 E x hx d8
       have b6:k<b.length:=by
        have:=(an.1 hk).1
        omega
       obtain⟨Y,kk,c0,c1,o⟩: ∃Y kk c0 c1,b[k]? =some (Y,kk,c0,c1):=⟨_,_,_,_,bt b6⟩
       have v:=a7 _ _ _ _ _ o
       obtain⟨Wk,_,_,R,_,_,_,rfl,d6,_⟩:=f5 k Y kk c0 c1 o
       rw[hk]at R;cases R
       rcases H d k fi _ Y _ a8 U v with h1|h1
       ·rw[be]at E
        have:=z.ND (i:=j+d) (j:=j+k) E h1
        simp only[g]at this;cases this
       ·exact h1.1 x hx (C3 d6 d8)
    by_cases a9:d=q
    ·subst a9
     rw[g]at hs
     refine IC.wpOpIn b0 (b9 rfl) T u hN hs (λa' w' S' L' X=>hK a' w' S' L' ?_)
     rw[ft zz,dl,hv]
     exact X
    ·have b2:(listed.setIfInBounds (j+d) true).getD (j+q) true=listed.getD (j+q) true:=by
      rw[ft zz]
      cases A:hj (j+q) (j+d)with
      |false=>rw[Bool.or_false]
      |true=>have:=ap A;omega
     obtain⟨g0,g1⟩:=c' d fi _ a3 a4 B a9
     obtain⟨q0,q1⟩:=hq a9
     rw[b2]at hK
     cases A:listed.getD (j+q) true with
     |false=>
      rw[A]at hs hK
      rcases g0 with g0|g0
      ·exact jm.wpOpIn b0 (q0 g0) T u hN hs hK
      ·have:=(z.add hp y).ND (i:=j+q) (j:=j+d) zj g0
       simp only[A,ht]at this
       have:=ap this;omega
     |true=>
      rw[A]at hs hK
      rcases g1 with g1|g1
      ·exact jm.wpOpIn b0 (q1 g1) T u hN hs hK
      ·have:=z.ND (i:=j+d) (j:=j+q) A g1
       simp only[g]at this;cases this
 refine key c listed a w S L G ?_ (λk hk=>?_) (λk h1 h2=>?_) ?_ ?_
 ·intro k p' hk X q hq
  have d3:k<arr.size:=by
   have:=(an.1 hk).1
   rw[bI]at this;omega
  have e8:=(hl k d3).1 X
  have:=mN A k p' hk q hq
  exact(hl q zz).2 zz
 ·by_cases F:k<arr.size
  ·exact(hl k F).2 hk
  ·simp [hn,show ¬k<listed.size from zz]
 ·cases hx:listed.getD k true with
  |false=>rfl
  |true=>have:=(hl k h2).1 hx;omega
 ·have:(az arr.size).countP (λk=> !listed.getD k true)<=arr.size-j:=by
   by_cases d4:j<=arr.size
   ·have e:az arr.size=az j++eS j (arr.size-j):=by
     rw[bA,bA]
     have:=eT (s:=0) (m:=j) (n:=arr.size-j)
     rw[be]at this
     rw[this];congr 1;omega
    rw[e,fe]
    have h0:(az j).countP (λk=> !listed.getD k true)=0:=by
     rw[de]
     intro k hk
     have:=bi.1 hk
     simp [(hl k zz).2 this]
    have:=List.countP_le_length (p:=λk=> !listed.getD k true) (l:=eS j (arr.size-j))
    simp only[List.length_range']at this
    omega
   ·have h0:(az arr.size).countP (λk=> !listed.getD k true)=0:=by
     rw[de]
     intro k hk
     have:=bi.1 hk
     simp [(hl k this).2 zz]
    omega
  omega
 ·have e:dG env (iN (λk=>listed.getD (j+k) true) 0 Ws)=env:=by
   funext t
   have:dG env (iN (λk=>listed.getD (j+k) true) 0 Ws) t=dG env (iN (λ_=>false) 0 Ws) t:=by
    refine nW rfl (λk W hk=>.inl ?_)
    have E:=(an.1 hk).1
    rw[be]
    have d0:j+k<arr.size:=zz
    cases hx:listed.getD (j+k) true with
    |false=>rfl
    |true=>have:=(hl _ d0).1 hx;omega
   rw[this,ue (λ_=>rfl)]
   rfl
  have e2:Hs (listed.getD (j+q) true)=Hs false:=by
   cases hx:listed.getD (j+q) true with
   |false=>rfl
   |true=>
    rcases b' with h|h
    ·have d1:j+q<arr.size:=zz
     have:=(hl _ d1).1 hx;omega
    ·exact h.symm
  rw[e,e2]
  exact hs
theorem gp.chain {j n:Nat}{b:List (aH×List Nat)}{a:List (List Nat×List Nat)}{env':Env}(hA:(ops.drop j).take n=b)(f:vE P r N H D env b a [] env')(g:ko 0 (ops.map (·.2))=true)
  (d:Sf (mU [] (ops.map (·.2))) (j+a.length) ops.length=true) (c:B4 (mU [] (ops.map (·.2))) j a=true) (hk:gp P r N ops (j+a.length) Q env' H D):gp P r N ops j Q env H D:=by
 have e:qQ (a.map λx=>(x.1,x.2,true,true))=a:=by
  unfold qQ;rw[List.map_map];exact List.map_id' _
 refine gp.Fo (Hs:=λ_=>H) (q:=b.length) hA (f.toG 0 zz) g (by rw[bI];exact d) (by rw[e];exact c) ?_ (.inr rfl) (by rw[bI];exact hk)
 refine bn.2 λi hi=>?_
 rw[bi,bI]at hi
 rw[bk,bt hi]
 simp
theorem gp.end {j:Nat}(a:(ko 0 (ops.map (·.2))&&hE ops.length j)=true)(k:Q .normal env H D):gp P r N ops j Q env H D:=by simp only[ej]at a;exact gp.nil a.1 (cB a.2) k
theorem aJ.HN (hm:P.follows .mixedOrders=true)(h:gp P r N ops 0 Q env H D):aJ P r N (.iP ops) Q env H D:=by
 intro c hc C a w S L e hs;generalize b:bN.iP ops=lc at hc;cases hc with
 | @iP id arr ls d=>simp only[bN.iP.injEq]at b;refine wpIn_region_any hm ?_;refine h arr ls d b C a {w with drawn:=w.drawn+1} S L e (hs.grow ⟨rfl,rfl,rfl,ds _,λ_ _=>rfl⟩) arr.size (et arr.size false) zj (λk hk=>?_) zz;simp [dk,hk]
 |_=>cases b
end
section
variable {r:Option Nat}{N:Nat}{env:Env}{D:List Nat}{dst:Option Nat}{K:Env->Heap->List Nat->Prop}
theorem CH {T E:Nat}(b:P.underlying T=some (.slice E))(d:Nat)(a:Option Addr)(n c:Nat)(w:World):(hC (d+1) T (.slice a n c) (.slice none 0 0)).run P w= .ok a.isNone w:=by cases a<;>simp [hC,underlying,b,Result.andThen]
theorem aF.W7 {T E:Nat}(s:P.underlying T=some (.slice E))(t:P.eqGuardType P.depth T=false)(hx:bu env x= .sl kk es)(hy:bu env y= .nil)
  (k: ∀b:Bool,(b=true->es=[])->K (ct env dst (.v (.bool b))) H D):aF P r N (.nI false T x y) dst env H D K:=by
 intro o g hd i C a w S L u hs next Q c
 have f:=hs.cY y hy rfl
 simp only[aR]at f
 have l:=hs.cY x hx rfl
 simp only[aR]at l
 have key: ∃b:Bool,(b=true->es=[])/\(execOp a.eval o).run P w= .ok (.value (.bool b)) w:=by
  cases i with
  |nI j z=>
   rcases l with⟨⟨m,q⟩,he⟩|⟨bb,off,cap,q,_⟩
   ·refine⟨m.isNone,λ_=>he,?_⟩
    have he:(hD T (.slice m 0 0) (.slice none 0 0)).run P w= .ok m.isNone w:=CH s 9999 m 0 0 w
    simp [execOp,j,q,f,eqGuard,binOp,he]
   ·refine⟨false,(λh=>by cases h),?_⟩
    have he:(hD T (.slice (some ⟨bb,off,none⟩) es.length cap) (.slice none 0 0)).run P w= .ok false w:=CH s 9999 (some ⟨bb,off,none⟩) es.length cap w
    simp [execOp,j,q,f,eqGuard,binOp,he]
 obtain⟨b,A,df⟩:=key
 obtain⟨B,n⟩:=hs.lA (dst:=dst) (λd e=>u▸hd d e) (p:=.v (.bool b)) (y:=.bool b) rfl (by simp [aR])
 exact Oper.bO i zj df (by rw[g];exact c _ _ _ _ _ _ _ (k b A) n (aE.Le.refl _))
end
variable {a:Act}{w w':World}{L:Nat->Option Nat}{rs:List ResultVar}{C:Ctx}{ls:List aH}{dst:Option Nat}{ps qs:List AV}{lc:bN}{N:Nat}{K:Env->Heap->List Nat->Prop}{H0 Hin:Heap}
inductive Out where
 |ret (p:AV)
 |Wx (ch:List PanicEntry)
def J9 (S:aE)(w:World)(Hin:Heap)(R:Out->Heap->Prop):Ending->World->Prop:=λe w'=> ∃c a,S.Le c/\c.In w'/\(∀b,c.has b->S.has b\/AH w Hin b)/\
 eI (AH w Hin) w w'/\(∀e∈a,Own (AH w Hin) c w' e.1 e.2)/\(a.map (·.1)).Nodup/\
 ((∃v g res,e= .returned v/\R (.ret res) a/\bF (AH w Hin) c w' g res v/\ ∀b,g=some b->b ∉ a.map (·.1))\/(∃ch,e= .panicked ch/\R (.Wx ch) a))
def Y3 (P:Program)(f:FuncId)(args:List AV)(Hin:Heap)(R:Out->Heap->Prop):Prop:=
 vd P f/\ ∀(S:aE) (w:World) (a:List Value),sN S w->S.In w->aS S args a->(∀e∈Hin,Own (λ_=>True) S w e.1 e.2)->(Hin.map (·.1)).Nodup->
  Calls P f a.toArray w (J9 S w Hin R)
section
variable {r:Option Nat}{env:Env}{D:List Nat}
def X0 (P:Program)(rs:List ResultVar)(R:Out->Heap->Prop):cI:=λe env H D=>match e with
 | .normal| .ret=> ∃H' res a,uV H D H'/\kW P env H' rs res/\R (.ret res) a/\a.Sublist H'
 | .panic ch=>D=[]/\ ∃a,R (.Wx ch) a/\a.Sublist H
 |_=>False
theorem Y3.intro {R:Out->Heap->Prop}(ok:rY P f N rs lc)(h:aJ P none N lc (X0 P rs R) (dA args) Hin []):Y3 P f args Hin R:=by
 obtain⟨fn,K,T,hN,H,s⟩:=ok.fn;obtain⟨c,B,s⟩:=Option.bind_eq_some_iff.1 s;refine⟨⟨fn,K,T,by rw[B];rfl⟩,?_⟩;intro S w D q r o k U;rw[<-callsIn_wide (n:=0)];refine callsIn_of_wp_marks K B trivial ?_;let C:Ctx:={A:=AH w Hin,w0:=w,S0:=S,F:=[],N:=N,hA:=λ_ h=>.inl h,hg:=q,Pm:=q.apart r k,TH:=λb B=>r.lt (q.1 b B)}
 have hs:Sat C (dA args) Hin [] {tmps:=D.toArray++et (fn.ntmps-D.toArray.size) undef,defers:=[]} w S (λ_=>none):=by
  refine
   {size:=?_,uj:=rfl,le:=aE.Le.refl S,sin:=r,ka:=λ_ h=>.inl h,below:=eI.refl _ _,env:=?_,heap:=?_,frame:=by simp [C],nodup:=zx,aI:=zj,gk:=by simp}
  ·grind
  ·intro t
   have x:(dA args t)= .any\/ ∃p,args[t]? =some p/\dA args t=p:=by
    unfold dA;cases h:args[t]? with
    |none=>exact .inl rfl
    |some p=>exact .inr ⟨p,rfl,rfl⟩
   rcases x with he|⟨p,V,he⟩
   ·rw[he];exact bF.dC rfl (by simp [aR])
   ·obtain⟨c,hc,L⟩:=o.get V;have G:=iD hc;have X:(D.toArray++et (fn.ntmps-D.toArray.size) undef).getD t undef=c:=by rw[dk,Array.getElem?_append_left (by simpa using G)];simp [hc]
    rw[he,X];exact bF.dC L.jP L
  ·intro e he;exact(k e he).gn (λ_=>.inr (hz.2 ⟨e,he,rfl⟩))
 refine wpIn_mono (h c (db s) C _ w S _ rfl hs) ?_;rintro e u w' ⟨env',H',I,J,Z,j,he⟩;have sub: ∀{a:Heap},a.Sublist H'->(a.map (·.1)).Nodup:=by intro a d;have:=j.nodup;rw[eu,dn]at this;exact kB d this.1
 have fin:(∃z res a,uV H' I z/\kW P env' z rs res/\R (.ret res) a/\a.Sublist z)->LeavesInM fb 0 P fn u.tmps (J9 S w Hin R) u.defers .returning w':=by
  rintro⟨z,res,a,Q,m,E,d⟩;rw[<-H]at m;refine tS rfl I Q m j (λv g M Y i y hg=>⟨J,a,i.le,i.sin,i.ka,i.below,λe he=>i.heap e (d.subset he),?_,.inl ⟨v,g,res,rfl,E,y,?_⟩⟩)
  ·have:=i.nodup;rw[eu,dn]at this;exact kB d this.1
  ·intro b e hm;obtain⟨t,W⟩:=hg b e;refine i.aI t b W ?_;rw[eu,hb];exact .inl ((d.map _).subset hm)
 cases e with
 |normal=>exact fin he
 |ret=>exact fin he
 |panic ch=>obtain⟨rfl,a,E,d⟩:=he;show LeavesInM fb 0 P fn u.tmps (J9 S w Hin R) u.defers (.panicking ch) w';have O:u.defers=[]:=j.uj;rw[O];exact⟨J,a,j.le,j.sin,j.ka,j.below,λe he=>j.heap e (d.subset he),sub d,.inr ⟨ch,rfl,E⟩⟩
 |exit id=>exact he.elim
 |goto l=>exact he.elim
 |outgrown=>exact he.elim
theorem aT.Wl {l:jM}(h:mS P r N l dst env H D (λenv' H' c=>aT P r N ls Q env' H' c) (λch env' H' c=>Q (.panic ch) env' H' c)):aT P r N (⟨dst,none,l⟩::ls) Q env H D:=by
 intro arr is hm C a w S L p hs;cases is with
 |nil=>cases hm
 |cons i is=>
  obtain⟨t,ls',e,q,n⟩:=hm;cases e;obtain⟨o,s,d,hd,m,hg⟩:=q.at_
  have j:o.guard=none:=zx
  simp only[wpOpsIn,s,fF j,if_true];exact h o d hd m C a w S L p hs _ _ (λenv' H' c y w' g f k b _=>k arr is n C _ w' g f p b) (λch env' H' c w' g f k b=>⟨env',H',c,g,f,b,k⟩)
theorem Sat.Fm (hs:Sat C env (Hin++H0) D a w S L)(hd: ∀d,dst=some d->d<C.N){R:Out->Heap->Prop}{e:Ending}(h:J9 S w Hin R e w'):
  (∃v res c k j,e= .returned v/\R (.ret res) c/\Sat C (ct env dst res) (c++H0) D (a.put dst v) w' k j/\S.Le k)\/(∃ch c k j,e= .panicked ch/\R (.Wx ch) c/\Sat C env (c++H0) D a w' k j):=by
 obtain⟨k,c,l,n,i,f,r,o,s⟩:=h
 rcases s with⟨v,g,res,rfl,q,t,hg⟩|⟨ch,rfl,q⟩
 ·obtain⟨j,m⟩:=hs.tG (dst:=dst) hd l n i f t r o hg
  exact .inl ⟨v,res,c,k,j,rfl,q,m,l⟩
 ·obtain⟨j,m⟩:=hs.tG (dst:=none) (p:=.any) (v:=undef) (g:=none) (λd e=>by cases e) l n i f (bF.dC rfl (by simp [aR])) r o (λb e=>by cases e)
  exact .inr ⟨ch,c,k,j,rfl,q,m⟩
theorem mS.call {args:List Operand}{R:Out->Heap->Prop}{t:List PanicEntry->Env->Heap->List Nat->Prop}(g:Y3 P f qs Hin R)(q:args.map (bu env)=ps)
  (x:ps.all (λp=> !p.bC)=true) (j:oL ps qs) (B:H=Hin++H0) (k: ∀res b,R (.ret res) b->K (ct env dst res) (b++H0) D) (T: ∀ch b,R (.Wx ch) b->t ch env (b++H0) D):mS P r N (.call f args ty) dst env H D K t:=by
 subst B
 intro o u hd m C a w S L E hs next Q n y
 have l: ∀p∈ps,p.bC=false:=λp O=>zx
 have c:=j S _ (hs.sj args q l)
 cases m with
 |call i I M G=>
  rename_i xs U fn
  refine⟨λ_ _=>trivial,?_⟩
  show o.uponIn (Fw r) 0 P a next Q ((o.semAt r a.eval).run P w)
  have df:(execOp a.eval o).run P w= .ok (.enter f (xs.map a.eval)) w:=by simp [execOp,i,resolve,fD,Act.eval,invoke,dI g.1]
  rw[Lo.semAt (.call i I M G) zj,df,fv]
  refine⟨λhd=>by simp [Fw,fb]at hd,?_⟩
  have h:=g.2 S w _ hs.gl hs.sin c hs.kX.1 hs.kX.2
  have e:(List.map a.eval xs.toList).toArray=xs.map a.eval:=zx
  rw[e]at h
  refine(sz h r).mono ?_
  intro e w' he
  rcases hs.Fm (dst:=dst) (λd e=>E▸hd d e) he with⟨v,res,b,A,z,rfl,F,s,J⟩|⟨ch,b,A,z,rfl,F,s⟩
  ·grind
  ·grind
theorem mS.fP {args:List Operand}{first c:List AV}{R:Out->Heap->Prop}{B:List PanicEntry->Env->Heap->List Nat->Prop}(hx:bu env x= .fn (.func f) first c)
  (h:Y3 P f qs Hin R) (y:args.map (bu env)=ps) (F:ps.all (λp=> !p.bC)=true) (j:oL (first++ps++c) qs) (M:H=Hin++H0) (k: ∀res b,R (.ret res) b->K (ct env dst res) (b++H0) D)
  (W: ∀ch b,R (.Wx ch) b->B ch env (b++H0) D):mS P r N (.fP x args ty) dst env H D K B:=by
 subst M
 intro o E hd t C a w S L O hs next Q u G
 have s: ∀p∈ps,p.bC=false:=λp V=>zx
 have l:=hs.cY x hx rfl
 simp only[aR]at l
 obtain⟨m,cs,A,q,n⟩:=l
 have g:=j S _ ((q.append (hs.sj args y s)).append n)
 cases t with
 |fP i=>
  rename_i xs X
  have e:m.toArray++xs.map a.eval++cs.toArray=(m++xs.toList.map a.eval++cs).toArray:=zx
  refine⟨λ_ _=>trivial,?_⟩
  show o.uponIn (Fw r) 0 P a next Q ((o.semAt r a.eval).run P w)
  have df:(execOp a.eval o).run P w= .ok (.enter f (m++xs.toList.map a.eval++cs).toArray) w:=by simp [execOp,i,resolve,fD,A,invoke,dI h.1]
  rw[Lo.semAt (Lo.fP (P:=P) i) zj,df,fv]
  refine⟨λhd=>by simp [Fw,fb]at hd,?_⟩
  refine(sz (h.2 S w _ hs.gl hs.sin g hs.kX.1 hs.kX.2) r).mono ?_
  intro e w' he
  rcases hs.Fm (dst:=dst) (λd e=>O▸hd d e) he with⟨v,res,b,J,I,rfl,T,z,U⟩|⟨ch,b,J,I,rfl,T,z⟩
  ·grind
  ·grind
theorem mS.panic {y:Value}{g:List PanicEntry->Env->Heap->List Nat->Prop}(hx:bu env x= .v (.iface T y))(i:g [{v:=.iface T y,recovered:=false}] env H D):mS P r N (.panic x) dst env H D K g:=by
 intro o h hd e C a w S L j hs next Q f c
 have d:=hs.cY x hx rfl;simp only[aR]at d;cases e with
 |panic b=>
  refine⟨λ_ _=>trivial,?_⟩;show o.uponIn (Fw r) 0 P a next Q ((o.semAt r a.eval).run P w)
  have df:(execOp a.eval o).run P w= .halt (.panic (.iface T y)) w:=by simp [execOp,b,d,Instr.panic]
  rw[Lo.semAt (Lo.panic (P:=P) b) zj,df,Oper.uponIn_panic];exact c _ _ _ _ _ _ _ i hs
end
variable {p:AV}{j k:Nat}
def Ww:Option (Nat×Nat)->Option Addr|none=>none|some g=>some ⟨g.1,0,none⟩
def FT:Option (Nat×Nat)->Nat|none=>0|some g=>g.2
abbrev yt (y:Option (Nat×Nat))(n:Nat):AV:=.v (.slice (Ww y) n (FT y))
def xg (y:Option (Nat×Nat))(T k:Nat)(es:List (List AV)):Heap:=match y with|none=>[]|some g=>[(g.1,.arr T k g.2 es)]
section
variable {r:Option Nat}{env:Env}{D:List Nat}
theorem DM {α:Type}(l:List α)(x:α):(l++[x]).eraseIdx l.length=l:=by rw[List.eraseIdx_append_of_length_le (ds _),hB];simp
theorem bB.Mx {T:Nat}{y:Option (Nat×Nat)}(j:env t=yt y n)(o:n=es.length)(hy:y=none->es=[]):bB env (H++xg y T k es) D (dK env t (.aI T k es)) H D:=by
 subst o;cases y with
 |none=>
  rw[hy rfl]at j ⊢;intro C a w S L hs;have hs:Sat C env H D a w S L:=by simpa [xg]using hs
  have c:=hs.rep j rfl;simp only[aR]at c;exact⟨_,_,aE.Le.refl _,hs.oB (t:=t) (p:=.aI T k []) (g:=none) (by simp only[bF];exact .inl ⟨c,trivial,trivial⟩) (λ_ e=>by cases e)⟩
 |some g=>obtain⟨b,cap⟩:=g;intro C a w S L hs;have c:=hs.rep j rfl;simp only[aR,Ww,FT]at c;have h:Sat C (dK env t (.so b es.length cap)) (H++xg (some (b,cap)) T k es) D a w S (gV L t none):=hs.oB (t:=t) (p:=.so b es.length cap) (g:=none) (by simp only[bF,aR];exact⟨trivial,c⟩) (λ_ e=>by cases e);obtain⟨m,l,f,d⟩:=bB.jT (i:=H.length) (t:=t) (b:=b) (T:=T) (kk:=k) (cap:=cap) (es:=es) (bw _ _ _) (by simp [xg]) C a w S _ h;rw[dX]at d;have e:(H++xg (some (b,cap)) T k es).eraseIdx H.length=H:=DM _ _;rw[e]at d;exact⟨m,l,f,d⟩
theorem aT.Qw {T:Nat}(i:env t= .aI T k es)
  (h: ∀y,(y=none->es=[])->aT P r N ls Q (dK env t (yt y es.length)) (H++xg y T k es) D):aT P r N ls Q env H D:=by
 refine aT.share i (λe=>?_) (λb cap=>?_)
 ·have d:=h none (λ_=>e)
  rw[e]at d
  have f:H++xg none T k []=H:=by simp [xg]
  rw[f]at d
  refine aT.lr ?_ d
  intro C a w S L hs
  have c:=hs.rep (t:=t) (bw _ _ _) rfl
  simp only[aR]at c
  have:=hs.oB (t:=t) (p:=yt none (([]:List (List AV)).length)) (g:=none) (by simp only[bF,aR,Ww,FT];exact⟨trivial,c⟩) (λ_ e=>by cases e)
  rw[dX]at this
  exact⟨S,_,aE.Le.refl _,this⟩
 ·refine aT.lr ?_ (h (some (b,cap)) (λe=>by cases e))
  intro C a w S L hs
  have c:=hs.rep (t:=t) (bw _ _ _) rfl
  simp only[aR]at c
  have:=hs.oB (t:=t) (p:=yt (some (b,cap)) es.length) (g:=none) (by simp only[bF,aR,Ww,FT];exact⟨trivial,c⟩) (λ_ e=>by cases e)
  rw[dX]at this
  exact⟨S,_,aE.Le.refl _,this.DG (List.perm_append_comm (l₁:=[_]))⟩
theorem Hg: ∀(l:List AV),fN ez l l
 |[]=>trivial
 |p::l=>⟨ez.refl p,Hg l⟩
theorem wA (b:List AV)(a:ez p q): ∀(l:List AV),fN ez (l++p::b) (l++q::b)
 |[]=>⟨a,Hg _⟩
 |x::l=>⟨ez.refl x,wA b a l⟩
theorem bB.nv {bo To:Nat}(c1 a:List AV)(q:AV)(b:H[j]? =some (bo,.cells To (c1++p::a)))(h:ez p q):bB env H D env (H.set j (bo,.cells To (c1++q::a))) D:=
 bB.vF _ b (wA a h c1)
theorem bB.Ma {bo To T:Nat}{y:Option (Nat×Nat)}(c1 a:List AV)(m:H[j]? =some (bo,.cells To cs))(hc:cs=c1++yt y n::a)(u:n=es.length)(hy:y=none->es=[]):
  bB env (H++xg y T k es) D env (H.set j (bo,.cells To (c1++.sl k es::a))) D:=by
 subst u hc
 have f:j<H.length:=(an.1 m).1
 cases y with
 |none=>
  rw[hy rfl]at m ⊢
  have e:H++xg none T k ([]:List (List AV))=H:=by simp [xg]
  rw[e]
  refine bB.vF _ m (wA a ?_ c1)
  intro S v h
  simp only[aR,Ww,FT]at h ⊢
  exact .inl ⟨⟨none,h⟩,trivial⟩
 |some g=>
  obtain⟨b,cap⟩:=g
  have c: ∀(l:List AV),fN (O0 b es.length cap k es) l l:=by
   intro l
   induction l with
   |nil=>trivial
   |cons p l o=>exact⟨.inl rfl,o⟩
  have d: ∀(l:List AV),fN (O0 b es.length cap k es) (l++.so b es.length cap::a) (l++.sl k es::a):=by
   intro l
   induction l with
   |nil=>exact⟨.inr ⟨rfl,rfl⟩,c _⟩
   |cons x l o=>exact⟨.inl rfl,o⟩
  have w:(H++xg (some (b,cap)) T k es).eraseIdx H.length=H:=DM _ _
  have q:bB env (H++xg (some (b,cap)) T k es) D env ((H++xg (some (b,cap)) T k es).set j (bo,.cells To (c1++.so b es.length cap::a))) D:=by
   refine bB.vF _ (by rw[List.getElem?_append_left f];exact m) (wA a ?_ c1)
   intro S v h
   simpa only[aR,Ww,FT]using h
  have s:(H++xg (some (b,cap)) T k es).set j (bo,.cells To (c1++.so b es.length cap::a))=H.set j (bo,.cells To (c1++.so b es.length cap::a))++xg (some (b,cap)) T k es:=List.set_append_left _ _ f
  rw[s]at q
  have t:(H.set j (bo,.cells To (c1++.so b es.length cap::a))++xg (some (b,cap)) T k es).eraseIdx H.length=H.set j (bo,.cells To (c1++.so b es.length cap::a)):=zx
  have r:=bB.mF (env:=env) (D:=D) (H:=H.set j (bo,.cells To (c1++.so b es.length cap::a))++xg (some (b,cap)) T k es) (i:=H.length) (j:=j) (b:=b) (T:=T) (kk:=k) (cap:=cap) (es:=es) (bo:=bo) (To:=To) (c1++.sl k es::a)
   (by rw[List.getElem?_append_right zj];simp [xg]) zx (d c1)
  rw[t,List.set_set]at r
  exact q.trans r
theorem lB.fn {fn:Fn}{first c b:List AV}(h:fN (lB env H) c b):lB env H (.fn fn first c) (.fn fn first b):=by intro C D a w S L hs v d;simp only[aR]at d ⊢;obtain⟨e,cs,i,f,g⟩:=d;exact⟨e,cs,i,aS.mono hs.sin.kg _ _ f,T7 hs h g⟩
end
section
variable {r:Option Nat}{env:Env}{D:List Nat}{c:Operand}{x y:bN}
theorem aJ.itt {b:Bool}(hc:bu env c= .v (.bool b))(a:b=true)(h:aJ P r N x Q env H D):aJ P r N (.ite c x y) Q env H D:=
 aJ.ite hc (λ_=>h) (λe=>zx)
theorem aJ.itf {b:Bool}(hc:bu env c= .v (.bool b))(a:b=false)(h:aJ P r N y Q env H D):aJ P r N (.ite c x y) Q env H D:=
 aJ.ite hc (λe=>zx) (λ_=>h)
theorem aJ.its {b:Bool}(hc:bu env c= .v (.bool b))(a:b=false)(h:Q .normal env H D):aJ P r N (.ite c x .skip) Q env H D:=aJ.itf hc a (aJ.skip h)
end
section
variable {r:Option Nat}{env:Env}{D:List Nat}
theorem aF.aau {es:List (Value×AV)}(hx:bu env x= .mi es)(k:K (ct env dst (.v (.int .i64 es.length))) H D):aF P r N (.It T ty x) dst env H D K:=by
 intro o g hd m C a w S L s hs next Q f
 have c:=hs.cY x hx rfl;simp only[aR]at c;obtain⟨b,bL,l,c,h,hm,t⟩:=c;have j:=hs.sin.map _ _ h;have hl:bL.size=es.length:=by have:=hm.get.1;simpa using this.symm
 obtain⟨u,n⟩:=hs.lA (dst:=dst) (λd e=>s▸hd d e) (p:=.v (.int .i64 es.length)) (y:=.int .i64 es.length) rfl (by simp only[aR]);cases m with
 |It i q=>refine Oper.bO (.It i q) zj (y:=.int .i64 es.length) (w':=w) ?_ (by rw[g];exact f _ _ _ _ _ _ _ k n (aE.Le.refl _));simp [execOp,i,resolve,invoke,builtin,Builtin.len_,underlying,q,c,goInt,getObj,j,Sem.run,hl]
theorem lB.slc {T:Nat}(g:H[i]? =some (b,.cells T cs))(k:n*kk<=cs.length)(hm:n<=maxLen):lB env H (.v (.slice (some ⟨b,0,none⟩) n n)) (.sl kk (chunk kk n cs)):=by
 intro C D a w S L hs v r;simp only[aR]at r ⊢;obtain⟨l,d,m,f⟩:=(hs.at_ g).row
 have e:eO (aE.gZ w) cs b 0:=mO (aS.mono hs.sin.kg _ _ m) f (λj c h=>by
  show w.cell? ⟨b,0+j,none⟩=some c
  rw[be,cell_of_row w b _ _ _ _ d];simpa using h)
 exact .inr ⟨b,0,n,by rw[r,fB],by rw[fB];exact ds _,hm,vh k e⟩
end
variable {ys:List (List AV)}
section
variable {r:Option Nat}{env:Env}{D:List Nat}
theorem aF.WL {U E:TypeId}{p:Nat}(hx:bu env x= .so b es.length cap)(B:H[i]? =some (b,.arr p kk cap es))(hy:bu env y= .sl kk ys)(c:ys.length=es.length)
  (k:K (ct env dst (.v (.int .i64 es.length))) (H.set i (b,.arr p kk cap ys)) D):aF P r N (.copy T U ty x y E kk) dst env H D K:=by
 intro o q hd s C a w S L hN hs next Q h
 obtain⟨cur,f,c1,c2,c3,c4,c5,c6⟩:=(hs.at_ B).arr
 have Y:=hs.cY x hx rfl
 simp only[aR]at Y
 have a0:=hs.cY y hy rfl
 generalize u:kk=one at s
 cases s with
 |copy z G J=>
  rename_i j
  have X:j.size=kk:=u.symm
  have fin: ∀(w':World),(bx #[T,U] o.type #[a.eval x,a.eval y]).run P w= .ok (goInt es.length) w'->
    (∃L',Sat C (ct env dst (.v (.int .i64 es.length))) (H.set i (b,.arr p kk cap ys)) D (a.put dst (goInt es.length)) w' S L')->o.wpIn (Fw r) 0 P a w next Q:=by
   rintro w' df ⟨L',R⟩
   refine Oper.bO (.copy z G J) zj (y:=goInt es.length) (w':=w') ?_ (by rw[q];exact h _ _ _ _ _ _ _ k R (aE.Le.refl _))
   simp [execOp,z,resolve,invoke,builtin,df]
  rcases Au hs.sin a0 with⟨⟨F,m⟩,rfl⟩|⟨ad,cp,news,m,l,O,M,t,Z⟩
  ·have I:es=[]:=by
    rw[gx]at c
    exact List.length_eq_zero_iff.1 c.symm
   subst I
   have A:H.set i (b,.arr p kk cap [])=H:=by
    apply fu
    intro n
    rw[cc]
    split
    ·rename_i e;subst e
     rw[B,if_pos (iD B)]
    ·rfl
   rw[A]at fin
   refine fin w ?_ ?_
   ·rw[Y,m]
    have hl: ∀(x:Addr),(loadCells x 0).run P w= .ok #[] w:=λx=>by simpa using run_loadCells_list (P:=P) w x [] zj
    cases F<;>simp [bx,run_underlying G,ec,cb,sizeOf,typeInfo,J,storeCells,hl]
   ·exact hs.lA (dst:=dst) (λd e=>hN▸hd d e) rfl (by simp [aR,goInt])
  ·have Zj:cur.length=news.length+(cur.length-news.length):=by have:=Nat.mul_le_mul_right kk c2;rw[l,c];omega
   have hl:=run_loadCells_list (P:=P) w ad news M
   have W:=run_storeCells_at P b 0 p news 0 cur.toArray w f (by simp;omega) t
   have df:(bx #[T,U] o.type #[a.eval x,a.eval y]).run P w= .ok (goInt es.length) (w.setRow b (cur.toArray.toList.take 0++news++cur.toArray.toList.drop (0+news.length)).toArray):=by
    rw[Y,m]
    rw[l,c]at hl
    simp [bx,run_underlying G,ec,cb,sizeOf,typeInfo,J,X,c,hl]
    simpa using congrArg (λx=>x.andThen λ_ w'=>Result.ok (goInt es.length) w') W
   have V:=hs.replace B (y:=.arr p kk cap ys) (w':=w.setRow b (cur.toArray.toList.take 0++news++cur.toArray.toList.drop (0+news.length)).toArray)
    (setRow_heap w b _ _ _ _ f)
    (by
      have e1:(([]:List Value)++news++cur.drop news.length).take (ys.length*kk)=news:=by
       rw[List.nil_append,List.take_append,List.take_of_length_le zz,l,hB,eU,List.append_nil]
      refine⟨_,rfl,?_,by rw[c];exact c2,c3,Z,?_,?_⟩
      ·simp;omega
      ·simp only[eU,be]
       rw[e1];exact O
      ·simp only[eU,be]
       rw[e1];exact t)
    (setRow_size _ _ _) (λg hg=>setRow_other w b g _ hg) rfl rfl rfl
   refine fin _ df ?_
   exact V.lA (dst:=dst) (λd e=>hN▸hd d e) rfl (by simp [aR,goInt])
theorem aF.ZF {U E:TypeId}(hx:bu env x= .nil)(hy:bu env y= .sl kk [])
  (k:K (ct env dst (.v (.int .i64 0))) H D):aF P r N (.copy T U ty x y E kk) dst env H D K:=by
 intro o g hd h C a w S L z hs next Q c
 have t:=hs.cY x hx rfl
 simp only[aR]at t
 have l:=hs.cY y hy rfl
 generalize u:kk=one at h
 cases h with
 |copy i n q=>
  rename_i j
  have df:(bx #[T,U] o.type #[a.eval x,a.eval y]).run P w= .ok (goInt 0) w:=by
   have hl: ∀(x:Addr),(loadCells x 0).run P w= .ok #[] w:=λx=>by simpa using run_loadCells_list (P:=P) w x [] zj
   simp only[aR,gE,gx]at l
   rcases l with⟨⟨m,f⟩,_⟩|⟨b,off,cap,f,_⟩
   ·rw[t,f]
    cases m<;>simp [bx,run_underlying n,ec,cb,sizeOf,typeInfo,q,hl]
   ·rw[t,f]
    simp [bx,run_underlying n,ec,cb,sizeOf,typeInfo,q,hl]
  obtain⟨A,s⟩:=hs.lA (dst:=dst) (p:=.v (.int .i64 0)) (y:=goInt 0) (λd e=>z▸hd d e) rfl (by simp [aR,goInt])
  refine Oper.bO (.copy i n q) zj (y:=goInt 0) (w':=w) ?_ (by rw[g];exact c _ _ _ _ _ _ _ k s (aE.Le.refl _))
  simp [execOp,i,resolve,invoke,builtin,df]
end
end Go.Px
