/- Part 3 of the proof of a statement of this seat (a logic of pure contracts; the functions; their contracts). No conditions. -/
import Derived.Test.YtjjmmbcmdheooaaGreatDoorA2
import Derived.Laws.OwnMore
import Derived.RangeFuncLeaves
import Derived.OrdersIn
open Array renaming replicate->eT,range->fe
open Bool renaming false_eq_true->ej
open Decidable renaming not_not->bt,byContradiction->e4
open Go.Builtin renaming append_->bs,firstCells->cr,zeroCells->cA,lenOf->ea
open Go.Deferred renaming ofValue->ey
open Go.Fence renaming wide->ek
open Go.Frame renaming atR->fk
open Go.Instr renaming buildSlice->eM
open Go.Result renaming andThen_ok->eu
open Go.RowKit renaming Below->ew
open Go.RowKit.Below renaming refl->fj
open Go.Sem renaming run_bind->e9,run_pure->fb
open Go.StepsIn renaming trans->e5
open Go.stepG renaming exec->ff
open List renaming mem_append->an,length_append->ap,replicate->be,map_append->bm,mem_map->bn,append_assoc->bx,mem_cons->bA,eq_nil_of_length_eq_zero->bI,nodup_append->cB,map_cons->cR,length_take->c8,take_of_length_le->de,append_nil->dk,mem_of_mem_take->dl,flatten_append->dn,length_flatten->ds,size_toArray->en,map_toArray->eP,take_length->eS,length_nil->eU,range->e2,take_left->e3,map_nil->e6
open Nat renaming lt_of_lt_of_le->bi,le_refl->cb,mul_le_mul_right->cc,add_mul->cD,lt_irrefl->ec,le_of_eq->er,le_trans->et,zero_add->e7,zero_mul->e8,beq->fu
open Option renaming map_eq_some_iff->az
open Option.some renaming injEq->bk
open Pure renaming pure->fs
namespace Go.Px
variable {d kk n:Nat}
section
variable {P:Program}{r:Option Nat}{N:Nat}{env:Env}{H:Heap}{D:List Nat}{dst:Option Nat}{K:Env->Heap->List Nat->Prop}
theorem jx {E:TypeId}{z:List Value}(h:zeroOf P E=some z): ∃i v,P.info? E=some i/\i.zero=some v/\v.cells=z.toArray:=by
 unfold zeroOf at h;cases hi:P.info? E with
 |none=>grind
 |some i=>rw[hi]at h;simp only[az]at h;obtain⟨v,a,rfl⟩:=h;exact⟨i,v,rfl,a,zj⟩
theorem iU (S:aE)(z:List Value): ∀n,aS S (be n (z.map .v)).flatten (be n z).flatten
 |0=>by simp [aS]
 |n+1=>by
  simp only[List.replicate_succ,List.flatten_cons]
  exact(qx S z).append (iU S z n)
theorem aF.iB {T E:Nat}{ps:List (Nat×Operand)}{z:List Value}{q:List AV}(U:gH (rep n (z.map .v)) (ps.map λp=>(p.1*kk,kk,bu env p.2))=some q)
  (hq:q.all AV.dW=true) (k:K (dK env d (.aI E kk (chunk kk n q))) H D):aF P r N (.iB T n ps E kk z) (some d) env H D K:=by
 intro o u hd M C a w S L hN hs next Q g
 have O:=mT U
 cases M with
 |iB m G J hz b=>
  rename_i ps j
  simp only[not_or]at b
  obtain⟨h0,a1,Z⟩:=b
  have F:z.length=j.size:=bt.1 Z
  obtain⟨v,X,Y⟩:=jz (P:=P) (w:=w) hz
  have a0:v.cells.size=j.size:=zx
  obtain⟨es,e,f⟩:=wE (S:=S) (place:=λi=>some (i*j.size,j.size)) _ _ _ ((fe (n*j.size)).map (λi=>v.cells[i%v.cells.size]!)) q
   (tg (k:=j.size) ps.toList hs (λp hp=>O (p.1*j.size,j.size,bu env p.2) (bn.2 ⟨p,hp,rfl⟩)))
   (by
     rw[<-a0,yK v.cells zz,Y]
     exact iU S z n) U
  have A:=f.tc hq
  have s:q.length=n*j.size:=by
   rw[BO U]
   simp [rep,ds,F]
  have I:es.toList.length=n*j.size:=by rw[f.length,s]
  have V:=hs.alloc (x:=.arr E j.size n (chunk j.size n q)) (o:=.cells es E (0,0))
   ⟨es.toList,zj,er I.symm,by rw[fB];exact cb _,by
     have:n<=n*j.size:=Nat.le_mul_of_pos_right n zz
     unfold maxLen;omega,AF s,by rw[uy s,fB,de zz];exact f,λc hc=>A c (dl hc)⟩
  have W:=V.put (d:=d) (bi (hN▸hd d rfl) hs.size) (p:=.so w.heap.size (chunk j.size n q).length n) (y:=.slice (some ⟨w.heap.size,0,none⟩) n n) rfl (by simp only[aR,fB])
  have B:=W.jT (i:=0) (t:=d) (bw _ _ _) rfl
  rw[dX]at B
  refine Oper.bO (.iB m G J hz zx) zj (y:=.slice (some ⟨w.heap.size,0,none⟩) n n) (w':=w.alloc (.cells es E (0,0))) ?_
   (by rw[u];exact g _ _ _ _ _ _ _ k B (aE.Le.refl _))
  have a2: ¬(2^24<n*j.size):=zz
  by_cases l:n*j.size=0
  ·have hn:n=0:=by
    rcases Nat.mul_eq_zero.1 l with h|h
    ·exact h
    ·exact absurd h h0
   subst hn
   have e0:fe 0= #[]:=rfl
   simp only[e8,e0,eP,e6]at e
   simp [execOp,m,eM,underlying,G,sizeOf,typeInfo,J,e,newRow,e0]
  ·have R: ¬(n=0\/j.size=0):=by
    intro h
    rcases h with h|h
    ·subst h;simp at l
    ·exact h0 h
   simp only[not_or]at R
   simp [execOp,m,eM,underlying,G,sizeOf,typeInfo,J,X,e,newRow]
   rw[if_neg zz,if_neg l]
end
variable {es ys:List (List AV)}{S:aE}{t:Nat}{w:World}
section
variable {P:Program}{r:Option Nat}{N:Nat}{env:Env}{H:Heap}{D:List Nat}{dst:Option Nat}{K:Env->Heap->List Nat->Prop}
theorem nQ (t f e:TypeId)(i:TypeInfo)(d:P.underlying t=some (.slice e))(hi:P.info? e=some i)(v:Value)(a:v= .slice none 0 0\/ ∃g n cap,v= .slice (some g) n cap/\n<=cap)(b:Option Addr):
  (bs #[t,t] f #[v,.slice b 0 0]).run P w= .ok v w:=by
 have hl: ∀(x:Addr),(loadCells x 0).run P w= .ok #[] w:=λx=>by simpa using run_loadCells_list (P:=P) w x [] zj
 rcases a with rfl|⟨g,n,cap,rfl,c⟩
 ·cases b<;>simp [bs,run_underlying d,sizeOf,typeInfo,hi,ea,cr,hl]
 ·cases b<;>simp [bs,run_underlying d,sizeOf,typeInfo,hi,ea,cr,c,storeCells,hl]
theorem oA (z:Array Value)(a:z.size≠0)(n:Nat):(madeCells z (n*z.size)).toList=(be n z.toList).flatten:=yK z a n
theorem aF.gR {T E bytes:Nat}{l c:Operand}{W kc:IntKind}{z:List Value}(n:Nat){Y X:Int}(hl:bu env l= .v (.int W Y))(hc:bu env c= .v (.int kc X))(F:Y=n)(B:X=n)
  (hb:bytes*n<=281474976710656) (Z:n<=9223372036854775807) (M:z.all Value.oneCell'=true)
  (k: ∀b,K (dK env d (.so b (be n (z.map AV.v)).length n)) ((b,.arr E kk n (be n (z.map AV.v)))::H) D):aF P r N (.gR T l c E kk bytes z) (some d) env H D K:=by
 intro o h hd A C a w S L hN hs next Q g
 cases A with
 |gR q R U V f=>
  rename_i j
  simp only[not_or]at f
  obtain⟨h0,O⟩:=f
  have s:z.length=j.size:=bt.1 O
  obtain⟨i,v,hi,u,hv⟩:=jx V
  have t:i=j:=zx
  subst t
  have J:v.cells.size=i.size:=zx
  have df:=run_make (P:=P) w T E i v R U u W kc (n:Int) (n:Int) zz zz zx zz
  simp only[Int.toNat_natCast]at df
  have e:(madeCells v.cells (n*i.size)).toList=(be n z).flatten:=by
   rw[<-J,oA v.cells zz,hv]
  have m:(madeCells v.cells (n*i.size)).toList.length=n*i.size:=by
   rw[e];simp [ds,s]
  have G:=hs.alloc (x:=.arr E i.size n (be n (z.map AV.v))) (o:=.cells (madeCells v.cells (n*i.size)) E (0,0))
   ⟨(madeCells v.cells (n*i.size)).toList,zx,er m.symm,zx,by unfold maxLen;omega,zx,by
     rw[List.length_replicate,de zz,e]
     exact iU S z n,by
     intro x hx
     replace hx:=dl hx
     rw[e]at hx
     simp only[List.mem_flatten,List.mem_replicate]at hx
     obtain⟨l,⟨_,rfl⟩,hx⟩:=hx
     exact List.all_eq_true.1 M x hx⟩
  have I:=G.put (d:=d) (bi (hN▸hd d rfl) hs.size) (p:=.so w.heap.size (be n (z.map AV.v)).length n) (y:=.slice (some ⟨w.heap.size,0,none⟩) n n) rfl (by simp [aR])
  subst F B
  refine Oper.bO (.gR q R U V zx) zj (y:=.slice (some ⟨w.heap.size,0,none⟩) n n) (w':=w.alloc (.cells (madeCells v.cells (n*i.size)) E (0,0))) ?_
   (by rw[h];exact g _ _ _ _ _ _ _ (k _) I (aE.Le.refl _))
  simp [execOp,q,hs.int hl,hs.int hc,df]
theorem aF.abr {T:Nat}(q:env t= .aI T kk es)(k:K (dK (dK env t .any) d (.aI T kk es)) H D):aF P r N (.rF (.tmp t)) (some d) env H D K:=by
 intro o f hd h C a w S L n hs next Q c
 have j:=hs.env t;rw[q]at j;have l:=hs.oW (t:=t) (p:=.any) rfl (by simp [aR])
 have m:=l.lP (d:=d) (p:=.aI T kk es) (y:=a.tmps.getD t undef) (g:=L t) (bi (n▸hd d rfl) hs.size) j (by
  intro b e
  refine⟨hs.aI t b e,λu _ i=>?_⟩
  simp only[gV]at i
  split at i
  ·cases i
  ·rename_i s;exact s (hs.gk u t b i e))
 exact Oper.bO h zj (Ft h) (by rw[f];exact c _ _ _ _ _ _ _ k m (aE.Le.refl _))
theorem Au (f:S.In w){y:Value}(r:aR S (.sl kk ys) y):
  ((∃c,y= .slice c 0 0)/\ys=[])\/ ∃c cap,∃news:List Value,y= .slice (some c) ys.length cap/\news.length=ys.length*kk/\aS S ys.flatten news/\(∀j u,news[j]? =some u->w.cell? (c.add j)=some u)/\(∀u∈news,u.oneCell'=true)/\(∀e∈ys,e.length=kk):=by
 simp only[aR]at r
 rcases r with⟨z,A⟩|⟨b,off,cap,t,_,_,d⟩
 ·grind
 ·right
  have key: ∀(ys:List (List AV)) (o:Nat),gE S kk ys b o-> ∃news:List Value,news.length=ys.length*kk/\aS S ys.flatten news/\(∀j u,news[j]? =some u->w.cell? ⟨b,o+j,none⟩=some u)/\(∀u∈news,u.oneCell'=true)/\(∀e∈ys,e.length=kk):=by
   intro ys
   induction ys with
   |nil=>intro o _;exact⟨[],zj,by simp [aS],zj,zj,zj⟩
   |cons e ys v=>
    intro o h
    simp only[gE]at h
    obtain⟨he,s,d⟩:=h
    obtain⟨l,q,i,hi⟩:=s.cells e.length (cb _)
    rw[eS]at q
    obtain⟨news,n1,m,n,n4,p⟩:=v (o+kk) d
    have k:l.length=kk:=by rw[q.length,he]
    refine⟨l++news,by simp [k,n1,cD];omega,by simpa using q.append m,?_,?_,?_⟩
    ·intro j u a
     by_cases g:j<l.length
     ·rw[List.getElem?_append_left g]at a
      have:=hi j zz
      rw[a]at this
      exact f.cell _ _ _ this
     ·rw[List.getElem?_append_right zz]at a
      have:=n _ _ a
      rwa [show o+kk+(j-l.length)=o+j from zz]at this
    ·intro u hu
     rcases an.1 hu with hu|hu
     ·exact i u hu
     ·exact n4 u hu
    ·intro x hx
     rcases bA.1 hx with rfl|hx
     ·exact he
     ·exact p x hx
  obtain⟨news,n1,m,n,n4,p⟩:=key ys off d
  exact⟨⟨b,off,none⟩,cap,news,t,n1,m,λj u a=>by rw[addr_add];exact n j u a,n4,p⟩
end
variable {a:Act}{cap:Nat}{L:Nat->Option Nat}{C:Ctx}{y:Operand}{p:AV}
section
variable {P:Program}{r:Option Nat}{N:Nat}{env:Env}{H:Heap}{D:List Nat}{dst:Option Nat}{K:Env->Heap->List Nat->Prop}
theorem Own.Ec {B:Nat->Prop}{g E:Nat}{cur:List Value}(h:B g)(i: ¬S.has g)(a:w.heap[g]? =some (.cells cur.toArray E (0,0)))(b:cap*kk<=cur.length)
 (d:es.length<=cap) (f:cap<=maxLen) (h4: ∀e∈es,e.length=kk) {xs:List Value} (hx:cur.take (es.length*kk)=xs) (j:aS S es.flatten xs) (k: ∀c∈xs,c.oneCell'=true):
 Own B S w g (.arr E kk cap es):=⟨h,i,_,a,cur,rfl,b,d,f,h4,zx,zx⟩
def OB (kk:Nat)(p:AV)(ys:List (List AV)):Prop:=p= .sl kk ys\/(p= .nil/\ys=[])
theorem OB.rep (h:OB kk p ys)(hs:Sat C env H D a w S L)(hy:bu env y=p):aR S (.sl kk ys) (a.eval y):=by
 rcases h with rfl|⟨rfl,rfl⟩
 ·exact hs.cY y hy rfl
 ·have:=hs.cY y hy rfl;simp only[aR]at this ⊢;exact .inl ⟨⟨_,this⟩,trivial⟩
theorem aF.append {T ty E bytes:Nat}{z:List Value}(ht:env t= .aI E kk es)(hy:OB kk (bu env y) ys)
  (W:(es.length+ys.length)*bytes<=140737488355328) (hn:es.length+ys.length<=9223372036854775807)
  (k:K (dK (dK env t .any) d (.aI E kk (es++ys))) H D):aF P r N (.append T ty (.tmp t) y E kk bytes z) (some d) env H D K:=by
 intro o a7 hd b8 C a w S L hN hs next Q a4
 have s:=hs.env t
 rw[ht]at s
 have c1:=hy.rep hs rfl
 have J:d<a.tmps.size:=bi (hN▸hd d rfl) hs.size
 have h0:=hs.oW (t:=t) (p:=.any) rfl (by simp [aR])
 simp only[bF]at s
 cases b8 with
 |append a' Z hj hz I=>
  rename_i j
  simp only[not_or]at I
  obtain⟨c4,c7⟩:=I
  obtain⟨i,v,hi,a8,c6⟩:=jx hz
  have b6:i=j:=zx
  subst b6
  have c3:v.cells.size=i.size:=zx
  have b0:=Au hs.sin c1
  have f: ∀(v':Value) (w':World) (g:Option Nat),(bs #[T,T] o.type #[a.tmps.getD t undef,a.eval y]).run P w= .ok v' w'->
    (∃V,Sat C (dK (dK env t .any) d (.aI E i.size (es++ys))) H D (a.put (some d) v') w' S V)->o.wpIn (Fw r) 0 P a w next Q:=by
   intro v' w' g df ⟨V,b9⟩
   refine Oper.bO (.append a' Z hj hz zx) zj (y:=v') (w':=w') ?_ (by rw[a7];exact a4 _ _ _ _ _ _ _ k b9 (aE.Le.refl _))
   have e1:a.eval (.tmp t)=a.tmps.getD t undef:=rfl
   simp only[execOp,a',resolve,invoke,builtin,e9,fb,eu,eP,cR,e6,e1,df]
  rcases b0 with⟨⟨a5,A⟩,rfl⟩|⟨ad,c,news,A,n,a9,a2,a1,b1⟩
  ·
   rw[dk]at f
   rcases s with⟨s,rfl,R⟩|⟨g,cap,R,s,Y⟩
   ·refine f (.slice none 0 0) w none ?_ ⟨_,h0.lP (d:=d) (y:=.slice none 0 0) (g:=none) J (by simp [bF]) (λ_ e=>by cases e)⟩
    rw[A,s]
    exact nQ T o.type E i Z hi _ (.inl rfl) a5
   ·obtain⟨cur,B,h1,h2,h3,h4,h5,h6⟩:=Y.arr
    refine f (a.tmps.getD t undef) w none ?_ ⟨_,h0.lP (d:=d) (y:=a.tmps.getD t undef) (g:=some g) J (by
     simp only[bF];exact .inr ⟨g,cap,rfl,s,Y⟩) (λb e=>by
      cases e
      refine⟨hs.aI t g R,λu _ m=>?_⟩
      simp only[gV]at m
      split at m
      ·cases m
      ·rename_i O;exact O (hs.gk u t g m R))⟩
    rw[A]
    refine nQ T o.type E i Z hi _ ?_ a5
    rw[s]
    exact .inr ⟨_,_,_,rfl,h2⟩
  ·have h: ∀l,es.length+ys.length<=grownCap w (es.length+ys.length) l E/\grownCap w (es.length+ys.length) l E<=maxLen:=
    λl=>⟨grownCap_ge _ _ _ _,grownCap_le_maxLen _ _ _ _ (by unfold maxLen;omega)⟩
   have G: ∀(xs:List Value) (l:Nat),xs.length=es.length*i.size->aS S es.flatten xs->(∀e∈es,e.length=i.size)->(∀c∈xs,c.oneCell'=true)->
     ∃V,Sat C (dK (dK env t .any) d (.aI E i.size (es++ys))) H D (a.put (some d) (.slice (some ⟨w.heap.size,0,none⟩) (es.length+ys.length) (grownCap w (es.length+ys.length) l E)))
      (w.drew.alloc (.cells (xs.toArray++news.toArray++cA v.cells (grownCap w (es.length+ys.length) l E-(es.length+ys.length))) E)) S V:=by
    intro xs l M c0 b4 b'
    have b3:Sat C (dK env t .any) H D a w.drew S (gV L t none):=h0.world ⟨rfl,rfl,rfl,cb _,λ_ _ _=>rfl⟩ (λ_ _=>rfl) (λ_ _=>rfl) (λ_ _ _=>rfl)
    have a0:=b3.grow (w':=w.drew.alloc (.cells (xs.toArray++news.toArray++cA v.cells (grownCap w (es.length+ys.length) l E-(es.length+ys.length))) E))
     ((fj _ _).alloc (cb _) _)
    refine⟨_,a0.lP (d:=d) (g:=some w.heap.size) J ?_ ?_⟩
    ·simp only[bF]
     refine .inr ⟨w.heap.size,grownCap w (es.length+ys.length) l E,rfl,by rw[ap],?_⟩
     refine Own.Ec (cur:=xs++news++(cA v.cells (grownCap w (es.length+ys.length) l E-(es.length+ys.length))).toList) (hs.fresh (cb _)) (λhh=>absurd (hs.sin.lt hh) (ec _))
      ((heap_alloc_new w.drew _).trans zj) ?_ (by rw[ap];exact(h l).1) (h l).2 (by
        intro e he
        rcases an.1 he with he|he
        ·exact b4 e he
        ·exact b1 e he) (xs:=xs++news) ?_ (by rw[dn];exact c0.append a9) (by
        intro c hc
        rcases an.1 hc with hc|hc
        ·exact b' c hc
        ·exact a1 c hc)
     ·have:=(h l).1
      refine er (Eq.symm ?_)
      simp only[ap,M,n,Array.length_toList,size_zeroCells,c3,<-cD]
      congr 1;omega
     ·rw[ap,cD,<-M,<-n,<-ap]
      exact e3
    ·intro b e
     cases e
     refine⟨λhm=>absurd (hs.qk hm) (ec _),λu _ m=>?_⟩
     simp only[gV]at m
     split at m
     ·cases m
     ·exact absurd (hs.FA m) (ec _)
   have a6:(es.length+ys.length)*i.bytes<=140737488355328:=W
   rcases s with⟨s,rfl,R⟩|⟨g,cap,R,s,Y⟩
   ·by_cases hm:ys.length=0
    ·have c2:ys=[]:=bI hm
     subst c2
     simp only[eU,e8]at n
     have a3:news=[]:=bI n
     subst a3
     refine f (.slice none 0 0) w none ?_ ⟨_,h0.lP (d:=d) (y:=.slice none 0 0) (g:=none) J (by simp [bF]) (λ_ e=>by cases e)⟩
     rw[A,s]
     simp [bs,run_underlying Z,sizeOf,typeInfo,hi,ea,cr,loadCells,loadCellsFrom]
    ·obtain⟨V,U⟩:=G [] 0 zj (by simp [aS]) zj zj
     simp only[eU,e7]at U a6 hn
     refine f _ _ none ?_ ⟨V,U⟩
     rw[A,s]
     have hr:=run_append_nil (P:=P) w T o.type E i v Z hi a8 ad ys.length c news n a2 zz zz zz
     rw[hr]
     simp
   ·obtain⟨cur,B,h1,h2,h3,h4,h5,h6⟩:=Y.arr
    by_cases q:es.length+ys.length<=cap
    ·have X:es.length*i.size+news.length<=cur.toArray.size:=by
      rw[n,en,<-cD];exact et (cc _ q) h1
     have hr:=run_append_room (P:=P) w T o.type E i Z hi g es.length cap cur.toArray B ad ys.length c news n a2 a1 q X
     have hw: ∀b,b≠g->(w.setRow g ((cur.toArray.toList.take (es.length*i.size)++news++cur.toArray.toList.drop (es.length*i.size+news.length)).toArray)).heap[b]? =w.heap[b]? :=λb b2=>setRow_other w g b _ b2
     have b5: ∀b,b∈(H++C.F).map (·.1)->b≠g:=λb W e=>hs.aI t g R (e▸W)
     have a0:=h0.world (w':=w.setRow g ((cur.toArray.toList.take (es.length*i.size)++news++cur.toArray.toList.drop (es.length*i.size+news.length)).toArray))
      ⟨rfl,rfl,rfl,zj,λb W hA=>hw b (λe=>hA (e▸Y.base))⟩ (λb W=>hw b (λe=>Y.apart (e▸W))) (λb W=>hw b (b5 b W)) (λu b m=>hw b (λe=>by
        simp only[gV]at m
        split at m
        ·cases m
        ·rename_i O;exact O (hs.gk u t g (e▸m) R)))
     refine f _ _ none (by rw[A,s];exact hr) ⟨_,a0.lP (d:=d) (g:=some g) J ?_ ?_⟩
     ·simp only[bF]
      refine .inr ⟨g,cap,rfl,by rw[ap],?_⟩
      refine Own.Ec Y.base Y.apart (setRow_heap w g _ _ E (0,0) B) ?_ (by rw[ap];exact q) h3 (by
       intro e he
       rcases an.1 he with he|he
       ·exact h4 e he
       ·exact b1 e he) (xs:=cur.take (es.length*i.size)++news) ?_ (by rw[dn];exact h5.append a9) (by
       intro x hx
       rcases an.1 hx with hx|hx
       ·exact h6 x hx
       ·exact a1 x hx)
      ·simp only[ap,c8,List.length_drop]
       rw[en]at X
       omega
      ·have c5:es.length*i.size<=cur.length:=et (cc _ h2) h1
       have b7:(cur.take (es.length*i.size)).length=es.length*i.size:=by rw[c8];omega
       have hl:(cur.take (es.length*i.size)++news).length=(es++ys).length*i.size:=by
        rw[ap,b7,n,ap,cD]
       rw[<-hl]
       exact e3
     ·intro b e
      cases e
      refine⟨hs.aI t g R,λu _ m=>?_⟩
      simp only[gV]at m
      split at m
      ·cases m
      ·rename_i O;exact O (hs.gk u t g m R)
    ·have M:(cur.take (es.length*i.size)).length=es.length*i.size:=by rw[c8];exact Nat.min_eq_left (et (cc _ h2) h1)
     have holds: ∀j u,(cur.take (es.length*i.size))[j]? =some u->w.cell? ((⟨g,0,none⟩:Addr).add j)=some u:=by
      intro j u O
      rw[addr_add,e7,cell_of_row w g j _ _ _ B]
      rw[List.getElem?_take]at O
      split at O
      ·simpa using O
      ·cases O
     have hr:=run_append_grow (P:=P) w T o.type E i v Z hi a8 ⟨g,0,none⟩ es.length cap (cur.take (es.length*i.size)) M holds ad ys.length c news n a2 zz zz (growslice_fits zz a6)
     obtain⟨V,U⟩:=G (cur.take (es.length*i.size)) cap M h5 h4 h6
     exact f _ _ none (by rw[A,s];exact hr) ⟨V,U⟩
end
variable {ty:TypeId}{w':World}{b k:Nat}{ps qs:List AV}{res:AV}{f:FuncId}{x:Operand}
def vd (P:Program)(f:FuncId):Prop:= ∃fn,P.funcs[f]? =some fn/\(fn.name== "runtime.NumGoroutine")=false/\fn.body.isNone=false
def Ev (P:Program)(f:FuncId)(args:List AV)(res:AV):Prop:=
 vd P f/\ ∀(S:aE) (w:World) (c:List Value),sN S w->S.In w->aS S args c->
  Calls P f c.toArray w (λe w'=> ∃v a g,e= .returned v/\S.Le a/\a.In w'/\(∀b,a.has b->S.has b\/w.heap.size<=b)/\ew w.heap.size w w'/\bF (λb=>w.heap.size<=b) a w' g res v)
def oL (ps qs:List AV):Prop:= ∀(S:aE) (a:List Value),aS S ps a->aS S qs a
theorem oL.refl (ps:List AV):oL ps ps:=λ_ _ h=>h
theorem oL.cons (h:oL ps qs):oL (p::ps) (p::qs):=by intro S g b;simp only[aS]at b ⊢;obtain⟨c,a,e,d,f⟩:=b;exact⟨c,a,e,d,h S a f⟩
theorem oL.jD (h:oL ps qs):oL (.nil::ps) (.sl k []::qs):=by intro S g b;simp only[aS,aR]at b ⊢;obtain⟨c,a,e,d,f⟩:=b;exact⟨c,a,e,.inl ⟨⟨_,d⟩,trivial⟩,h S a f⟩
section
variable {P:Program}{r:Option Nat}{N:Nat}{env:Env}{H:Heap}{D:List Nat}{dst:Option Nat}{K:Env->Heap->List Nat->Prop}
theorem sz {args:Array Value}{R:Ending->World->Prop}(h:Calls P f args w R)(r:Option Nat):CallsIn (Fw r) 0 P f args w R:=by
 have a:CallsIn ek 0 P f args w R:=callsIn_wide.2 h;cases r with
 |none=>exact a
 |some l=>exact CallsIn.inRound l a
theorem Oper.kr {o:Oper}{l:jM}(hl:Lo P o l)(c: ∀op,l≠.other op){args:Array Value}
  (h:(execOp a.eval o).run P w= .ok (.enter f args) w') {next:Act->World->Prop} {Q:Exit->Act->World->Prop}
  (k:Calls P f args w' (λe b=> ∃v,e= .returned v/\next (a.put o.dst v) b)):o.wpIn (Fw r) 0 P a w next Q:=by
 refine⟨λ_ _=>trivial,?_⟩
 show o.uponIn (Fw r) 0 P a next Q ((o.semAt r a.eval).run P w)
 rw[hl.semAt c,h]
 refine⟨λhd=>by simp [Fw,ek]at hd,(sz k r).mono ?_⟩
 rintro e b ⟨v,rfl,hk⟩
 exact hk
theorem dI (h:vd P f)(args:Array Value)(w:World):(callFunc f args).run P w= .ok (.enter f args) w:=by obtain⟨fn,b,c,a⟩:=h;simp only[callFunc,e9,run_program,eu,b,c,a,ej,if_false,fb]
theorem bF.C8 {B e:Nat->Prop}{g:Option Nat}{y:Value}(h:bF B S w g p y)(d: ∀b,B b->e b):bF e S w g p y:=by
 cases p
 case aI T k es=>
  simp only[bF]at h ⊢;rcases h with h|⟨b,cap,c,hy,a⟩
  ·exact .inl h
  ·exact .inr ⟨b,cap,c,hy,d _ a.base,a.apart,a.holds⟩
 case dO T cs=>simp only[bF]at h ⊢;obtain⟨b,c,hy,a⟩:=h;exact⟨b,c,hy,d _ a.base,a.apart,a.holds⟩
 case jr T k es j f=>
  simp only[bF]at h ⊢;obtain⟨i,h⟩:=h;refine⟨i,?_⟩;rcases h with h|⟨b,cap,c,hy,a⟩
  ·exact .inl h
  ·exact .inr ⟨b,cap,c,hy,d _ a.base,a.apart,a.holds⟩
 case lmap cs es=>simp only[bF]at h ⊢;obtain⟨g,bb,off,c,hy,hc,a⟩:=h;exact⟨g,bb,off,c,hy,hc,d _ a.base,a.apart,a.holds⟩
 all_goals exact h
theorem bF.wR {B:Nat->Prop}{y:Value}(h:bF B S w (some b) p y):B b/\ ¬S.has b:=by
 cases p<;>simp only[bF]at h
 case aI=>
  rcases h with⟨_,_,h⟩|⟨g,cap,c,_,a⟩
  ·cases h
  ·cases c;exact⟨a.base,a.apart⟩
 case dO=>obtain⟨g,c,_,a⟩:=h;cases c;exact⟨a.base,a.apart⟩
 case jr=>
  rcases h.2 with⟨_,_,h⟩|⟨g,cap,c,_,a⟩
  ·cases h
  ·cases c;exact⟨a.base,a.apart⟩
 case lmap=>obtain⟨g,bb,off,c,_,_,a⟩:=h;cases c;exact⟨a.base,a.apart⟩
 all_goals (obtain⟨h,_⟩:=h;cases h)
theorem Sat.called (hs:Sat C env H D a w S L)(hd: ∀d,dst=some d->d<C.N){f:aE}{g:Option Nat}{v:Value}
  (k:S.Le f) (j:f.In w') (c: ∀b,f.has b->S.has b\/w.heap.size<=b) (i:ew w.heap.size w w') (m:bF (λb=>w.heap.size<=b) f w' g p v):
  ∃n,Sat C (ct env dst p) H D (a.put dst v) w' f n:=by
 have h:=(hs.grow i).snap k j (λb hh=>(c b hh).imp id (λh1=>hs.fresh h1))
  (λe he hh=>by
    have l:=hs.qk (b:=e.1) (bn.2 ⟨e,he,rfl⟩)
    rcases c _ hh with h1|h1
    ·rcases an.1 he with he|he
     ·exact(hs.heap e he).apart h1
     ·exact(hs.frame e he).apart h1
    ·omega)
  (λt b e hh=>by
    have l:=hs.FA e
    rcases c _ hh with h1|h1
    ·exact hs.zP e h1
    ·omega)
 cases dst with
 |none=>exact⟨L,h⟩
 |some d=>
  refine⟨_,h.lP (d:=d) (g:=g) (bi (hd d rfl) hs.size) (m.C8 (λ_ i=>hs.fresh i)) ?_⟩
  intro b e
  subst e
  have:=m.wR
  refine⟨λhm=>?_,λt _ e=>?_⟩
  ·have:=hs.qk hm;omega
  ·have:=hs.FA e;omega
theorem aF.call {args:List Operand}(l:Ev P f qs res)(y:args.map (bu env)=ps)(A:ps.all (λp=> !p.bC)=true)(s:oL ps qs)
  (k:K (ct env dst res) H D):aF P r N (.call f args ty) dst env H D K:=by
 intro o j hd x C a w S L B hs next Q c
 have u: ∀p∈ps,p.bC=false:=λp O=>zx
 have b:=s S _ (hs.sj args y u)
 cases x with
 |call q F G E=>
  rename_i xs R fn
  refine Oper.kr (.call q F G E) zj (f:=f) (args:=xs.map a.eval) (w':=w) ?_ ?_
  ·simp [execOp,q,resolve,ey,Act.eval,invoke,dI l.1]
  ·have h:=l.2 S w _ hs.gl hs.sin b
   have e:(List.map a.eval xs.toList).toArray=xs.map a.eval:=by rw[<-Array.toList_map]
   rw[e]at h
   refine h.mono ?_
   rintro e w' ⟨v,M,g,rfl,m,t,n,i,I⟩
   obtain⟨J,z⟩:=hs.called (dst:=dst) (λd e=>B▸hd d e) m t n i I
   exact⟨v,rfl,by rw[j];exact c _ _ _ _ _ _ _ k z m⟩
theorem aF.fP {args:List Operand}{first b:List AV}(hx:bu env x= .fn (.func f) first b)(l:Ev P f qs res)
  (F:args.map (bu env)=ps) (J:ps.all (λp=> !p.bC)=true) (s:oL (first++ps++b) qs) (k:K (ct env dst res) H D):aF P r N (.fP x args ty) dst env H D K:=by
 intro o j hd E C a w S L M hs next Q h
 have B: ∀p∈ps,p.bC=false:=λp U=>zx
 have t:=hs.cY x hx rfl
 simp only[aR]at t
 obtain⟨u,cs,I,z,y⟩:=t
 have c:=s S _ ((z.append (hs.sj args F B)).append y)
 cases E with
 |fP q=>
  rename_i xs V
  refine Oper.kr (.fP q) zj (f:=f) (args:=(u++xs.toList.map a.eval++cs).toArray) (w':=w) ?_ ?_
  ·have e:u.toArray++xs.map a.eval++cs.toArray=(u++xs.toList.map a.eval++cs).toArray:=by
    apply Array.toList_inj.1;simp
   simp [execOp,q,resolve,ey,I,invoke,dI l.1]
  ·refine(l.2 S w _ hs.gl hs.sin c).mono ?_
   rintro e w' ⟨v,T,g,rfl,m,A,n,i,O⟩
   obtain⟨R,G⟩:=hs.called (dst:=dst) (λd e=>M▸hd d e) m A n i O
   exact⟨v,rfl,by rw[j];exact h _ _ _ _ _ _ _ k G m⟩
end
variable {N i:Nat}{P:Program}{X:Type}{env':Env}{ls:List aH}{H':Heap}{arr:Array Oper}
inductive bN where
 |skip
 |ops (l:List aH)
 |iP (l:List (aH×List Nat))
 |seq (a b:bN)
 |ite (c:Operand) (a b:bN)
 |block (id:Nat) (a:bN)
 |loop (a:bN)
 |exit (id:Nat)
 |ret
 |scope (a:bN)
 |label (l:Nat)
 |goto (l:Nat)
 |wP (f:Operand) (ps:List Nat) (assign body:bN)
def Ai (arr:Array Oper):Option (Nat×Bool)->Option (Option (Nat×Bool))
 |none=>some none
 |some (j,b)=>match (arr[j]?).bind (·.dst)with
  |some t=>some (some (t,b))
  |none=>none
def Zw (N:Nat):Option Nat->Bool
 |none=>true
 |some d=>Nat.blt d N
def yk (P:Program)(N:Nat)(arr:Array Oper)(o:Oper):Option aH:=
 match bS P o,Ai arr o.guard,Zw N o.dst with
 |some l,some g,true=>some ⟨o.dst,g,l⟩
 |_,_,_=>none
def oc (P:Program)(N:Nat)(arr:Array Oper):List Oper->Option (List aH)
 |[]=>some []
 |o::os=>match yk P N arr o,oc P N arr os with
  |some l,some ls=>some (l::ls)
  |_,_=>none
def jL (o:Oper):List Nat:=(o.after.toList.filter (Region.binds .any)).map (·.on)
def lowerCode (P:Program)(N:Nat):Code->Option bN
 | .skip=>some .skip
 | .region _ arr false=>(oc P N arr arr.toList).map .ops
 | .region _ arr true=>(oc P N arr arr.toList).map λls=>.iP (ls.zip (arr.toList.map jL))
 | .seq a b=>match lowerCode P N a,lowerCode P N b with
  |some x,some y=>some (.seq x y)
  |_,_=>none
 | .cond c a b=>match lowerCode P N a,lowerCode P N b with
  |some x,some y=>some (.ite c x y)
  |_,_=>none
 | .block id a=>(lowerCode P N a).map (.block id)
 | .loop a=>(lowerCode P N a).map .loop
 | .exit id=>some (.exit id)
 | .ret=>some .ret
 | .scope a=>(lowerCode P N a).map .scope
 | .label l=>some (.label l)
 | .goto l=>some (.goto l)
 | .rangeFunc f ps a b=>match lowerCode P N a,lowerCode P N b with
  |some x,some y=>some (.wP f ps.toList x y)
  |_,_=>none
 | .refuse _=>none
theorem zF {o:Oper}{l:aH}(c:arr[i]? =some o)(h:yk P N arr o=some l):td P N arr i l:=by
 unfold yk at h;split at h
 ·rename_i x g hx hg hd;cases h;refine⟨o,c,rfl,?_,JZ hx,?_⟩
  ·intro d e;simp only at e;rw[e]at hd;exact bi (Nat.lt_succ_self d) (Nat.le_of_ble_eq_true hd)
  ·unfold Ai at hg;split at hg
   ·rename_i e;cases hg;exact .inl ⟨rfl,e⟩
   ·rename_i j b e;split at hg
    ·rename_i t a;cases hg;exact .inr ⟨j,t,b,rfl,e,a⟩
    ·cases hg
 ·cases h
theorem sq : ∀(os:List Oper) (i:Nat) (ls:List aH),arr.toList.drop i=os->oc P N arr os=some ls->gP P N arr (List.range' i os.length) ls
 |[],i,ls,_,h=>by simp only[oc,bk]at h;subst h;simp [gP]
 |o::os,i,ls,e,h=>by
  simp only[oc]at h
  split at h
  ·rename_i l ls' hl b
   cases h
   have c:arr[i]? =some o:=by
    have:(arr.toList.drop i)[0]? =some o:=by rw[e];rfl
    rw[List.getElem?_drop]at this
    simpa using this
   have a:arr.toList.drop (i+1)=os:=by
    rw[<-List.tail_drop,e];rfl
   simp
   exact⟨l,ls',rfl,zF c hl,sq os (i+1) ls' a b⟩
  ·cases h
inductive Lc (P:Program)(N:Nat):Code->bN->Prop where
 |skip:Lc P N .skip .skip
 |ops {id arr ls:_}:gP P N arr (e2 arr.size) ls->Lc P N (.region id arr false) (.ops ls)
 |iP {id arr ls:_}:gP P N arr (e2 arr.size) ls->Lc P N (.region id arr true) (.iP (ls.zip (arr.toList.map jL)))
 |seq {a b x y:_}:Lc P N a x->Lc P N b y->Lc P N (.seq a b) (.seq x y)
 |ite {c a b x y:_}:Lc P N a x->Lc P N b y->Lc P N (.cond c a b) (.ite c x y)
 |block {id a x:_}:Lc P N a x->Lc P N (.block id a) (.block id x)
 |loop {a x:_}:Lc P N a x->Lc P N (.loop a) (.loop x)
 |exit {id}:Lc P N (.exit id) (.exit id)
 |ret:Lc P N .ret .ret
 |scope {a x:_}:Lc P N a x->Lc P N (.scope a) (.scope x)
 |label {l}:Lc P N (.label l) (.label l)
 |goto {l}:Lc P N (.goto l) (.goto l)
 |wP {f ps a b x y:_}:Lc P N a x->Lc P N b y->Lc P N (.rangeFunc f ps a b) (.wP f ps.toList x y)
theorem wj (h:oc P N arr arr.toList=some ls):gP P N arr (e2 arr.size) ls:=by have:=sq (P:=P) (N:=N) (arr:=arr) arr.toList 0 ls zj h;rw[List.range_eq_range'];simpa using this
theorem db : ∀{c:Code} {lc:bN},lowerCode P N c=some lc->Lc P N c lc
 | .skip,_,h=>by simp only[lowerCode,bk]at h;subst h;exact .skip
 | .region _ arr false,_,h=>by
  simp only[lowerCode,az]at h
  obtain⟨ls,h,rfl⟩:=h
  exact .ops (wj h)
 | .region _ arr true,_,h=>by
  simp only[lowerCode,az]at h
  obtain⟨ls,h,rfl⟩:=h
  exact .iP (wj h)
 | .seq a b,_,h=>by
  simp only[lowerCode]at h
  split at h
  ·rename_i x y ha d;cases h;exact .seq (db ha) (db d)
  ·cases h
 | .cond c a b,_,h=>by
  simp only[lowerCode]at h
  split at h
  ·rename_i x y ha d;cases h;exact .ite (db ha) (db d)
  ·cases h
 | .block id a,_,h=>by simp only[lowerCode,az]at h;obtain⟨x,h,rfl⟩:=h;exact .block (db h)
 | .loop a,_,h=>by simp only[lowerCode,az]at h;obtain⟨x,h,rfl⟩:=h;exact .loop (db h)
 | .exit id,_,h=>by simp only[lowerCode,bk]at h;subst h;exact .exit
 | .ret,_,h=>by simp only[lowerCode,bk]at h;subst h;exact .ret
 | .scope a,_,h=>by simp only[lowerCode,az]at h;obtain⟨x,h,rfl⟩:=h;exact .scope (db h)
 | .label l,_,h=>by simp only[lowerCode,bk]at h;subst h;exact .label
 | .goto l,_,h=>by simp only[lowerCode,bk]at h;subst h;exact .goto
 | .rangeFunc f ps a b,_,h=>by
  simp only[lowerCode]at h
  split at h
  ·rename_i x y ha d;cases h;exact .wP (db ha) (db d)
  ·cases h
 | .refuse _,_,h=>by simp only[lowerCode,reduceCtorEq]at h
def aJ (P:Program)(r:Option Nat)(N:Nat)(lc:bN)(Q:cI)(env:Env)(H:Heap)(D:List Nat):Prop:=
 ∀c,Lc P N c lc-> ∀(C:Ctx) (a:Act) (w:World) (S:aE) (L:Nat->Option Nat),C.N=N->Sat C env H D a w S L->c.wpIn (Fw r) 0 P (vM C Q) a w
def jG (K:Env->Heap->List Nat->Prop)(Q:cI):cI:=λe env H D=>match e with
 | .normal=>K env H D
 |e=>Q e env H D
def pI (id:Nat)(Q:cI):cI:=λe env H D=>match e with
 | .exit a=>if a=id then Q .normal env H D else Q (.exit a) env H D
 |e=>Q e env H D
def J5 (Q:cI):cI:=λe env H D=>match e with
 | .goto _=>False
 |e=>Q e env H D
section
variable {r:Option Nat}{Q:cI}{env:Env}{H:Heap}{D:List Nat}
theorem aJ.skip (h:Q .normal env H D):aJ P r N .skip Q env H D:=by intro c hc C a w S L b hs;cases hc;exact wpIn_skip ⟨env,H,D,S,L,hs,h⟩
theorem aJ.label {l:Nat}(h:Q .normal env H D):aJ P r N (.label l) Q env H D:=by intro c hc C a w S L b hs;cases hc;exact wpIn_label ⟨env,H,D,S,L,hs,h⟩
theorem aJ.exit {id:Nat}(h:Q (.exit id) env H D):aJ P r N (.exit id) Q env H D:=by intro c hc C a w S L b hs;cases hc;exact wpIn_exit ⟨env,H,D,S,L,hs,h⟩
theorem aJ.ret (h:Q .ret env H D):aJ P r N .ret Q env H D:=by intro c hc C a w S L b hs;cases hc;exact wpIn_ret ⟨env,H,D,S,L,hs,h⟩
theorem aJ.ops (h:aT P r N ls Q env H D):aJ P r N (.ops ls) Q env H D:=by
 intro c hc C a w S L b hs;cases hc with
 |ops hm=>exact wpIn_region (h _ _ hm C a w S L b hs)
theorem aJ.seq {x y:bN}(h:aJ P r N x (jG (λe h d=>aJ P r N y Q e h d) Q) env H D):aJ P r N (.seq x y) Q env H D:=by
 intro c hc C a w S L i hs;cases hc with
 |seq ha m=>
  refine wpIn_seq (wpIn_mono (h _ ha C a w S L i hs) ?_);rintro e l w' ⟨env',H',k,g,f,b,j⟩;cases e with
  |normal=>exact j _ m C l w' g f i b
  |_=>exact⟨env',H',k,g,f,b,j⟩
theorem aJ.ite {c:Operand}{x y:bN}{b:Bool}(hc:bu env c= .v (.bool b))(i:b=true->aJ P r N x Q env H D)(g:b=false->aJ P r N y Q env H D):aJ P r N (.ite c x y) Q env H D:=by
 intro j d C a w S L e hs;cases d with
 |ite ha f=>exact wpIn_cond_split (hs.int hc) (λh=>i h _ ha C a w S L e hs) (λh=>g h _ f C a w S L e hs)
theorem aJ.block {id:Nat}{x:bN}(h:aJ P r N x (pI id Q) env H D):aJ P r N (.block id x) Q env H D:=by
 intro c hc C a w S L j hs;cases hc with
 |block ha=>
  refine wpIn_block (wpIn_mono (h _ ha C a w S L j hs) ?_);rintro e l w' ⟨env',H',f,i,g,b,d⟩;cases e with
  |exit k=>
   simp only[pI]at d;simp only[Exit.inBlock];split
   ·rename_i h;rw[if_pos h]at d;exact⟨env',H',f,i,g,b,d⟩
   ·rename_i h;rw[if_neg h]at d;exact⟨env',H',f,i,g,b,d⟩
  |_=>exact⟨env',H',f,i,g,b,d⟩
theorem kA {b:Frame}{k:List Item}{cs:List Frame}{c:Code}:step P (lone (b.atR a (.code (.scope c)::k)) cs w)= .next (lone (b.atR a (.code c::.inScope c::k)) cs w):=
 step_lone_go (by simp [stepG,ff,fk])
theorem Cd {b:Frame}{k:List Item}{cs:List Frame}{c:Code}:step P (lone (b.atR a (.inScope c::k)) cs w)= .next (lone (b.atR a k) cs w):=
 step_lone_go (by simp [stepG,ff,fk])
theorem uq {F:Fence}{r:Exit->Act->World->Prop}{c:Code}(h:c.wpIn F n P (Exit.noGoto r) a w):(Code.scope c).wpIn F n P r a w:=by
 intro b k cs q m o;have f:(lone (b.atR a (.code (.scope c)::k)) cs w).fenced P F:=fenced_calm m o rfl;obtain⟨e,i,j,g,d⟩:=h b (.inScope c::k) cs q m o;cases e with
 |normal=>exact⟨.normal,i,j,g,.head f kA (e5 d (.one (fenced_calm m o rfl) Cd))⟩
 |exit id=>
  have hx:exitTo id (.inScope c::k)=exitTo id k:=by simp [exitTo]
  exact⟨.exit id,i,j,g,λu hk=>.head f kA (d.1 u zx),
   λp hk=>let ⟨v,s,t⟩:=d.2 p zx;⟨v,s,.head f kA t⟩⟩
 |goto l=>exact g.elim
 |ret=>exact⟨_,i,j,g,.of_steps (.one f kA) d⟩
 |panic ch=>exact⟨_,i,j,g,.of_steps (.one f kA) d⟩
 |outgrown=>exact⟨_,i,j,g,.of_steps (.one f kA) d⟩
theorem aJ.scope {x:bN}(h:aJ P r N x (J5 Q) env H D):aJ P r N (.scope x) Q env H D:=by
 intro c hc C a w S L j hs;cases hc with
 |scope ha=>
  refine uq (wpIn_mono (h _ ha C a w S L j hs) ?_);rintro e k w' ⟨env',H',f,i,g,b,d⟩;cases e with
  |goto l=>exact d.elim
  |_=>exact⟨env',H',f,i,g,b,d⟩
theorem aJ.lr {x:bN}{d:List Nat}(h:bB env H D env' H' d)(k:aJ P r N x Q env' H' d):aJ P r N x Q env H D:=
 λc hc C a w S L g hs=>by obtain⟨f,e,_,b⟩:=h C a w S L hs;exact k c hc C a w f e g b
theorem aJ.loop (E:X->Env)(A:X->Heap)(z:X->List Nat)(m:X->Nat){x:bN}(F:X)(Y:bB env H D (E F) (A F) (z F))
  (hb: ∀i,aJ P r N x (jG (λenv' H' n=> ∃s,m s<m i/\bB env' H' n (E s) (A s) (z s)) Q) (E i) (A i) (z i)):aJ P r N (.loop x) Q env H D:=by
 intro c hc C a w S L Z hs
 cases hc with
 |loop ha=>
  rename_i g
  obtain⟨S0,R,_,M⟩:=Y C a w S L hs
  intro b k cs K q J
  have key: ∀(j:Nat) (i:X) (a:Act) (w:World) (S:aE) (L:Nat->Option Nat),m i=j->Sat C (E i) (A i) (z i) a w S L->
    ∃e B w',vM C Q e B w'/\ArrivesIn (Machine.fenced P (Fw r)) P (lone (b.atR a (.code g::.inLoop g::k)) cs w) b k cs e B w':=by
   intro j
   induction j using Nat.strongRecOn with
   |_ j ih=>
    intro i a w S L hm hs
    obtain⟨e,o,t,⟨env',H',n,v,u,f,h⟩,d⟩:=hb i g ha C a w S L Z hs b (.inLoop g::k) cs K q J
    cases e with
    |normal=>
     obtain⟨s,G,y⟩:=h
     obtain⟨U,T,_,O⟩:=y C o t v u f
     obtain⟨W,V,w₂,I,p⟩:=ih (m s) (hm▸G) s o t U T rfl O
     exact⟨W,V,w₂,I,.of_steps (e5 d (.one (fenced_calm q J rfl) stepR_inLoop)) p⟩
    |exit id=>exact⟨_,o,t,⟨env',H',n,v,u,f,h⟩,.pass (x:=.inLoop g) rfl (λ_ _=>.inl zj) d⟩
    |goto l=>exact⟨_,o,t,⟨env',H',n,v,u,f,h⟩,.pass (x:=.inLoop g) rfl (λ_ _=>.inl zj) d⟩
    |ret=>exact⟨_,o,t,⟨env',H',n,v,u,f,h⟩,.pass (x:=.inLoop g) rfl (λ_ _=>.inl zj) d⟩
    |panic ch=>exact⟨_,o,t,⟨env',H',n,v,u,f,h⟩,.pass (x:=.inLoop g) rfl (λ_ _=>.inl zj) d⟩
    |outgrown=>exact⟨_,o,t,⟨env',H',n,v,u,f,h⟩,.pass (x:=.inLoop g) rfl (λ_ _=>.inl zj) d⟩
  obtain⟨e,B,w',h,d⟩:=key _ F a w S0 R rfl M
  exact⟨e,B,w',h,.of_steps (.one (fenced_calm q J rfl) stepR_loop) d⟩
end
variable {fn:Func}{lc:bN}{args:List AV}{rs:List ResultVar}{H:Heap}{env:Env}{D:List Nat}
def dA (args:List AV):Env:=λi=>(args[i]?).getD .any
def uV:Heap->List Nat->Heap->Prop
 |H,[],H'=>H=H'
 |H,r::D,H'=> ∃i:Nat,H[i]? =some (r,.iV)/\uV (H.eraseIdx i) D H'
inductive ja (P:Program)(env:Env)(H:Heap):ResultVar->AV->Prop where
 |tmp {t p:_}:env t=p->p.bC=false->ja P env H (.tmp t) p
 |mz {t T:Nat} {n:Option Nat} {cs:List AV} {p:AV}:env t= .pi cs->ya P T=some n->eX n cs=some p->ja P env H (.cell t T) p
 |dw {t T:Nat} {n:Option Nat} {b off i T':Nat} {cs:List AV} {p:AV}:env t= .po b off->H[i]? =some (b,cP.cells T' cs)->ya P T=some n->eX n (cs.drop off)=some p->ja P env H (.cell t T) p
def sJ (tmps:Array Value):ResultVar->Sem Value
 | .tmp t=>fs (tmps.getD t undef)
 | .cell a t=>do loadVar t (<-asAddr (tmps.getD a undef))
section
theorem ja.run {u:ResultVar}(h:ja P env H u p)(hs:Sat C env H D a w S L):
  ∃v,(sJ a.tmps u).run P w= .ok v w/\aR S p v:=by
 cases h with
 |tmp g e=>exact⟨_,rfl,hs.rep g e⟩
 |mz g r e=>
  have m:=hs.rep g rfl
  simp only[aR]at m
  obtain⟨b,off,q,hc⟩:=m
  obtain⟨l,s,_,hi⟩:=hc.cells _ (cb _)
  rw[eS]at s
  obtain⟨y,hy,d⟩:=qu (P:=P) (w:=w) r e s (b:=b) (o:=off) (λj c k=>by
   have:=hi j (by rw[<-s.length];exact iD k)
   rw[k]at this
   exact hs.sin.cell _ _ _ this)
  exact⟨y,by simp [sJ,q,asAddr,hy],d⟩
 |dw g x r e=>
  have q:=hs.rep g rfl
  simp only[aR]at q
  obtain⟨l,f,m,A⟩:=(hs.at_ x).row
  rename_i t T n b off i z cs
  obtain⟨y,hy,d⟩:=qu (P:=P) (w:=w) r e (m.drop off) (b:=b) (o:=off) (λj c k=>by
   rw[cell_of_row w b _ _ _ _ f]
   simpa using k)
  exact⟨y,by simp [sJ,q,asAddr,hy],d⟩
theorem yP (hs:Sat C env H D a w S L): ∀{rs:List ResultVar} {ps:List AV},fN (ja P env H) rs ps->
  ∃b:List Value,(rs.mapM (sJ a.tmps)).run P w= .ok b w/\aS S ps b
 |[],[],_=>⟨[],zj,by simp [aS]⟩
 |rv::rs,p::ps,h=>by
  obtain⟨v,f,e⟩:=h.1.run hs
  obtain⟨b,d,c⟩:=yP hs h.2
  exact⟨v::b,by rw[List.mapM_cons];simp [f,d],by simp only[aS];exact⟨v,b,rfl,e,c⟩⟩
 |[],_::_,h=>h.elim
 |_::_,[],h=>h.elim
theorem KN (fn:Func)(tmps:Array Value)(w:World):(results fn tmps).run P w=((fn.results.toList.mapM (sJ tmps)).run P w).andThen λvs w'=>.ok (match vs with|[v]=>v|vs=>.tuple vs.toArray) w':=by
 have e:results fn tmps=(do
   let vs <-fn.results.mapM (sJ tmps)
   fs (if h:vs.size=1 then vs[0]else .tuple vs)):=by
  unfold results
  congr 1
 rw[e,Array.mapM_eq_mapM_toList];simp;cases (fn.results.toList.mapM (sJ tmps)).run P w with
 |ok vs w'=>
  simp;congr 1;match vs with
  |[]=>rfl
  |[v]=>rfl
  |v::u::vs=>simp
 |halt h w'=>rfl
inductive kW (P:Program)(env:Env)(H:Heap):List ResultVar->AV->Prop where
 |one {rv p:_}:ja P env H rv p->kW P env H [rv] p
 |aI {t p:_}:env t=p->p.bC=true->kW P env H [.tmp t] p
 |many {rs ps:_}:rs.length≠1->fN (ja P env H) rs ps->kW P env H rs (.bZ ps)
def pD (P:Program)(rs:List ResultVar)(res:AV):cI:=λe env H D=>(e= .normal\/e= .ret)/\ ∃H',uV H D H'/\kW P env H' rs res
theorem zd {α β:Type}{R:α->β->Prop}: ∀{l:List α} {m:List β},fN R l m->l.length=m.length
 |[],[],_=>rfl
 |_::l,_::m,h=>by simp [zd h.2]
 |[],_::_,h=>h.elim
 |_::_,[],h=>h.elim
theorem kW.run (h:kW P env H fn.results.toList res)(hs:Sat C env H D a w S L):
  ∃v g,(results fn a.tmps).run P w= .ok v w/\bF C.A S w g res v/\ ∀b,g=some b-> ∃t,L t=some b:=by
 rw[KN]
 generalize fn.results.toList=rs at h
 cases h with
 |one k=>
  obtain⟨v,m,d⟩:=k.run hs
  exact⟨v,none,by simp [m],bF.dC d.jP d,λ_ e=>by cases e⟩
 |aI l n=>
  rename_i t
  have:=hs.env t
  rw[l]at this
  exact⟨_,_,by simp [sJ],this,λb e=>⟨t,e⟩⟩
 |many hl j=>
  rename_i ps
  obtain⟨f,i,d⟩:=yP hs j
  have c:f.length≠1:=by rw[d.length,<-zd j];exact hl
  refine⟨.tuple f.toArray,none,?_,bF.dC rfl (by simp only[aR];exact⟨f,rfl,d⟩),λ_ e=>by cases e⟩
  rw[i]
  simp
  match f,c with
  |[],_=>rfl
  |_::_::_,_=>rfl
theorem tS {R:Ending->World->Prop}(j:C.base=[]): ∀(D:List Nat) {H H':Heap} {a:Act} {w:World},uV H D H'->kW P env H' fn.results.toList res->
  Sat C env H D a w S L->(∀v g u w',Sat C env H' [] u w' S L->bF C.A S w' g res v->(∀b,g=some b-> ∃t,L t=some b)->R (.returned v) w')->LeavesInM ek 0 P fn a.tmps R a.defers .returning w
 |[],H,H',a,w,l,n,hs,k=>by
  cases l
  rw[hs.uj,j]
  obtain⟨v,g,x,f,hg⟩:=n.run hs
  exact⟨v,x,k v g _ w hs f hg⟩
 |r::D,H,H',a,w,l,n,hs,k=>by
  obtain⟨i,hi,m⟩:=l
  rw[hs.uj,j,dk]
  have d:=hs.at_ hi
  obtain⟨o,s,hx⟩:=d.holds
  simp only[Holds]at hx
  subst hx
  have h:r<w.heap.size:=(Array.getElem?_eq_some_iff.1 s).1
  have p:=hs.replace hi (y:=.raw (.deferred none)) (w':={w with heap:=w.heap.setIfInBounds r (.deferred none)}) (o:=.deferred none)
   (by simp [h]) rfl zj (λg hg=>by
     show (w.heap.setIfInBounds r (.deferred none))[g]? =w.heap[g]?
     rw[Array.getElem?_setIfInBounds,if_neg (λe=>hg e.symm)]) rfl rfl rfl
  have c:=p.drop i
  rw[List.eraseIdx_set_eq]at c
  have q:Sat C env (H.eraseIdx i) D {a with defers:=D.map lq} {w with heap:=w.heap.setIfInBounds r (.deferred none)} S L:={c with uj:=by rw[j,dk],size:=c.size}
  refine⟨zj,.inl ⟨r,{w with heap:=w.heap.setIfInBounds r (.deferred none)},rfl,?_,?_⟩⟩
  ·exact run_takeDeferred s
  ·exact tS j D m n q k
structure rY (P:Program)(f:FuncId)(N:Nat)(rs:List ResultVar)(lc:bN):Prop where
 fn: ∃fn:Func,P.funcs[f]? =some fn/\(fn.name== "runtime.NumGoroutine")=false/\fn.ntmps=N/\fn.results.toList=rs/\fn.body.bind (lowerCode P N)=some lc
theorem Ev.intro (ok:rY P f N rs lc)(h:aJ P none N lc (pD P rs res) (dA args) [] []):Ev P f args res:=by
 obtain⟨fn,E,L,T,z,o⟩:=ok.fn;obtain⟨c,r,o⟩:=Option.bind_eq_some_iff.1 o;refine⟨⟨fn,E,L,by rw[r];rfl⟩,?_⟩;intro S w x l m j;rw[<-callsIn_wide (n:=0)];refine callsIn_of_wp_marks E r trivial ?_;let C:Ctx:={A:=λb=>w.heap.size<=b,w0:=w,S0:=S,F:=[],N:=N,hA:=λ_ h=>h,hg:=l,Pm:=λb r h=>Nat.not_le.2 (m.lt (l.1 b r)) h,TH:=λb r=>m.lt (l.1 b r)}
 have hs:Sat C (dA args) [] [] {tmps:=x.toArray++eT (fn.ntmps-x.toArray.size) undef,defers:=[]} w S (λ_=>none):=by
  refine
   {size:=?_,uj:=rfl,le:=aE.Le.refl S,sin:=m,ka:=λ_ h=>.inl h,below:=eI.refl _ _,env:=?_,heap:=zj,frame:=by simp [C],nodup:=by simp [C],aI:=zj,gk:=by simp}
  ·grind
  ·intro t
   have s:(dA args t)= .any\/ ∃p,args[t]? =some p/\dA args t=p:=by
    unfold dA;cases h:args[t]? with
    |none=>exact .inl rfl
    |some p=>exact .inr ⟨p,rfl,rfl⟩
   rcases s with he|⟨p,M,he⟩
   ·rw[he];exact bF.dC rfl (by simp [aR])
   ·obtain⟨c,hc,G⟩:=j.get M;have y:=iD hc;have O:(x.toArray++eT (fn.ntmps-x.toArray.size) undef).getD t undef=c:=by rw[Array.getD_eq_getD_getElem?,Array.getElem?_append_left (by simpa using y)];simp [hc]
    rw[he,O];exact bF.dC G.jP G
 refine wpIn_mono (h c (db o) C _ w S _ rfl hs) ?_;rintro e D w' ⟨env',H',H,q,R,B,he,I,K,i⟩;have fin:LeavesInM ek 0 P fn D.tmps (λe w'=> ∃v q g,e= .returned v/\S.Le q/\q.In w'/\(∀b,q.has b->S.has b\/w.heap.size<=b)/\ew w.heap.size w w'/\bF (λb=>w.heap.size<=b) q w' g res v) D.defers .returning w':=by rw[<-z]at i;exact tS rfl H K i B (λv g J Q d u _=>have a:=d.below;⟨v,q,g,rfl,d.le,d.sin,d.ka,⟨a.os,a.tape,a.output,a.size,λk hk=>a.block k hk zx⟩,u⟩)
 rcases he with rfl|rfl
 ·exact fin
 ·exact fin
end
variable {dst:Option Nat}
abbrev I (n:Int):AV:=.v (.int .i64 n)
abbrev B (b:Bool):AV:=.v (.bool b)
abbrev U (n:Int):AV:=.v (.int .u8 n)
def el:List (Nat×AV)->Env
 |[],_=>.any
 |(t,p)::l,i=>bif fu i t then p else el l i
def qX (env:Env):List (Nat×AV)->Prop
 |[]=>True
 |(t,p)::l=>env t=p/\qX env l
theorem WE : ∀{l:List (Nat×AV)},qX env l-> ∀t,el l t= .any\/el l t=env t
 |[],_,t=>.inl rfl
 |(u,p)::l,h,t=>by
  simp only[el]
  cases a:fu t u with
  |true=>
   have:=Nat.eq_of_beq_eq_true a
   subst this
   exact .inr h.1.symm
  |false=>exact WE h.2 t
section
variable {r:Option Nat}{Q:cI}
theorem bB.Ki (h: ∀t,env' t= .any\/env' t=env t):bB env H D env' H D:=by
 intro C a w S L hs;refine⟨S,λt=>if (env' t).bC then L t else none,aE.Le.refl S,{hs with env:=?_,aI:=?_,gk:=?_}⟩
 ·intro t;rcases h t with e|e
  ·rw[e];exact bF.dC rfl (by simp [aR])
  ·have f:=hs.env t;rw[<-e]at f;cases hl:(env' t).bC with
   |true=>simpa [hl]using f
   |false=>exact bF.dC hl (f.rep hl).2
 ·intro t b e;try dsimp only at e
  split at e
  ·exact hs.aI t b e
  ·cases e
 ·intro t u b c d;try dsimp only at c d
  split at c
  ·split at d
   ·exact hs.gk t u b c d
   ·cases d
  ·cases c
theorem bB.el {l:List (Nat×AV)}(h:qX env l):bB env H D (Px.el l) H D:=bB.Ki (WE h)
theorem aJ.nV {id:Nat}{x y:bN}(h:aJ P r N x (pI id (jG (λe h d=>aJ P r N y Q e h d) Q)) env H D):aJ P r N (.seq (.block id x) y) Q env H D:=aJ.seq (aJ.block h)
theorem fh {e:Exit}(he:e= .normal\/e= .ret)(h:kW P env H rs res):pD P rs res e env H []:=⟨he,H,rfl,h⟩
end
variable {H1:Heap}{W:List (Nat×AV)}
def dG:Env->List (Nat×AV)->Env
 |env,[]=>env
 |env,(d,p)::W=>dG (dK env d p) W
theorem iy : ∀{env:Env} {t:Nat},t ∉ W.map (·.1)->dG env W t=env t:=by
 induction W with
 |nil=>intro env t _;rfl
 |cons q W a=>intro env t h;simp only[cR,bA,not_or]at h;simp only[dG];rw[a h.2,eB _ _ h.1]
theorem zY : ∀{env env':Env} {t:Nat},t∈W.map (·.1)->dG env W t=dG env' W t:=by
 induction W with
 |nil=>grind
 |cons q W b=>
  intro env env' t h;simp only[dG];by_cases a:t∈W.map (·.1)
  ·exact b a
  ·rw[iy a,iy a];simp only[cR,bA]at h;rcases h with rfl|h
   ·rw[bw,bw]
   ·exact absurd h a
theorem K2 (h:env t=env' t):dG env W t=dG env' W t:=by
 by_cases a:t∈W.map (·.1)
 ·exact zY a
 ·rw[iy a,iy a,h]
def R7 (S:aE)(p:AV)(y:Value)(b:Nat)(x:cP):Prop:=match p with
 | .aI T k es=> ∃cap,y= .slice (some ⟨b,0,none⟩) es.length cap/\x= .arr T k cap es
 | .dO T cs=>y= .pointer (some ⟨b,0,none⟩)/\x= .cells T cs
 | .jr T k es c a=>y= .slice c es.length a/\ ∃cap,y= .slice (some ⟨b,0,none⟩) es.length cap/\x= .arr T k cap es
 | .lmap cs es=>(∃bb off,y= .pointer (some ⟨bb,off,none⟩)/\eO S (cs++[.mo b]) bb off)/\x= .map es
 |_=>False
theorem bF.pre {B:Nat->Prop}{y:Value}(h:bF B S w (some b) p y): ∃x,R7 S p y b x/\Own B S w b x:=by
 cases p<;>simp only[bF]at h
 case aI T k es=>
  rcases h with⟨_,_,h⟩|⟨g,cap,a,hy,c⟩
  ·cases h
  ·cases a;exact⟨_,⟨cap,hy,rfl⟩,c⟩
 case dO T cs=>obtain⟨g,a,hy,c⟩:=h;cases a;exact⟨_,⟨hy,rfl⟩,c⟩
 case jr T k es f d=>
  obtain⟨e,h⟩:=h;rcases h with⟨_,_,h⟩|⟨g,cap,a,hy,c⟩
  ·cases h
  ·cases a;exact⟨_,⟨e,cap,hy,rfl⟩,c⟩
 case lmap cs es=>obtain⟨g,bb,off,a,hy,hc,c⟩:=h;cases a;exact⟨_,⟨⟨bb,off,hy,hc⟩,rfl⟩,c⟩
 all_goals (obtain⟨h,_⟩:=h;cases h)
theorem R7.mono {c:aE}(a:S.Le c){y:Value}{x:cP}(h:R7 S p y b x):R7 c p y b x:=by
 cases p<;>simp only[R7]at h ⊢;case lmap cs es=>obtain⟨⟨bb,off,hy,hc⟩,rfl⟩:=h;exact⟨⟨bb,off,hy,eO.mono a _ _ _ hc⟩,rfl⟩
 all_goals exact h
theorem R7.aaq {B:Nat->Prop}{y:Value}{x:cP}(h:R7 S p y b x)(a:Own B S w b x):bF B S w (some b) p y:=by
 cases p<;>simp only[R7]at h;case aI T k es=>obtain⟨cap,hy,rfl⟩:=h;simp only[bF];exact .inr ⟨b,cap,rfl,hy,a⟩
 case dO T cs=>obtain⟨hy,rfl⟩:=h;simp only[bF];exact⟨b,rfl,hy,a⟩
 case jr T k es e c=>obtain⟨d,cap,hy,rfl⟩:=h;simp only[bF];exact⟨d,.inr ⟨b,cap,rfl,hy,a⟩⟩
 case lmap cs es=>obtain⟨⟨bb,off,hy,hc⟩,rfl⟩:=h;simp only[bF];exact⟨b,bb,off,rfl,hy,hc,a⟩
theorem bF.CV {B:Nat->Prop}{d:aE}{y:Value}(h:bF B S w none p y)(b:S.Le d):bF B d w' none p y:=by
 cases c:p.bC with
 |false=>exact bF.dC c (aR.mono b _ _ (h.rep c).2)
 |true=>
  cases p<;>simp only[AV.bC,ej]at c
  case aI T k es=>
   simp only[bF]at h ⊢;rcases h with h|⟨g,cap,a,_⟩
   ·exact .inl h
   ·cases a
  case dO T cs=>simp only[bF]at h;obtain⟨g,a,_⟩:=h;cases a
  case lmap cs es=>simp only[bF]at h;obtain⟨g,bb,off,a,_⟩:=h;cases a
  case jr T k es i e=>
   simp only[bF]at h ⊢;obtain⟨f,h⟩:=h;refine⟨f,?_⟩;rcases h with h|⟨g,cap,a,_⟩
   ·exact .inl h
   ·cases a
section
variable {r:Option Nat}{env0:Env}
theorem Np (hs:Sat C env H D a w S L)(R:Nat->Prop): ∀n:Nat,∃d:Heap,
  (∀e∈d,Own C.A S w e.1 e.2)/\(∀t,t<n-> ∀b,L t=some b->R t-> ∃x,(b,x)∈d/\R7 S (env t) (a.tmps.getD t undef) b x)/\(∀e∈d,∃t,t<n/\L t=some e.1/\R t)/\(d.map (·.1)).Nodup:=by
 intro n
 induction n with
 |zero=>exact⟨[],zj,zx,zj,zj⟩
 |succ n z=>
  obtain⟨d,r,s,l,h4⟩:=z
  by_cases v: ∃b,L n=some b/\R n
  ·obtain⟨b,g,u⟩:=v
   have m:=hs.env n
   rw[g]at m
   obtain⟨x,hx,y⟩:=m.pre
   refine⟨(b,x)::d,?_,?_,?_,?_⟩
   ·intro e he
    rcases bA.1 he with rfl|he
    ·exact y
    ·exact r e he
   ·intro t o p c h
    by_cases e:t=n
    ·subst e
     rw[g]at c;cases c
     exact⟨x,zj,hx⟩
    ·obtain⟨B,j,k⟩:=s t zz p c h
     exact⟨B,by simp [j],k⟩
   ·intro e he
    rcases bA.1 he with rfl|he
    ·exact⟨n,zz,g,u⟩
    ·obtain⟨t,o,f,q⟩:=l e he;exact⟨t,zz,f,q⟩
   ·simp only[cR,List.nodup_cons]
    refine⟨λhm=>?_,h4⟩
    obtain⟨e,he,i⟩:=bn.1 hm
    obtain⟨t,o,f,_⟩:=l e he
    rw[i]at f
    have:=hs.gk t n b f g
    omega
  ·grind
theorem Sat.Yi (hs:Sat C env H D a w S L)(h:L t=some b):t<a.tmps.size:=by
 apply e4;intro d;have c:=hs.env t;rw[h]at c;obtain⟨x,hx,_⟩:=c.pre;have f:a.tmps.getD t undef=undef:=zx
 rw[f]at hx;cases e:env t<;>rw[e]at hx<;>simp only[R7]at hx;case aI=>obtain⟨cap,hy,_⟩:=hx;cases hy
 case dO=>obtain⟨hy,_⟩:=hx;cases hy
 case jr=>obtain⟨hy,_⟩:=hx;cases hy
 case lmap=>obtain⟨⟨_,_,hy,_⟩,_⟩:=hx;cases hy
def O3 (P:Program)(r:Option Nat)(N:Nat)(l:jM)(dst:Option Nat)(env:Env)(H H1:Heap)(D:List Nat)(W:List (Nat×AV)):Prop:=
 aF P r N l dst env H D (λe h d=>e=dG env W/\h=H1/\d=D)
abbrev Q1 (P:Program)(r:Option Nat)(N:Nat)(l:jM)(dst:Option Nat)(env:Env)(H:Heap)(D:List Nat)(W:List (Nat×AV)):Prop:=O3 P r N l dst env H H D W
open Classical in
theorem O3.frame {l:jM}(s: ∀t,env0 t= .any\/env0 t=env t)(h:O3 P r N l dst env0 H H1 D W)(I: ∀d,dst=some d->d∈W.map (·.1)):O3 P r N l dst env H H1 D W:=by
 intro o ho hd O C a w S L Z hs next Q z
 obtain⟨j,f1,f2,f3,f4⟩:=Np hs (λt=>env0 t= .any) a.tmps.size
 have T:Sat {C with F:=C.F++j} env0 H D a w S (λt=>if (env0 t).bC then L t else none):=by
  refine {hs with env:=?_,frame:=?_,nodup:=?_,aI:=?_,gk:=?_}
  ·intro t;rcases s t with e|e
   ·rw[e];exact bF.dC rfl (by simp [aR])
   ·have R:=hs.env t;rw[<-e]at R;cases hl:(env0 t).bC with
    |true=>simpa [hl]using R
    |false=>exact bF.dC hl (R.rep hl).2
  ·intro e he;rcases an.1 he with he|he
   ·exact hs.frame e he
   ·exact f1 e he
  ·show ((H++(C.F++j)).map (·.1)).Nodup;rw[<-bx,bm,cB];refine⟨hs.nodup,f4,?_⟩;intro b B b' M e;subst e;obtain⟨e,he,rfl⟩:=bn.1 M;obtain⟨t,_,f,_⟩:=f3 e he;exact hs.aI t _ f B
  ·intro t b e hm
   have K:(env0 t).bC=true/\L t=some b:=by
    split at e
    ·rename_i hl;exact⟨hl,e⟩
    ·cases e
   have hm':b∈(H++(C.F++j)).map (·.1):=hm;rw[<-bx,bm,an]at hm';rcases hm' with hm'|hm'
   ·exact hs.aI t b K.2 hm'
   ·obtain⟨Y,he,B⟩:=bn.1 hm';obtain⟨u,_,f,i⟩:=f3 Y he;rw[B]at f;have:=hs.gk t u b K.2 f;subst this;rw[i]at K;simp [AV.bC]at K
  ·intro t u b f i;split at f
   ·split at i
    ·exact hs.gk t u b f i
    ·cases i
   ·cases f
 refine h o ho hd O {C with F:=C.F++j} a w S _ Z T next Q ?_
 rintro env' H' V y w' X U ⟨rfl,rfl,rfl⟩ c k;refine z (dG env W) H' V y w' X (λt=>if t∈W.map (·.1)\/env0 t≠.any then U t else L t) ⟨rfl,rfl,rfl⟩ ?_ k
 have q: ∀t,t ∉ W.map (·.1)->(a.put dst y).tmps.getD t undef=a.tmps.getD t undef:=by
  intro t v;cases dst with
  |none=>rfl
  |some d=>exact kT (λe=>v (e▸I d rfl))
 have n: ∀t,env0 t= .any-> ∀b,L t=some b-> ∃x,(b,x)∈j/\R7 S (env t) (a.tmps.getD t undef) b x:=λt e b B=>f2 t (hs.Yi B) b B e;refine {c with env:=?_,frame:=?_,nodup:=?_,aI:=?_,gk:=?_}
 ·intro t;by_cases p:t∈W.map (·.1)
  ·simp only[p,true_or,if_true];rw[zY (env':=env0) p];exact c.env t
  ·rw[iy p];rcases s t with e|e
   ·simp only[p,e,ne_eq,not_true_eq_false,or_self,if_false];rw[q t p];cases G:L t with
    |none=>exact(G▸hs.env t).CV k
    |some b=>obtain⟨x,g,A⟩:=n t e b G;exact(A.mono k).aaq (c.frame (b,x) (an.2 (.inr g)))
   ·by_cases ha:env0 t= .any
    ·have a0:env t= .any:=by rw[<-e,ha]
     simp only[p,ha,ne_eq,not_true_eq_false,or_self,if_false];rw[q t p];cases G:L t with
     |none=>exact(G▸hs.env t).CV k
     |some b=>obtain⟨x,g,A⟩:=n t ha b G;exact(A.mono k).aaq (c.frame (b,x) (an.2 (.inr g)))
    ·simp only[p,ha,ne_eq,not_false_eq_true,or_true,if_true];rw[<-e];have:=c.env t;rw[iy p]at this;exact this
 ·intro e he;exact c.frame e (an.2 (.inl he))
 ·have:=c.nodup;have e:H'++(C.F++j)=H'++C.F++j:=zx
  have J:((H'++(C.F++j)).map (·.1)).Nodup:=this;rw[e,bm]at J;exact(cB.1 J).1
 ·intro t b e hm;split at e
  ·refine c.aI t b e ?_;show b∈(H'++(C.F++j)).map (·.1);rw[<-bx,bm,an];exact .inl hm
  ·rename_i v;simp only[not_or,bt]at v;obtain⟨x,g,_⟩:=n t v.2 b e;have J:((H'++(C.F++j)).map (·.1)).Nodup:=c.nodup;rw[<-bx,bm,cB]at J;exact J.2.2 b hm b (bn.2 ⟨_,g,rfl⟩) rfl
 ·intro t u b f i;have m: ∀t u,(t∈W.map (·.1)\/env0 t≠.any)-> ¬(u∈W.map (·.1)\/env0 u≠.any)->U t=some b->L u=some b->False:=by intro t u _ E f i;simp only[not_or,bt]at E;obtain⟨x,g,_⟩:=n u E.2 b i;refine c.aI t b f ?_;show b∈(H'++(C.F++j)).map (·.1);simp only[bm,an,bn];exact .inr (.inr ⟨(b,x),g,rfl⟩)
  split at f
  ·rename_i v;split at i
   ·exact c.gk t u b f i
   ·rename_i E;exact(m t u v E f i).elim
  ·rename_i v;split at i
   ·rename_i E;exact(m u t E v i f).elim
   ·exact hs.gk t u b f i
theorem Q1.frame {l:jM}(b: ∀t,env0 t= .any\/env0 t=env t)(h:Q1 P r N l dst env0 H D W)(a: ∀d,dst=some d->d∈W.map (·.1)):Q1 P r N l dst env H D W:=O3.frame b h a
end
end Go.Px
