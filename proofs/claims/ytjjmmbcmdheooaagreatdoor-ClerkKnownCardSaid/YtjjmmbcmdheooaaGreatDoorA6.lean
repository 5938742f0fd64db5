/- Part 6 of the proof of a statement of this seat (a logic of pure contracts; the functions; their contracts). No conditions. -/
import Derived.Test.YtjjmmbcmdheooaaGreatDoorA5
import Derived.MapFrom
import Derived.Maps.RangeRun
import Derived.Laws.IdiomStrings
open Array renaming getElem?_toList->b4,getElem?_setIfInBounds->b8,getD_eq_getD_getElem?->b9,getElem?_eq_some_iff->cb,toList_push->cr,toList_inj->cR,getElem?_modify->dn,replicate->eP
open Go.ChangeMaps renaming setBlock->e6
open Go.Deferred renaming ofValue->b6
open Go.Fence renaming wide->cc
open Go.Instr renaming findAsking->bm,sameBits->bA,findKey->cB,getLoop->cD,mapUpdate->dl,mapEntry->ds,keyThatStays->ek,lookup->et,yield->e3
open Go.MapKept renaming run_getObj_map->ap,run_setObj_map->bi
open Go.Op renaming maxDepth->eM,equal->e2
open Go.Result renaming andThen_ok->bI
open Go.Sem renaming run_bind->c8,run_pure->de,run->ea
open Go.Value renaming func->dk,cells->e5
open List renaming mem_append->ad,map_append->an,nodup_append->az,mem_map->be,mem_of_getElem?->bk,mem_iff_getElem?->bn,append_assoc->bs,getElem?_map->bt,mem_cons_of_mem->b7,ext_getElem?->cA,map_cons->ec,mem_cons->ej,mem_cons_self->en,zip_cons_cons->er,cons_append->ew,perm_middle->ey,append_nil->eS,nodup_cons->eT,foldl_nil->e0
open Nat renaming lt_of_lt_of_le->bx,le_refl->e4
open Option renaming map_eq_some_iff->c7,map_some->eU
open Option.some renaming injEq->eu
namespace Go.Px
variable {ty:TypeId}{a:Act}{w w':World}{S:aE}{b:Nat}{ps qs:List AV}{p:AV}{H' H0 Hin:Heap}{f:FuncId}{x:Operand}
def AH (w:World)(Hin:Heap):Nat->Prop:=λb=>w.heap.size<=b\/b∈Hin.map (·.1)
theorem sN.apart (h:sN S w)(a:S.In w)(d: ∀e∈Hin,Own (λ_=>True) S w e.1 e.2): ∀b∈N3,¬AH w Hin b:=by
 rintro b c (h1|h1)
 ·exact Nat.not_le.2 (a.lt (h.1 b c)) h1
 ·obtain⟨e,he,rfl⟩:=be.1 h1;exact(d e he).apart (h.1 _ c)
def IY (S:aE)(w:World)(Hin:Heap)(R:AV->Heap->Prop):Ending->World->Prop:=λe w'=> ∃v c g res a,e= .returned v/\R res a/\S.Le c/\c.In w'/\(∀b,c.has b->S.has b\/AH w Hin b)/\
 eI (AH w Hin) w w'/\bF (AH w Hin) c w' g res v/\(∀e∈a,Own (AH w Hin) c w' e.1 e.2)/\(a.map (·.1)).Nodup/\ ∀b,g=some b->b ∉ a.map (·.1)
def il (P:Program)(f:FuncId)(args:List AV)(Hin:Heap)(R:AV->Heap->Prop):Prop:=
 vd P f/\ ∀(S:aE) (w:World) (a:List Value),sN S w->S.In w->aS S args a->(∀e∈Hin,Own (λ_=>True) S w e.1 e.2)->(Hin.map (·.1)).Nodup->
  Calls P f a.toArray w (IY S w Hin R)
def zX (P:Program)(l:Nat)(args:List AV)(Hin:Heap)(R:AV->Heap->Prop):Prop:=
 ∀(S:aE) (w:World) (b:List Value),sN S w->S.In w->aS S args b->(∀e∈Hin,Own (λ_=>True) S w e.1 e.2)->(Hin.map (·.1)).Nodup->
  ∃lp:Loop,w.heap[l]? =some (.loop lp)/\b.length=lp.params.size/\
   RoundIn cc 0 P l lp.fn ((lp.params.zip b.toArray).foldl (λtmps (t,a)=>tmps.setIfInBounds t a) lp.tmps) lp.assign lp.body w (IY S w Hin R)
def Pn (P:Program)(fn:Fn)(a args:List AV)(Hin:Heap)(R:AV->Heap->Prop):Prop:=match fn with
 | .func f=>il P f args Hin R
 | .yield l=>a=[]/\zX P l args Hin R
 |_=>False
theorem bF.gn {B e:Nat->Prop}{g:Option Nat}{y:Value}(h:bF B S w g p y)(d: ∀b,g=some b->B b->e b):bF e S w g p y:=by
 cases p
 case aI T k es=>
  simp only[bF]at h ⊢;rcases h with h|⟨b,cap,c,hy,a⟩
  ·exact .inl h
  ·exact .inr ⟨b,cap,c,hy,d _ c a.base,a.apart,a.holds⟩
 case dO T cs=>simp only[bF]at h ⊢;obtain⟨b,c,hy,a⟩:=h;exact⟨b,c,hy,d _ c a.base,a.apart,a.holds⟩
 case jr T k es j f=>
  simp only[bF]at h ⊢;obtain⟨i,h⟩:=h;refine⟨i,?_⟩;rcases h with h|⟨b,cap,c,hy,a⟩
  ·exact .inl h
  ·exact .inr ⟨b,cap,c,hy,d _ c a.base,a.apart,a.holds⟩
 case lmap cs es=>simp only[bF]at h ⊢;obtain⟨g,bb,off,c,hy,hc,a⟩:=h;exact⟨g,bb,off,c,hy,hc,d _ c a.base,a.apart,a.holds⟩
 all_goals exact h
theorem Own.gn {B a:Nat->Prop}{x:cP}(h:Own B S w b x)(c:B b->a b):Own a S w b x:=⟨c h.base,h.apart,h.holds⟩
section
variable {P:Program}{r:Option Nat}{N:Nat}{env:Env}{H:Heap}{D:List Nat}{dst:Option Nat}{K:Env->Heap->List Nat->Prop}{Q:cI}
variable {C:Ctx}{L:Nat->Option Nat}
theorem Sat.I9 (hs:Sat C env H D a w S L)(g: ∀e∈H',e∈H)(i:(H'.map (·.1)).Nodup):Sat C env H' D a w S L:=by
 have hm: ∀b,b∈(H'++C.F).map (·.1)->b∈(H++C.F).map (·.1):=zx
 refine {hs with heap:=λe he=>hs.heap e (g e he),nodup:=?_,aI:=λt b e d=>hs.aI t b e (hm b d)};have c:=hs.nodup;rw[an,az]at c ⊢;refine⟨i,c.2.1,?_⟩;intro b d h f e;obtain⟨x,hx,rfl⟩:=be.1 d;exact c.2.2 x.1 (be.2 ⟨x,g x hx,rfl⟩) h f e
theorem Sat.aaU (hs:Sat C env H D a w S L){G:Heap}(d: ∀e∈G,Own C.A S w e.1 e.2)(f:(G.map (·.1)).Nodup)(g: ∀b,b∈G.map (·.1)->b ∉ (H++C.F).map (·.1))(h4: ∀t b,L t=some b->b ∉ G.map (·.1)):
  Sat C env (G++H) D a w S L:=by
 refine {hs with heap:=?_,nodup:=?_,aI:=?_}
 ·intro e he
  rcases ad.1 he with he|he
  ·exact d e he
  ·exact hs.heap e he
 ·rw[bs,an,az]
  exact⟨f,hs.nodup,λb hb h c e=>g b hb (e▸c)⟩
 ·intro t b e hb
  rw[bs,an,ad]at hb
  rcases hb with hb|hb
  ·grind
  ·exact hs.aI t b e hb
theorem Sat.tG {c:Heap}(hs:Sat C env (Hin++H0) D a w S L)(hd: ∀d,dst=some d->d<C.N){r:aE}{g:Option Nat}{v:Value}
  (E:S.Le r) (B:r.In w') (i: ∀b,r.has b->S.has b\/AH w Hin b) (hb:eI (AH w Hin) w w') (M:bF (AH w Hin) r w' g p v)
  (K: ∀e∈c,Own (AH w Hin) r w' e.1 e.2) (H:(c.map (·.1)).Nodup) (hg: ∀b,g=some b->b ∉ c.map (·.1)):
  ∃O,Sat C (ct env dst p) (c++H0) D (a.put dst v) w' r O:=by
 have o:=hs.nodup
 rw[bs,an,az]at o
 have x:(H0.map (·.1)).Nodup:=zx
 have s:=hs.I9 (H':=H0) (λe he=>ad.2 (.inr he)) x
 have n: ∀b,AH w Hin b->C.A b:=by
  rintro b (hb|hb)
  ·exact hs.fresh hb
  ·obtain⟨e,he,rfl⟩:=be.1 hb
   exact(hs.heap e (ad.2 (.inl he))).base
 have l: ∀b,b<w.heap.size->b ∉ Hin.map (·.1)-> ¬AH w Hin b:=by
  rintro b I y (h|h)
  ·omega
  ·exact y h
 have m: ∀b,b∈(H0++C.F).map (·.1)-> ¬AH w Hin b:=λb hb=>l b (s.qk hb) (λhh=>o.2.2 b hh b hb rfl)
 have j: ∀t b,L t=some b-> ¬AH w Hin b:=λt b e=>l b (hs.FA e) (λhh=>hs.aI t b e zx)
 have q: ∀b,S.has b-> ¬AH w Hin b:=λb hb=>l b (hs.sin.lt hb) (λhh=>by
  obtain⟨e,he,rfl⟩:=be.1 hh
  exact(hs.heap e (ad.2 (.inl he))).apart hb)
 have I:=s.world (w':=w') (hb.mono (λk _ hk=>n k hk)) (λb f=>hb.block b (hs.sin.lt f) (q b f)) (λb f=>hb.block b (s.qk f) (m b f)) (λt b e=>hb.block b (hs.FA e) (j t b e))
 have y:=I.snap E B (λb hh=>(i b hh).imp id (n b))
  (λe he hh=>by
    have u:e.1∈(H0++C.F).map (·.1):=be.2 ⟨e,he,rfl⟩
    rcases i _ hh with h|h
    ·rcases ad.1 he with he|he
     ·exact(s.heap e he).apart h
     ·exact(s.frame e he).apart h
    ·exact m _ u h)
  (λt b e hh=>by
    rcases i _ hh with h|h
    ·exact hs.zP e h
    ·exact j t b e h)
 have P: ∀e∈c,AH w Hin e.1:=λe he=>(K e he).base
 have J:=y.aaU (G:=c) (λe he=>(K e he).gn (n _)) H
  (λb f hm=>zx)
  (λt b e hm=>zx)
 cases dst with
 |none=>exact⟨L,J⟩
 |some d=>
  refine⟨_,J.lP (d:=d) (g:=g) (bx (hd d rfl) hs.size) (M.gn (λb _ f=>n b f)) ?_⟩
  intro b e
  subst e
  have z:=M.wR.1
  refine⟨λhm=>?_,λt _ e=>j t b e z⟩
  rw[bs,an,ad]at hm
  rcases hm with hm|hm
  ·grind
  ·grind
theorem Oper.Kr {o:Oper}{l:jM}(hl:Lo P o l)(c: ∀op,l≠.other op){lo:Nat}{tmps:Array Value}{assign body:Code}
  (h:(execOp a.eval o).run P w= .ok (.round lo f tmps assign body) w') {next:Act->World->Prop} {Q:Exit->Act->World->Prop}
  (k:RoundIn cc 0 P lo f tmps assign body w' (λe b=> ∃v,e= .returned v/\next (a.put o.dst v) b)):o.wpIn (Fw r) 0 P a w next Q:=by
 refine⟨λ_ _=>trivial,?_⟩
 show o.uponIn (Fw r) 0 P a next Q ((o.semAt r a.eval).run P w)
 rw[hl.semAt c,h]
 refine⟨λhd=>by simp [Fw,cc]at hd,?_⟩
 have d:RoundIn (Fw r) 0 P lo f tmps assign body w' (λe b=> ∃v,e= .returned v/\next (a.put o.dst v) b):=by
  cases r with
  |none=>exact k
  |some _=>exact k
 refine d.mono ?_
 rintro e b ⟨v,rfl,hk⟩
 exact hk
theorem Sat.kX (hs:Sat C env (Hin++H0) D a w S L):(∀e∈Hin,Own (λ_=>True) S w e.1 e.2)/\(Hin.map (·.1)).Nodup:=by have b:=hs.nodup;rw[bs,an,az]at b;exact⟨λe he=>(hs.heap e (ad.2 (.inl he))).gn (λ_=>trivial),b.1⟩
theorem aF.GV {args:List Operand}{R:AV->Heap->Prop}(m:il P f qs Hin R)(A:args.map (bu env)=ps)(E:ps.all (λp=> !p.bC)=true)(t:oL ps qs)
  (F:H=Hin++H0) (k: ∀res b,R res b->K (ct env dst res) (b++H0) D):aF P r N (.call f args ty) dst env H D K:=by
 subst F
 intro o l hd y C a w S L G hs next Q i
 have x: ∀p∈ps,p.bC=false:=λp X=>zx
 have c:=t S _ (hs.sj args A x)
 cases y with
 |call s M O J=>
  rename_i xs Y fn
  refine Oper.kr (.call s M O J) zj (f:=f) (args:=xs.map a.eval) (w':=w) ?_ ?_
  ·simp [execOp,s,resolve,b6,Act.eval,invoke,dI m.1]
  ·have h:=m.2 S w _ hs.gl hs.sin c hs.kX.1 hs.kX.2
   have e:(List.map a.eval xs.toList).toArray=xs.map a.eval:=by rw[<-Array.toList_map]
   rw[e]at h
   refine h.mono ?_
   rintro e w' ⟨v,W,g,res,b,rfl,I,n,u,q,j,U,T,z,hg⟩
   obtain⟨V,B⟩:=hs.tG (dst:=dst) (λd e=>G▸hd d e) n u q j U T z hg
   exact⟨v,rfl,by rw[l];exact i _ _ _ _ _ _ _ (k res b I) B n⟩
theorem aF.Ae {args:List Operand}{fn:Fn}{first h:List AV}{R:AV->Heap->Prop}(hx:bu env x= .fn fn first h)(b:Pn P fn h qs Hin R)
  (V:args.map (bu env)=ps) (Y:ps.all (λp=> !p.bC)=true) (A:oL (first++ps++h) qs) (hH:H=Hin++H0) (k: ∀res c,R res c->K (ct env dst res) (c++H0) D):
  aF P r N (.fP x args ty) dst env H D K:=by
 subst hH
 intro o X hd M C a w S L hN hs next Q U
 have I: ∀p∈ps,p.bC=false:=λp hp=>zx
 have B:=hs.cY x hx rfl
 simp only[aR]at B
 obtain⟨j,cs,E,F,q⟩:=B
 have i:=A S _ ((F.append (hs.sj args V I)).append q)
 have fin: ∀e w',IY S w Hin R e w'-> ∃v,e= .returned v/\next (a.put o.dst v) w':=by
  rintro e w' ⟨v,S',g,res,c,rfl,hR,J,G,z,s,hr,ho,T,hg⟩
  obtain⟨L',a0⟩:=hs.tG (dst:=dst) (λd e=>hN▸hd d e) J G z s hr ho T hg
  exact⟨v,rfl,zx⟩
 cases M with
 |fP m=>
  rename_i xs ts
  have e:j.toArray++xs.map a.eval++cs.toArray=(j++xs.toList.map a.eval++cs).toArray:=zx
  cases fn with
  |func f=>
   refine Oper.kr (.fP m) zj (f:=f) (args:=(j++xs.toList.map a.eval++cs).toArray) (w':=w) ?_ ?_
   ·simp [execOp,m,resolve,b6,E,invoke,dI b.1]
   ·exact(b.2 S w _ hs.gl hs.sin i hs.kX.1 hs.kX.2).mono fin
  |yield l=>
   obtain⟨rfl,b⟩:=b
   simp only[aS]at q
   subst q
   obtain⟨lp,O,y,n⟩:=b S w _ hs.gl hs.sin i hs.kX.1 hs.kX.2
   have W:(j++xs.toList.map a.eval++[]).toArray.size=lp.params.size:=by simpa using y
   have u:(execOp a.eval o).run P w= .ok (.round l lp.fn ((lp.params.zip (j++xs.toList.map a.eval++[]).toArray).foldl (λtmps (t,a)=>tmps.setIfInBounds t a) lp.tmps) lp.assign lp.body) w:=by
    have hy:(e3 l (j++xs.toList.map a.eval++[]).toArray).run P w= .ok (.round l lp.fn ((lp.params.zip (j++xs.toList.map a.eval++[]).toArray).foldl (λtmps (t,a)=>tmps.setIfInBounds t a) lp.tmps) lp.assign lp.body) w:=by
     simp only[e3,cD,getObj,c8,ea,O,bI,de,W]
     simp
    have Z:j.toArray++xs.map a.eval=(j++xs.toList.map a.eval++[]).toArray:=by
     apply cR.1;simp
    simp only[execOp,m,resolve,b6,E,c8,de,bI,invoke,Z]
    exact hy
   exact Oper.Kr (.fP m) zj u (n.mono fin)
  |_=>exact b.elim
end
variable {args:List AV}{lc:bN}{N:Nat}{H H1:Heap}{rs:List ResultVar}{res:AV}
def wM (P:Program)(rs:List ResultVar)(R:AV->Heap->Prop):cI:=λe env H D=>(e= .normal\/e= .ret)/\ ∃H' res a,uV H D H'/\kW P env H' rs res/\R res a/\a.Sublist H'
theorem kB {a:Heap}(h:a.Sublist H)(b:(H.map (·.1)).Nodup):(a.map (·.1)).Nodup:=b.sublist (h.map _)
section
variable {P:Program}{env:Env}{D:List Nat}{Q:cI}
theorem il.intro {R:AV->Heap->Prop}(ok:rY P f N rs lc)(h:aJ P none N lc (wM P rs R) (dA args) Hin []):il P f args Hin R:=by
 obtain⟨fn,E,O,Y,z,o⟩:=ok.fn;obtain⟨c,u,o⟩:=Option.bind_eq_some_iff.1 o;refine⟨⟨fn,E,O,by rw[u];rfl⟩,?_⟩;intro S w x l m k i Q;rw[<-callsIn_wide (n:=0)];refine callsIn_of_wp_marks E u trivial ?_;let C:Ctx:={A:=AH w Hin,w0:=w,S0:=S,F:=[],N:=N,hA:=λ_ h=>.inl h,hg:=l,Pm:=l.apart m i,TH:=λb u=>m.lt (l.1 b u)}
 have hs:Sat C (dA args) Hin [] {tmps:=x.toArray++eP (fn.ntmps-x.toArray.size) undef,defers:=[]} w S (λ_=>none):=by
  refine
   {size:=?_,uj:=rfl,le:=aE.Le.refl S,sin:=m,ka:=λ_ h=>.inl h,below:=eI.refl _ _,env:=?_,heap:=?_,frame:=by simp [C],nodup:=zx,aI:=zj,gk:=by simp}
  ·grind
  ·intro t
   have r:(dA args t)= .any\/ ∃p,args[t]? =some p/\dA args t=p:=by
    unfold dA;cases h:args[t]? with
    |none=>exact .inl rfl
    |some p=>exact .inr ⟨p,rfl,rfl⟩
   rcases r with he|⟨p,T,he⟩
   ·rw[he];exact bF.dC rfl (by simp [aR])
   ·obtain⟨c,hc,G⟩:=k.get T;have y:=iD hc;have V:(x.toArray++eP (fn.ntmps-x.toArray.size) undef).getD t undef=c:=by rw[b9,Array.getElem?_append_left (by simpa using y)];simp [hc]
    rw[he,V];exact bF.dC G.jP G
  ·intro e he;exact(i e he).gn (λ_=>.inr (be.2 ⟨e,he,rfl⟩))
 refine wpIn_mono (h c (db o) C _ w S _ rfl hs) ?_;rintro e D w' ⟨env',H',H,J,X,B,he,I,res,q,L,j,M,d⟩
 have fin:LeavesInM cc 0 P fn D.tmps (IY S w Hin R) D.defers .returning w':=by
  rw[<-z]at j;refine tS rfl H L j B (λv g K W a s hg=>⟨v,J,g,res,q,rfl,M,a.le,a.sin,a.ka,a.below,s,λe he=>a.heap e (d.subset he),?_,?_⟩)
  ·have:=a.nodup;rw[an,az]at this;exact kB d this.1
  ·intro b e hm;obtain⟨t,U⟩:=hg b e;refine a.aI t b U ?_;rw[an,ad];exact .inl ((d.map _).subset hm)
 rcases he with rfl|rfl
 ·exact fin
 ·exact fin
theorem Ev.toR (h:Ev P f args res)(Hin:Heap):il P f args Hin (λr Ho=>r=res/\Ho=Hin):=by
 refine⟨h.1,λS w z p q d a s=>(h.2 S w z p q d).mono ?_⟩;rintro e w' ⟨v,u,g,rfl,l,j,c,i,t⟩;have m: ∀e∈Hin,e.1<w.heap.size:=λe he=>(a e he).lt;refine⟨v,u,g,res,Hin,rfl,⟨rfl,rfl⟩,l,j,λb n=>(c b n).imp id .inl,⟨i.os,i.tape,i.output,i.size,λk hk _=>i.block k hk⟩,t.gn (λb _ h=>.inl h),?_,s,?_⟩
 ·intro e he;obtain⟨o,y,hx⟩:=(a e he).holds;refine⟨.inr (be.2 ⟨e,he,rfl⟩),λhh=>?_,o,(i.block _ (m e he)).trans y,hx.mono l⟩;rcases c _ hh with h|h
  ·exact(a e he).apart h
  ·grind
 ·intro b e hm;subst e;obtain⟨x,hx,rfl⟩:=be.1 hm;have:=t.wR.1;have:=m x hx;omega
theorem bB.I9 (h:H'.Sublist H):bB env H D env H' D:=λ_ _ _ S L hs=>⟨S,L,aE.Le.refl _,hs.I9 (λ_ he=>h.subset he) (by
 have:=hs.nodup
 rw[an,az]at this
 exact kB h this.1)⟩
theorem bB.perm (h:H.Perm H'):bB env H D env H' D:=λ_ _ _ S L hs=>⟨S,L,aE.Le.refl _,hs.I9 (λ_ he=>h.symm.subset he) (by
 have:=hs.nodup
 rw[an,az]at this
 exact(h.map _).nodup_iff.1 this.1)⟩
variable {C:Ctx}{L:Nat->Option Nat}
theorem Sat.UY (hs:Sat C env H D a w S L):Sat {C with F:=[]} env (H++C.F) D a w S L:=
 {hs with heap:=λe he=>(List.mem_append.1 he).elim (hs.heap e) (hs.frame e),frame:=zj,nodup:=by simpa using hs.nodup,aI:=by simpa using hs.aI}
theorem Sat.Vb {G:Heap}(hs:Sat C env (H++G) D a w S L)(b:C.F=[]):Sat {C with F:=G} env H D a w S L:=
 {hs with
  heap:=λe he=>hs.heap e (List.mem_append.2 (.inl he)),frame:=λe he=>hs.heap e (List.mem_append.2 (.inr he))
  nodup:=by have:=hs.nodup;rw[b,List.append_nil]at this;exact this
  aI:=by have:=hs.aI;rw[b,List.append_nil]at this;exact this}
theorem Sat.wV {l:Nat}{x y:cP}(hs:Sat C env H D a w S L)(f:C.F=[(l,x)]){o:Obj}(hy:Holds S y o):Sat {C with F:=[(l,y)]} env H D a {w with heap:=w.heap.setIfInBounds l o} S L:=by
 have b:=hs.UY;rw[f]at b;have hi:(H++[(l,x)])[H.length]? =some (l,x):=zj
 have c:l<w.heap.size:=(b.at_ hi).lt
 have d:=b.replace hi (y:=y) (w':={w with heap:=w.heap.setIfInBounds l o}) (o:=o) (by simp [c]) hy zj (λg hg=>zx) rfl rfl rfl
 have e:(H++[(l,x)]).set H.length (l,y)=H++[(l,y)]:=zj
 rw[e]at d;exact d.Vb rfl
def ri:List Nat->List AV->Env->Env
 |t::ps,p::args,env=>ri ps args (dK env t p)
 |_,_,env=>env
theorem xo : ∀{ps:List Nat} {args:List AV} {b:List Value} {env:Env} {tmps:Array Value},aS S args b->N<=tmps.size->(∀t,aR S (env t) (tmps.getD t undef))->(∀t∈ps,t<N)->
  N<=((ps.zip b).foldl (λtmps (x:Nat×Value)=>tmps.setIfInBounds x.1 x.2) tmps).size/\ ∀t,aR S (ri ps args env t) (((ps.zip b).foldl (λtmps (x:Nat×Value)=>tmps.setIfInBounds x.1 x.2) tmps).getD t undef)
 |[],args,b,env,tmps,_,a,h,_=>by simp only[List.zip_nil_left,e0];cases args<;>exact⟨a,h⟩
 |p::ps,[],b,env,tmps,f,a,h,_=>by
  simp only[aS]at f
  subst f
  simp only[List.zip_nil_right,e0];exact⟨a,h⟩
 |p::ps,q::args,b,env,tmps,f,a,h,d=>by
  simp only[aS]at f
  obtain⟨c,g,rfl,i,j⟩:=f
  simp only[er,List.foldl_cons,ri]
  refine xo j (by simpa using a) ?_ (λt l=>d t (by simp [l]))
  intro t
  have k:p<tmps.size:=bx (d p zj) a
  by_cases e:t=p
  ·subst e
   rw[bw]
   have:(tmps.setIfInBounds t c).getD t undef=c:=by simp [b9,k]
   rw[this];exact i
  ·rw[eB _ _ e,kT e]
   exact h t
theorem DR (ps:Array Nat)(b:List Value)(tmps:Array Value):(ps.zip b.toArray).foldl (λtmps (t,a)=>tmps.setIfInBounds t a) tmps=(ps.toList.zip b).foldl (λtmps (x:Nat×Value)=>tmps.setIfInBounds x.1 x.2) tmps:=by rw[<-Array.foldl_toList];congr 1;simp
theorem zX.loop {l:Nat}{fn:FuncId}{env0:Env}{ps:Array Nat}{assign body:Code}{iV:Nat}{H2:Heap}{la lb:bN}(ha:Lc P N assign la)(Q:Lc P N body lb)(E:args.length=ps.size)
  (V: ∀t∈ps.toList,t<N)
  (h:aJ P (some l) N la (λe env' H' Z=>e= .normal/\aJ P (some l) N lb (λe K H' a3=>e= .normal/\H2.Sublist H') env' H' Z) (ri ps.toList args env0) H1 []):
  zX P l args ((l,.fR .ready none fn N env0 ps assign body iV)::H1) (λres Ho=>res=B true/\Ho=(l,.fR .ready none fn N env0 ps assign body iV)::H2):=by
 intro S w vs s u i g U
 have j:=g _ (en ..)
 obtain⟨o,G,tmps,rfl,hN,H⟩:=j.holds
 refine⟨_,G,by simp only;rw[<-E,i.length],?_⟩
 rw[DR]
 obtain⟨J,a⟩:=xo (N:=N) i hN H V
 generalize (ps.toList.zip vs).foldl (λtmps (x:Nat×Value)=>tmps.setIfInBounds x.1 x.2) tmps=v at J a
 simp only[ec,eT]at U
 let Hin:Heap:=(l,.fR .ready none fn N env0 ps assign body iV)::H1
 let C:Ctx:={A:=AH w Hin,w0:=w,S0:=S,F:=[(l,.fR .ready none fn N env0 ps assign body iV)],N:=N,hA:=λ_ h=>.inl h,hg:=s,Pm:=s.apart u g,TH:=λb Q=>u.lt (s.1 b Q)}
 have nl: ∀{S:aE} {p:AV} {y:Value},aR S p y->p.bC=false:=λh=>h.jP
 have hs:Sat C (ri ps.toList args env0) H1 [] {tmps:=v,defers:=[]} w S (λ_=>none):=by
  refine
   {size:=J,uj:=rfl,le:=aE.Le.refl S,sin:=u,ka:=λ_ h=>.inl h,below:=eI.refl _ _,env:=λt=>bF.dC (nl (a t)) (a t),heap:=?_,frame:=?_,nodup:=?_,aI:=zj,gk:=by simp}
  ·intro e he
   exact(g e (b7 _ he)).gn (λ_=>.inr (be.2 ⟨e,b7 _ he,rfl⟩))
  ·intro e he
   simp only[C,List.mem_singleton]at he
   subst he
   exact j.gn (λ_=>.inr (be.2 ⟨_,en ..,rfl⟩))
  ·grind
 have f: ∀(z:aE) (w':World) (x:cP) (st:LoopState),Own C.A z w' l (.fR st none fn N env0 ps assign body iV)->
   ∃tmps,w'.heap[l]? =some (.loop {state:=st,pending:=none,fn:=fn,tmps:=tmps,params:=ps,assign:=assign,body:=body,defers:=iV})/\N<=tmps.size/\ ∀t,aR z (env0 t) (tmps.getD t undef):=by
  intro z w' x st G
  obtain⟨o,G,tmps,rfl,h1,h2⟩:=G.holds
  exact⟨tmps,G,h1,h2⟩
 refine roundIn_of_wpIn trivial<|wpIn_mono (h assign ha C _ w S _ rfl hs) ?_
 rintro e a₁ w₁ ⟨env',H',Z,z,L',I,rfl,r⟩
 obtain⟨m,R,M,W⟩:=f z w₁ .iV .ready (I.frame (l,.fR .ready none fn N env0 ps assign body iV) (by simp [C]))
 have Y:=I.wV (l:=l) (x:=.fR .ready none fn N env0 ps assign body iV) rfl (y:=.fR .busy none fn N env0 ps assign body iV)
  (o:=.loop {state:=.busy,pending:=none,fn:=fn,tmps:=m,params:=ps,assign:=assign,body:=body,defers:=iV}) ⟨m,rfl,M,W⟩
 refine⟨_,?_,wpIn_mono (r body Q _ a₁ _ z L' rfl Y) ?_⟩
 ·simp [Instr.beginRound,cD,getObj,setObj,ea,R]
 rintro e a₂ w₂ ⟨L,a1,a0,D,a2,q,rfl,k⟩
 obtain⟨n,T,O,X⟩:=f D w₂ .iV .busy (q.frame (l,.fR .busy none fn N env0 ps assign body iV) zj)
 have c:=q.wV (l:=l) (x:=.fR .busy none fn N env0 ps assign body iV) rfl (y:=.fR .ready none fn N env0 ps assign body iV)
  (o:=.loop {state:=.ready,pending:=none,fn:=fn,tmps:=n,params:=ps,assign:=assign,body:=body,defers:=iV}) ⟨n,rfl,O,X⟩
 refine⟨.bool true,_,?_,.bool true,D,none,B true,_,rfl,⟨rfl,rfl⟩,c.le,c.sin,c.ka,c.below,bF.dC rfl (by simp [aR]),?_,?_,λ_ e=>by cases e⟩
 ·simp [Instr.endRound,cD,getObj,setObj,ea,T]
 ·intro e he
  rcases ej.1 he with rfl|he
  ·exact c.frame (l,.fR .ready none fn N env0 ps assign body iV) zj
  ·exact c.heap e (k.subset he)
 ·have d:=c.nodup
  simp only[an,ec,List.map_nil]at d
  rw[az]at d
  simp only[ec,eT]
  refine⟨λhm=>?_,kB k d.1⟩
  exact d.2.2 l ((k.map _).subset hm) l zj rfl
end
variable {C:Ctx}{L:Nat->Option Nat}{X:Type}
section
variable {P:Program}{env:Env}{D:List Nat}{Q:cI}
theorem Sat.DG (hs:Sat C env H D a w S L)(h:H.Perm H'):Sat C env H' D a w S L:=
 hs.I9 (λ_ he=>h.symm.subset he) (by
  have:=hs.nodup
  rw[an,az]at this
  exact(h.map _).nodup_iff.1 this.1)
theorem aJ.wP {f:Operand}{ps:List Nat}{la lb:bN}{g:FuncId}{first j:List AV}(HS:X->Heap)(U:X)(Fin:X->Prop)(Y:X->List AV->X->Prop)(env0:Env)
  (hx:bu env f= .fn (.func g) first j) (hH:H=HS U++H0) (h0: ∀t,env0 t= .any\/(env0 t=env t/\(env t).bC=false)) (a3: ∀t∈ps,t<N)
  (r: ∀l x args b,Y x args b->args.length=ps.length/\
    aJ P (some l) N la (λe env' H' D'=>e= .normal/\aJ P (some l) N lb (λe _ H' _=>e= .normal/\(HS b).Sublist H') env' H' D') (ri ps args env0) (HS x) [])
  (s: ∀(l:Nat) (lo:cP),(∀x args b,Y x args b->zX P l args ((l,lo)::HS x) (λres Ho=>res=B true/\Ho=(l,lo)::HS b))->
    il P g (first++[.fn (.yield l) [] []]++j) ((l,lo)::HS U) (λ_ Ho=> ∃b,Fin b/\Ho=(l,lo)::HS b))
  (k: ∀b rD,Fin b->Q .normal env ((rD,.iV)::(HS b++H0)) (rD::D)):aJ P none N (.wP f ps la lb) Q env H D:=by
 subst hH
 intro c hc C a w S L hN hs
 cases hc with
 |wP ha hb=>
  rename_i h ca p
  refine wpIn_rangeFunc (λfn _=>?_)
  have R:=hs.cY f hx rfl
  simp only[aR]at R
  obtain⟨z,cs,b0,W,V⟩:=R
  have a4:=hs.alloc (x:=.iV) (o:=.deferred (some [])) rfl
  have u: ∀t,aR S (env0 t) (a.tmps.getD t undef):=by
   intro t
   rcases h0 t with e|⟨e,hl⟩
   ·rw[e];simp [aR]
   ·rw[e];exact hs.rep rfl hl
  have a9:N<=a.tmps.size:=hN▸hs.size
  have i:=a4.alloc (x:=.fR .ready none fn N env0 h ca p w.heap.size)
   (o:=.loop {state:=.ready,pending:=none,fn:=fn,tmps:=a.tmps,params:=h,assign:=ca,body:=p,defers:=w.heap.size}) ⟨a.tmps,rfl,a9,u⟩
  generalize hl:(w.alloc (.deferred (some []))).heap.size=l at i
  generalize a':(w.alloc (.deferred (some []))).alloc (.loop {state:=.ready,pending:=none,fn:=fn,tmps:=a.tmps,params:=h,assign:=ca,body:=p,defers:=w.heap.size})=T at i
  generalize I:cP.fR .ready none fn N env0 h ca p w.heap.size=lo at i
  have E:({a with defers:=[lq w.heap.size]++a.defers}:Act).defers=(w.heap.size::D).map lq++C.base:=by
   show [lq w.heap.size]++a.defers=_
   rw[i.uj]
   rfl
  have a5:Sat C env ((l,lo)::(w.heap.size,.iV)::(HS U++H0)) (w.heap.size::D) {a with defers:=[lq w.heap.size]++a.defers} T S L:=
   {i with uj:=E,size:=i.size}
  have m:=a5.DG (H':=((l,lo)::HS U)++((w.heap.size,.iV)::H0)) (by
   rw[ew]
   exact(ey).symm.cons _)
  have hy: ∀x args b,Y x args b->zX P l args ((l,lo)::HS x) (λres Ho=>res=B true/\Ho=(l,lo)::HS b):=by
   intro x args b hY
   obtain⟨h1,h2⟩:=r l x args b hY
   rw[<-I]
   exact zX.loop ha hb (by rw[h1];simp) a3 h2
  have F:=s l lo hy
  have q:aS S (first++[.fn (.yield l) [] []]++j) (z++[dk (.yield l) #[] #[]]++cs):=
   (W.append (by simp only[aS,aR];exact⟨_,[],rfl,⟨[],[],rfl,rfl,rfl⟩,rfl⟩)).append V
  refine⟨l,[lq w.heap.size],T,{target:=.fn (.func g) cs.toArray,args:=(z++[dk (.yield l) #[] #[]]).toArray},T,g,(z++[dk (.yield l) #[] #[]]++cs).toArray,T,?_,?_,λ_ _=>trivial,?_,λhd=>by simp [Fw,cc]at hd,?_⟩
  ·rw[<-hl,<-a']
   simp [Instr.enterLoop,newObj,ea,Fw,cc,lq]
  ·have e1:a.eval (.const (.func (.yield l) #[] #[]))= .func (.yield l) #[] #[]:=rfl
   simp [resolve,b6,b0,e1]
  ·have e:(z++[dk (.yield l) #[] #[]]).toArray++cs.toArray=(z++[dk (.yield l) #[] #[]]++cs).toArray:=by
    apply cR.1;simp
   simp only[invoke,e,dI F.1]
  ·refine sz ((F.2 S T _ m.gl m.sin q m.kX.1 m.kX.2).mono ?_) none
   rintro e w' ⟨v,S',gg,res,b1,rfl,⟨b,G,rfl⟩,a0,Z,J,A,hr,ho,a2,hg⟩
   obtain⟨L',M⟩:=m.tG (dst:=none) (λd e=>by cases e) a0 Z J A hr ho a2 hg
   have hi:((l,lo)::HS b++((w.heap.size,cP.iV)::H0))[0]? =some (l,lo):=rfl
   have K:=M.at_ hi
   obtain⟨o,n,O⟩:=K.holds
   rw[<-I]at O
   obtain⟨tmps,rfl,b2,b3⟩:=O
   have a1:l<w'.heap.size:=(cb.1 n).1
   have a6:=M.replace hi (y:=.raw (.loop {state:=.exhausted,pending:=none,fn:=fn,tmps:=tmps,params:=h,assign:=ca,body:=p,defers:=w.heap.size}))
    (w':={w' with heap:=w'.heap.setIfInBounds l (.loop {state:=.exhausted,pending:=none,fn:=fn,tmps:=tmps,params:=h,assign:=ca,body:=p,defers:=w.heap.size})})
    (o:=.loop {state:=.exhausted,pending:=none,fn:=fn,tmps:=tmps,params:=h,assign:=ca,body:=p,defers:=w.heap.size})
    (by simp [a1]) rfl zj (λg hg=>by
      show (w'.heap.setIfInBounds l _)[g]? =w'.heap[g]?
      rw[b8,if_neg (λe=>hg e.symm)]) rfl rfl rfl
   have a7:=a6.drop 0
   have a8:=a7.DG (H':=(w.heap.size,.iV)::(HS b++H0)) (by
    simp only[ew,List.set_cons_zero,List.eraseIdx_cons_zero]
    exact ey)
   refine⟨none,_,?_,env,_,_,S',L',a8,k b w.heap.size G⟩
   simp [Instr.endLoop,cD,getObj,setObj,ea,n]
end
variable {d i j n:Nat}{q:AV}{T:TypeId}{y:Operand}
structure gO (P:Program)(K:TypeId)(ks:Value->Prop):Prop where
 check: ∀k,ks k-> ∀(em:Bool) (w:World),(Instr.checkKey em 10000 K k).run P w= .ok () w
 find: ∀(k:Value) (l:List MapEntry),ks k->(∀x∈l,ks x.key)-> ∀w:World,((cB K k l).run P w= .ok none w/\ ∀x∈l,x.key≠k)\/
  ∃j e,(cB K k l).run P w= .ok (some (j,e.val)) w/\l[j]? =some e/\e.key=k
 same: ∀k,ks k->bA 10000 k k=true
def R2:List AV->Option (List Value)
 |[]=>some []
 | .v x::l=>(R2 l).map (x:: ·)
 |_=>none
def valOf:AV->Option Value
 | .v x=>some x
 | .agg l=>(R2 l).map λa=>.agg a.toArray
 |_=>none
theorem LK: ∀{l:List AV} {b:List Value},R2 l=some b->l=b.map .v
 |[],b,h=>by simp only[R2,eu]at h;subst h;rfl
 |a::l,b,h=>by
  cases a<;>simp only[R2,c7,reduceCtorEq]at h
  obtain⟨d,c,rfl⟩:=h
  rw[LK c];rfl
theorem mg {u y:Value}(h:valOf p=some u)(r:aR S p y):y=u:=by
 cases p<;>simp only[valOf,c7,eu,reduceCtorEq]at h;case v x=>subst h;exact r
 case agg l=>obtain⟨c,a,rfl⟩:=h;have e:=LK a;subst e;obtain⟨cs,rfl,b⟩:=r;rw[(Af S c cs).1 b]
theorem lU {u:Value}(h:valOf p=some u):p.bC=false:=by cases p<;>simp only[valOf,reduceCtorEq]at h<;>rfl
theorem ib.get : ∀{es:List (Value×AV)} {l:List MapEntry},ib S es l->es.length=l.length/\(∀(j:Nat) (k:Value) (p:AV),es[j]? =some (k,p)-> ∃e,l[j]? =some e/\e.key=k/\aR S p e.val)/\
  (∀(j:Nat) (e:MapEntry),l[j]? =some e-> ∃p,es[j]? =some (e.key,p)/\aR S p e.val)
 |[],l,h=>by simp only[ib]at h;subst h;simp
 |(k,a)::es,l,h=>by
  simp only[ib]at h
  obtain⟨e,f,rfl,hk,c,g⟩:=h
  obtain⟨i,m,n⟩:=g.get
  refine⟨by simp [i],?_,?_⟩
  ·intro j o p b
   cases j with
   |zero=>simp at b;obtain⟨rfl,rfl⟩:=b;exact⟨e,rfl,hk,c⟩
   |succ j=>simpa using m j o p (by simpa using b)
  ·intro j d b
   cases j with
   |zero=>simp at b;subst b;exact⟨a,by simp [hk],c⟩
   |succ j=>simpa using n j d (by simpa using b)
theorem ib.set : ∀{es:List (Value×AV)} {l:List MapEntry} (j:Nat) {k:Value} {p:AV} {e:MapEntry},ib S es l->e.key=k->aR S p e.val->ib S (es.set j (k,p)) (l.set j e)
 |[],l,j,k,p,e,h,_,_=>by simp only[ib]at h;subst h;simp [ib]
 |(m,a)::es,l,j,k,p,e,h,hk,g=>by
  simp only[ib]at h
  obtain⟨i,b,rfl,c,d,f⟩:=h
  cases j with
  |zero=>simp;exact⟨e,b,rfl,hk,g,f⟩
  |succ j=>simp;exact⟨i,_,rfl,c,d,f.set j hk g⟩
theorem ib.append : ∀{es:List (Value×AV)} {l:List MapEntry} {k:Value} {p:AV} {e:MapEntry},ib S es l->e.key=k->aR S p e.val->ib S (es++[(k,p)]) (l++[e])
 |[],l,k,p,e,h,hk,c=>by simp only[ib]at h;subst h;simp;exact⟨e,[],rfl,hk,c,rfl⟩
 |(j,a)::es,l,k,p,e,h,hk,c=>by
  simp only[ib]at h
  obtain⟨f,g,rfl,b,d,i⟩:=h
  simp
  exact⟨f,_,rfl,b,d,i.append hk c⟩
inductive Av (es:List (Value×AV))(k:Value):Option (Nat×AV)->Prop where
 |none:(∀e∈es,e.1≠k)->Av es k none
 |some {j:_}{p:_}:es[j]? =some (k,p)->Av es k (some (j,p))
section
variable {P:Program}{r:Option Nat}{env:Env}{D:List Nat}{dst:Option Nat}{K:Env->Heap->List Nat->Prop}{Q:cI}
theorem Sq.empty:Sq #[] 0:=⟨rfl,zj,zj⟩
theorem aF.sU {T:Nat}(k: ∀b,K (dK env d (.mo b)) ((b,.map [])::H) D):aF P r N (.sU T) (some d) env H D K:=by
 intro o e hd g C a w S L j hs next Q c
 have h:=hs.alloc (x:=.map []) (o:=.map #[] 0) ⟨#[],0,rfl,by simp [ib],Sq.empty⟩;have i:=h.put (d:=d) (bx (j▸hd d rfl) hs.size) (p:=.mo w.heap.size) (y:=.map (some w.heap.size)) rfl (by simp [aR]);cases g with
 |sU f=>refine Oper.bO (.sU f) zj (y:=.map (some w.heap.size)) (w':=w.alloc (.map #[] 0)) ?_ (by rw[e];exact c _ _ _ _ _ _ _ (k _) i (aE.Le.refl _));simp [execOp,f,Instr.makeMap,newObj,ea]
theorem EY {i:TypeId}{ks:Value->Prop}(hK:gO P i ks){S:aE}{es:List (Value×AV)}{bL:Array MapEntry}{a:Nat}(hm:ib S es bL.toList)(t:Sq bL a)(q: ∀e∈es,ks e.1){k:Value}(hk:ks k)
  {o:Option (Nat×AV)} (y:Av es k o) (w:World):match o with
    |none=>(cB i k bL.toList).run P w= .ok none w
    |some (j,p)=> ∃e,(cB i k bL.toList).run P w= .ok (some (j,e.val)) w/\bL[j]? =some e/\e.key=k/\aR S p e.val:=by
 obtain⟨C,u,v⟩:=hm.get
 have h: ∀x∈bL.toList,ks x.key:=by
  intro x hx
  obtain⟨j,f⟩:=bn.1 hx
  obtain⟨p,d,_⟩:=v j x f
  exact q _ (bk d)
 rcases hK.find k bL.toList hk h w with⟨m,c⟩|⟨j,e,m,f,he⟩
 ·cases y with
  |none _=>exact m
  |some d=>
   obtain⟨e,he,l,_⟩:=u _ _ _ d
   exact absurd l (c e (bk he))
 ·cases y with
  |none c=>
   obtain⟨p,d,_⟩:=v j e f
   exact absurd he (c _ (bk d))
  |some d=>
   rename_i z D
   obtain⟨B,b,g,s⟩:=u _ _ _ d
   have n:j=z:=by
    have r:=t.2.2
    have a1:(bL.toList.map (·.key))[j]? =some k:=by simp only[bt,f,eU,he]
    have A:(bL.toList.map (·.key))[z]? =some k:=by simp only[bt,b,eU,g]
    exact(List.getElem?_inj (iD a1) r).1 (a1.trans A.symm)
   subst n
   have:e=B:=by rw[f]at b;cases b;rfl
   subst this
   exact⟨e,m,by simpa using f,he,s⟩
theorem B7 {E:TypeId}{zv:Value}(h:(P.info? E).bind (·.zero)=some zv)(w:World):(zeroValue E).run P w= .ok zv w:=by
 cases hi:P.info? E with
 |none=>grind
 |some i=>rw[hi]at h;have h:i.zero=some zv:=h;simp [zeroValue,typeInfo,hi,h]
def oh (ok:Bool)(a:AV):Option (Nat×AV)->AV
 |some (_,p)=>match ok with|true=>.bZ [p,.v (.bool true)]|false=>p
 |none=>match ok with|true=>.bZ [a,.v (.bool false)]|false=>a
def LkV (S:aE)(zv v:Value):Option (Nat×AV)->Prop
 |none=>v=zv
 |some (_,p)=>aR S p v
theorem Dt {ok:Bool}{zv v:Value}{o:Option (Nat×AV)}(h:LkV S zv v o):
  aR S (oh ok (cv zv) o) (if ok=true then .tuple #[v,.bool o.isSome]else v):=by
 cases o with
 |none=>
  subst h
  cases ok
  ·simpa [oh]using vg S v
  ·simp
   exact⟨[v,.bool false],rfl,by simp only[aS];exact⟨_,_,rfl,vg S v,_,_,rfl,by simp [aR],rfl⟩⟩
 |some a=>
  obtain⟨j,p⟩:=a
  simp only[LkV]at h
  cases ok
  ·simpa [oh]using h
  ·simp only[oh,aR,if_true]
   exact⟨[v,.bool true],rfl,by simp only[aS];exact⟨_,_,rfl,h,_,_,rfl,by simp [aR],rfl⟩⟩
theorem BS {T g E:TypeId}{ks:Value->Prop}(h:P.underlying T=some (.map g E))(hK:gO P g ks){zv:Value}(n:(P.info? E).bind (·.zero)=some zv){S:aE}{es:List (Value×AV)}{bL:Array MapEntry}{a:Nat}
  (hm:ib S es bL.toList) (f:Sq bL a) (d: ∀e∈es,ks e.1) {k:Value} (hk:ks k) {o:Option (Nat×AV)} (l:Av es k o) {w:World} {b:Nat} (i:w.heap[b]? =some (.map bL a)) (ok:Bool):
  ∃v,(et T (.map (some b)) k ok).run P w= .ok (if ok=true then .tuple #[v,.bool o.isSome]else v) w/\LkV S zv v o:=by
 have c:=EY hK hm f d hk l w
 have hc:=hK.check k hk bL.isEmpty w
 cases o with
 |none=>
  simp only at c
  refine⟨zv,?_,rfl⟩
  simp [et,underlying,h,ap i,hc,c,B7 n]
 |some q=>
  obtain⟨j,p⟩:=q
  obtain⟨e,c,_,_,m⟩:=c
  refine⟨e.val,?_,m⟩
  simp [et,underlying,h,ap i,hc,c]
theorem aF.nD {T A E:TypeId}{x i:Operand}{ok:Bool}{z:List Value}{ks:Value->Prop}(hK:gO P A ks){zv:Value}(M:(P.info? E).bind (·.zero)=some zv){b n:Nat}{es:List (Value×AV)}(hx:bu env x= .mo b)
  (F:H[n]? =some (b,.map es)) {kv:Value} (hi:valOf (bu env i)=some kv) (hk:ks kv) (q: ∀e∈es,ks e.1) {o:Option (Nat×AV)} (I:Av es kv o) (k:K (ct env dst (oh ok (cv zv) o)) H D):
  aF P r N (.lookup T x i ok A E z) dst env H D K:=by
 intro op g hd s C a w S L G hs next Q f
 obtain⟨R,j,bL,m,rfl,hm,u⟩:=(hs.at_ F).holds
 have l:=hs.cY x hx rfl
 simp only[aR]at l
 have p:=mg hi (hs.cY i rfl (lU hi))
 cases s with
 |lookup h B y=>
  obtain⟨v,df,J⟩:=BS B hK M hm u q hk I j ok
  have c:=Dt (S:=S) (ok:=ok) J
  obtain⟨O,t⟩:=hs.lA (dst:=dst) (λd e=>G▸hd d e) c.jP c
  refine Oper.bO (.lookup h B y) zj ?_ (by rw[g];exact f _ _ _ _ _ _ _ k t (aE.Le.refl _))
  simp only[execOp,h,l,p,df,c8,de,bI]
theorem aF.Fg {T A E:TypeId}{x i:Operand}{ok:Bool}{z:List Value}{ks:Value->Prop}(hK:gO P A ks){zv:Value}(J:(P.info? E).bind (·.zero)=some zv){es:List (Value×AV)}(hx:bu env x= .mi es)
  {kv:Value} (hi:valOf (bu env i)=some kv) (hk:ks kv) (q: ∀e∈es,ks e.1) {o:Option (Nat×AV)} (G:Av es kv o) (k:K (ct env dst (oh ok (cv zv) o)) H D):
  aF P r N (.lookup T x i ok A E z) dst env H D K:=by
 intro op h hd s C a w S L F hs next Q g
 have c:=hs.cY x hx rfl
 simp only[aR]at c
 obtain⟨b,bL,n,c,j,hm,u⟩:=c
 have m:=hs.sin.map _ _ j
 have p:=mg hi (hs.cY i rfl (lU hi))
 cases s with
 |lookup l B y=>
  obtain⟨v,df,I⟩:=BS B hK J hm u q hk G m ok
  have f:=Dt (S:=S) (ok:=ok) I
  obtain⟨M,t⟩:=hs.lA (dst:=dst) (λd e=>F▸hd d e) f.jP f
  refine Oper.bO (.lookup l B y) zj ?_ (by rw[h];exact g _ _ _ _ _ _ _ k t (aE.Le.refl _))
  simp only[execOp,l,c,p,df,c8,de,bI]
def km (es:List (Value×AV))(k:Value)(v:AV):Option (Nat×AV)->List (Value×AV)
 |some (j,_)=>es.set j (k,v)
 |none=>es++[(k,v)]
def sr (es:List (Value×AV)):Option (Nat×AV)->Nat
 |some (j,_)=>j
 |none=>es.length
theorem Sq.modify {bL:Array MapEntry}{a:Nat}{e:MapEntry}(h:Sq bL a)(g:bL[j]? =some e)(f:MapEntry->MapEntry)(m: ∀x,(f x).born=x.born)(hk:(f e).key=e.key):Sq (bL.modify j f) a:=by
 obtain⟨k,l,d⟩:=h;refine⟨zx,?_,?_⟩
 ·grind
 ·have c:(bL.modify j f).toList.map (·.key)=bL.toList.map (·.key):=by
   apply cA;intro i;rw[bt,bt,b4,b4,dn];split
   ·rename_i b;subst b;rw[g];simp [hk]
   ·rfl
  rw[c];exact d
theorem Sq.push {bL:Array MapEntry}{a:Nat}(h:Sq bL a){k v:Value}(hk: ∀x∈bL.toList,x.key≠k):Sq (bL.push {key:=k,val:=v,born:=a}) (a+1):=by
 obtain⟨b,c,d⟩:=h;refine⟨by simp [b],?_,?_⟩
 ·grind
 ·grind
theorem rO {bL:Array MapEntry}{e:MapEntry}(a:bL[j]? =some e)(f:MapEntry->MapEntry):(bL.modify j f).toList=bL.toList.set j (f e):=by
 apply cA;intro i;rw[b4,dn,List.getElem?_set];split
 ·grind
 ·grind
def gJ (w:World)(b:Nat)(o:Obj):World:={w with heap:=w.heap.setIfInBounds b o}
theorem Sat.setObj (hs:Sat C env H D a w S L){x y:cP}(h:H[i]? =some (b,x)){o:Obj}(hy:Holds S y o):Sat C env (H.set i (b,y)) D a (gJ w b o) S L:=by
 have c:b<w.heap.size:=(hs.at_ h).lt
 exact hs.replace h (y:=y) (w':=gJ w b o) (o:=o) (by simp [gJ,c]) hy (by simp [gJ]) (λg hg=>by
  show (w.heap.setIfInBounds b o)[g]? =w.heap[g]?
  rw[b8,if_neg (λe=>hg e.symm)]) rfl rfl rfl
theorem Tc {es:List (Value×AV)}{l:List MapEntry}(hm:ib S es l){k:Value}(h: ∀e∈es,e.1≠k): ∀x∈l,x.key≠k:=by intro x hx;obtain⟨j,a⟩:=bn.1 hx;obtain⟨p,b,_⟩:=hm.get.2.2 j x a;exact h _ (bk b)
theorem aF.iI {T R E:TypeId}{x i y:Operand}{ks:Value->Prop}(hK:gO P R ks){b n:Nat}{es:List (Value×AV)}{q:AV}(hx:bu env x= .mo b)(U:H[n]? =some (b,.map es)){kv:Value}
  (hi:valOf (bu env i)=some kv) (hk:ks kv) (I: ∀e∈es,ks e.1) {o:Option (Nat×AV)} (V:Av es kv o) (hy:bu env y=q) (X:q.bC=false)
  (k:K (ct env dst .any) (H.set n (b,.map (km es kv q o))) D):aF P r N (.iI T x i y R E) dst env H D K:=by
 intro op t hd v C a w S L W hs next Q m
 obtain⟨ob,h,bL,g,rfl,hm,s⟩:=(hs.at_ U).holds
 have z:=hs.cY x hx rfl
 simp only[aR]at z
 have F:=mg hi (hs.cY i rfl (lU hi))
 have A:=hs.cY y hy X
 have l:=λw=>EY hK hm s I hk V w
 have hc:=λw=>hK.check kv hk false w
 have fin: ∀f c,(dl T (.map (some b)) kv (a.eval y)).run P w= .ok () (gJ w b (.map f c))->Holds S (.map (km es kv q o)) (.map f c)->op.wpIn (Fw r) 0 P a w next Q:=by
  intro f c df hh
  have O:=hs.setObj U (y:=.map (km es kv q o)) hh
  obtain⟨Y,M⟩:=O.lA (dst:=dst) (λd e=>W▸hd d e) (p:=.any) (y:=undef) rfl (by simp [aR])
  cases v with
  |iI hop B=>
   refine Oper.wpIn_skip (.iI hop B) zj (w':=gJ w b (.map f c)) ?_ (by rw[t];exact m _ _ _ _ _ _ _ k M (aE.Le.refl _))
   rcases hop with hop|hop<;>simp [execOp,hop,z,F,df]
 cases v with
 |iI hop B=>
  cases V with
  |none J=>
   have l:=l w
   simp only at l
   refine fin (bL.push {key:=kv,val:=a.eval y,born:=g}) (g+1) ?_ ⟨_,_,rfl,?_,s.push (Tc hm J)⟩
   ·simp [dl,underlying,B,ap h,hc w,l,bi _ h,gJ]
   ·rw[cr];exact hm.append rfl A
  |some Z=>
   rename_i j p
   obtain⟨e,l,G,u,_⟩:=l w
   refine fin (bL.modify j λe=>{e with key:=kv,val:=a.eval y}) g ?_ ⟨_,_,rfl,?_,s.modify G _ (λ_=>rfl) u.symm⟩
   ·simp [dl,underlying,B,ap h,hc w,l,bi _ h,gJ,G,u,ek,hK.same kv hk]
   ·rw[rO G];exact hm.set j rfl A
theorem aF.nf {T W E:TypeId}{x i:Operand}{z:List Value}{ks:Value->Prop}(hK:gO P W ks){zv:Value}(hz:(P.info? E).bind (·.zero)=some zv){b n:Nat}{es:List (Value×AV)}(hx:bu env x= .mo b)(X:H[n]? =some (b,.map es)){kv:Value}
  (hi:valOf (bu env i)=some kv) (hk:ks kv) (O: ∀e∈es,ks e.1) {o:Option (Nat×AV)} (Y:Av es kv o)
  (k:K (ct env dst (.bZ [oh false (cv zv) o,.v (.int .i64 (sr es o))])) (H.set n (b,.map (km es kv (oh false (cv zv) o) o))) D):aF P r N (.nf T x i W E z) dst env H D K:=by
 intro op t hd B C a w S L hN hs next Q q
 obtain⟨ob,h,bL,f,rfl,hm,l⟩:=(hs.at_ X).holds
 have F:=hs.cY x hx rfl
 simp only[aR]at F
 have M:=mg hi (hs.cY i rfl (lU hi))
 have m:=λw=>EY hK hm l O hk Y w
 have hc:=λw=>hK.check kv hk false w
 have fin: ∀g c v,(ds T (.map (some b)) kv).run P w= .ok (.tuple #[v,.int .i64 (sr es o)]) (gJ w b (.map g c))->aR S (oh false (cv zv) o) v->Holds S (.map (km es kv (oh false (cv zv) o) o)) (.map g c)->op.wpIn (Fw r) 0 P a w next Q:=by
  intro g c v df hv hh
  have V:=hs.setObj X (y:=.map (km es kv (oh false (cv zv) o) o)) hh
  obtain⟨L',U⟩:=V.lA (dst:=dst) (λd e=>hN▸hd d e) (p:=.bZ [oh false (cv zv) o,.v (.int .i64 (sr es o))]) (y:=.tuple #[v,.int .i64 (sr es o)]) rfl
   (by simp only[aR];exact⟨[v,.int .i64 (sr es o)],rfl,by simp only[aS];exact⟨_,_,rfl,hv,_,_,rfl,by simp [aR],rfl⟩⟩)
  cases B with
  |nf s I G=>
   refine Oper.bO (.nf s I G) zj (w':=gJ w b (.map g c)) ?_ (by rw[t];exact q _ _ _ _ _ _ _ k U (aE.Le.refl _))
   simp [execOp,s,F,M,df]
 cases B with
 |nf s I G=>
  cases Y with
  |none R=>
   have m:=m w
   simp only at m
   have A:(es.length:Int)=(f:Int):=by rw[l.1,hm.get.1];simp
   refine fin (bL.push {key:=kv,val:=zv,born:=f}) (f+1) zv ?_ (vg S zv) ⟨_,_,rfl,?_,l.push (Tc hm R)⟩
   ·simp [ds,underlying,I,ap h,hc w,m,B7 hz,bi _ h,gJ,sr,goInt,A]
   ·rw[cr];exact hm.append rfl (vg S zv)
  |some hp=>
   rename_i j p
   obtain⟨e,m,J,u,Z⟩:=m w
   have hb:=l.2.1 j e J
   refine fin (bL.modify j λe=>{e with key:=kv}) f e.val ?_ Z ⟨_,_,rfl,?_,l.modify J _ (λ_=>rfl) u.symm⟩
   ·simp [ds,underlying,I,ap h,hc w,m,bi _ h,gJ,J,u,ek,hK.same kv hk,sr,goInt,hb]
   ·rw[rO J];exact hm.set j rfl Z
theorem aF.uA {s:Operand}{es:List (Value×AV)}{kv:Value}(hx:bu env x= .mo b)(O:H[n]? =some (b,.map es))(G:bu env s= .v (.int .i64 j))(U:es[j]? =some (kv,p))
  (hy:bu env y=q) (V:q.bC=false) (k:K (ct env dst .any) (H.set n (b,.map (es.set j (kv,q)))) D):aF P r N (.uA T x s y) dst env H D K:=by
 intro op m hd E C a w S L R hs next Q h
 obtain⟨X,f,bL,c,rfl,hm,l⟩:=(hs.at_ O).holds
 have z:=hs.cY x hx rfl
 simp only[aR]at z
 have J:=hs.int G
 have M:=hs.cY y hy V
 obtain⟨e,he,A,_⟩:=hm.get.2.1 _ _ _ U
 have g:bL[j]? =some e:=zx
 have t:=(cb.1 g).1
 have B:bL.findIdx? (λe=>(e.born:Int)==(j:Int))=some j:=by
  rw[Array.findIdx?_eq_some_iff_getElem]
  refine⟨t,?_,?_⟩
  ·have:=l.2.1 j bL[j] (by simp [t]);simp [this]
  ·intro i hi
   have:=l.2.1 i bL[i] (by simp [show i<bL.size from zz])
   simp [this];omega
 have I:=hs.setObj O (y:=.map (es.set j (kv,q))) (o:=.map (bL.modify j λe=>{e with val:=a.eval y}) c)
  ⟨_,_,rfl,by rw[rO g];exact hm.set j A M,l.modify g _ (λ_=>rfl) rfl⟩
 obtain⟨W,F⟩:=I.lA (dst:=dst) (λd e=>R▸hd d e) (p:=.any) (y:=undef) rfl (by simp [aR])
 cases E with
 |uA u=>
  refine Oper.wpIn_skip (.uA u) zj (w':=gJ w b (.map (bL.modify j λe=>{e with val:=a.eval y}) c)) ?_ (by rw[m];exact h _ _ _ _ _ _ _ k F (aE.Le.refl _))
  simp [execOp,u,Instr.entryStore,z,J,asInt,asIntOf,ap f,B,bi _ f,gJ]
end
variable {m t:Nat}{cs:List AV}
section
variable {P:Program}{r:Option Nat}{env:Env}{D:List Nat}{dst:Option Nat}{K:Env->Heap->List Nat->Prop}{Q:cI}
theorem Sq.Ko {bL:Array MapEntry}{a:Nat}(h:Sq bL a):(bL.toList.map (·.born)).Nodup:=by
 have e:bL.toList.map (·.born)=List.range bL.size:=by
  apply cA;intro i;rw[bt];by_cases hi:i<bL.size
  ·have b:=h.2.1 i bL[i] (by simp [hi]);simp [hi,b]
  ·simp [hi]
 rw[e];exact List.nodup_range
theorem aF.xM {T:Nat}{es:List (Value×AV)}(hx:bu env x= .mi es)(k: ∀b m,K (dK env d (.po b 0)) ((b,.ra m es [])::H) D):aF P r N (.range T x false) (some d) env H D K:=by
 intro o i hd j C a w S L v hs next Q g
 have e:=hs.cY x hx rfl;simp only[aR]at e;obtain⟨m,bL,c,e,f,hm,t⟩:=e;have l:=hs.sin.map _ _ f;have q:=hs.alloc (x:=.ra m es []) (o:=.mapIter (some m) c #[] c) ⟨bL,c,#[],rfl,f,hm,t,rfl⟩;have s:=q.put (d:=d) (bx (v▸hd d rfl) hs.size) (p:=.po w.heap.size 0) (y:=.pointer (some ⟨w.heap.size,0,none⟩)) rfl (by simp [aR]);generalize u:false=st at j;cases j with
 |tn h n=>cases u
 |xM h n=>refine Oper.bO (.xM h n) zj (y:=.pointer (some ⟨w.heap.size,0,none⟩)) (w':=w.alloc (.mapIter (some m) c #[] c)) ?_ (by rw[i];exact g _ _ _ _ _ _ _ (k _ _) s (aE.Le.refl _));simp [execOp,h,Instr.range,underlying,n,e,getObj,l,newObj,ea]
theorem aF.Wm {es:List (Value×AV)}{seen:List Nat}(hx:bu env x= .po b 0)(X:H[i]? =some (b,.ra m es seen))
  (h1: ∀(j:Nat) (kv:Value) (p:AV),j ∉ seen->es[j]? =some (kv,p)->K (ct env dst (.bZ [B true,cv kv,p])) (H.set i (b,.ra m es (seen++[j]))) D)
  (h2:(∀j,j<es.length->j∈seen)->K (ct env dst (.bZ [B false])) H D):aF P r N (.next x false ty) dst env H D K:=by
 intro o k hd E C a w S L Y hs next Q f
 obtain⟨ob,G,bL,c,sn,rfl,l,hm,g,u⟩:=(hs.at_ X).holds
 have V:=hs.cY x hx rfl
 simp only[aR]at V
 have s:=hs.sin.map _ _ l
 have n: ∀y∈bL.toList,y.born<c:=by
  intro y hy
  obtain⟨j,q⟩:=bn.1 hy
  have:=g.2.1 j y zx
  have O:=iD q
  rw[this,g.1];simpa using O
 generalize T:false=st at E
 cases E with
 |next h=>
  subst T
  rcases run_next_at (P:=P) w o.type b m c c sn bL c G s n (e4 _)with⟨h0,df⟩|⟨e,he,w1,W,df⟩
  ·obtain⟨Z,t⟩:=hs.lA (dst:=dst) (λd e=>Y▸hd d e) (p:=.bZ [B false]) (y:=.tuple #[.bool false]) rfl (by simp only[aR];exact⟨[.bool false],rfl,by simp [aS,aR]⟩)
   have v: ∀j,j<es.length->j∈seen:=by
    intro j q
    have M:j<bL.size:=by rw[hm.get.1]at q;simpa using q
    have J:leftOf bL sn= #[]:=Array.eq_empty_of_size_eq_zero h0
    unfold leftOf at J
    rw[Array.filter_eq_empty_iff]at J
    have I:=J bL[j] zj
    have hb:=g.2.1 j bL[j] (by simp [M])
    rw[hb]at I
    simp only[Bool.not_eq_true',Bool.not_eq_false]at I
    have:j∈sn:=by simpa using I
    rw[<-u];simpa using this
   exact Oper.bO (.next h) zj (y:=.tuple #[.bool false]) (w':=w) (by simp [execOp,h,V,df]) (by rw[k];exact f _ _ _ _ _ _ _ (h2 v) t (aE.Le.refl _))
  ·have A:e∈bL.toList/\e.born ∉ sn:=by
    unfold leftOf at he
    simp at he
    exact⟨by simpa using he.1,he.2⟩
   obtain⟨j,q⟩:=bn.1 A.1
   have z:=g.2.1 j e (by simpa using q)
   obtain⟨p,hp,hr⟩:=hm.get.2.2 j e q
   have F:j ∉ seen:=by
    rw[<-u];intro hh;exact A.2 (by rw[z];simpa using hh)
   have U:Sat C env H D a w1 S L:=by
    rcases W with rfl|rfl
    ·exact hs
    ·exact hs.grow ⟨rfl,rfl,rfl,e4 _,λ_ _=>rfl⟩
   have R:=U.setObj X (y:=.ra m es (seen++[j])) (o:=.mapIter (some m) c (sn.push e.born) c) ⟨bL,c,sn.push e.born,rfl,l,hm,g,by rw[cr,u,z]⟩
   obtain⟨Z,t⟩:=R.lA (dst:=dst) (λd e=>Y▸hd d e) (p:=.bZ [B true,cv e.key,p]) (y:=.tuple #[.bool true,e.key,e.val]) rfl
    (by simp only[aR];exact⟨[.bool true,e.key,e.val],rfl,by simp only[aS];exact⟨_,_,rfl,by simp [aR],_,_,rfl,vg S _,_,_,rfl,hr,rfl⟩⟩)
   exact Oper.bO (.next h) zj (y:=.tuple #[.bool true,e.key,e.val]) (w':=gJ w1 b (.mapIter (some m) c (sn.push e.born) c)) (by simp [execOp,h,V,df,gJ,e6])
    (by rw[k];exact f _ _ _ _ _ _ _ (h1 j e.key p F hp) t (aE.Le.refl _))
theorem aF.entry {es:List (Value×AV)}{seen:List Nat}{kv:Value}(hx:bu env x= .po b 0)(B:H[i]? =some (b,.ra m es (seen++[j])))(G:es[j]? =some (kv,p))
  (k:K (ct env dst (.bZ [cv kv,p])) H D):aF P r N (.entry x) dst env H D K:=by
 intro o l hd v C a w S L E hs next Q h
 obtain⟨O,f,bL,c,sn,rfl,n,hm,t,J⟩:=(hs.at_ B).holds
 have A:=hs.cY x hx rfl
 simp only[aR]at A
 have g:=hs.sin.map _ _ n
 obtain⟨e,he,u,I⟩:=hm.get.2.1 _ _ _ G
 have F:=t.2.1 j e zx
 have s:sn=(seen.toArray).push e.born:=zx
 rw[s]at f
 have df:=run_entry_at (P:=P) w b m c seen.toArray bL c e f g (bk he) t.Ko
 obtain⟨M,z⟩:=hs.lA (dst:=dst) (λd e=>E▸hd d e) (p:=.bZ [cv kv,p]) (y:=.tuple #[e.key,e.val]) rfl
  (by simp only[aR];exact⟨[e.key,e.val],rfl,by simp only[aS];exact⟨_,_,rfl,by rw[<-u];exact vg S _,_,_,rfl,I,rfl⟩⟩)
 cases v with
 |entry q=>
  exact Oper.bO (.entry q) zj (y:=.tuple #[e.key,e.val]) (w':=w) (by simp [execOp,q,A,df]) (by rw[l];exact h _ _ _ _ _ _ _ k z (aE.Le.refl _))
def aE.Kw (S:aE)(b:Nat)(m:Array MapEntry×Nat):aE:=⟨S.cell,λa=>if a=b then some m else S.map a⟩
def Cn (b:Nat)(es:List (Value×AV)):AV->AV
 | .mo a=>if a=b then .mi es else .mo a
 |p=>p
theorem Sat.lN (hs:Sat C env H D a w S L){es:List (Value×AV)}(k:H[i]? =some (b,.map es)):
  ∃j bL c,S.Le j/\j.map b=some (bL,c)/\ib j es bL.toList/\Sq bL c/\Sat C env (H.eraseIdx i) D a w j L:=by
 obtain⟨r,p,bL,c,rfl,hm,n⟩:=(hs.at_ k).holds
 have g:S.Le (S.Kw b (bL,c)):=⟨λ_ _ _ h=>h,λd m h=>by
  show (if d=b then some (bL,c)else S.map d)=some m
  split
  ·rename_i e
   subst e
   exact absurd (.inr ⟨m,h⟩) (hs.at_ k).apart
  ·exact h⟩
 have f: ∀d,(S.Kw b (bL,c)).has d->S.has d\/d=b:=by
  rintro d (⟨o,v,h⟩|⟨m,h⟩)
  ·exact .inl (.inl ⟨o,v,h⟩)
  ·have h:(if d=b then some (bL,c)else S.map d)=some m:=h
   split at h
   ·rename_i e;exact .inr e
   ·exact .inl (.inr ⟨m,h⟩)
 refine⟨_,bL,c,g,by simp [aE.Kw],ib.mono g _ _ hm,n,?_⟩
 have q:=hs.oM k
 have l:b∈(H++C.F).map (·.1):=zx
 refine(hs.drop i).snap g ⟨λd o v h=>hs.sin.cell d o v h,λd m h=>?_⟩ (λd h=>(f d h).imp id (λe=>by rw[e];exact(hs.at_ k).base)) ?_ ?_
 ·have h:(if d=b then some (bL,c)else S.map d)=some m:=h
  split at h
  ·grind
  ·exact hs.sin.map d m h
 ·intro e he hh
  rcases f _ hh with h|h
  ·rcases ad.1 he with he'|he'
   ·exact(hs.heap e (List.mem_of_mem_eraseIdx he')).apart h
   ·exact(hs.frame e he').apart h
  ·grind
 ·intro t d e hh
  rcases f _ hh with h|h
  ·exact hs.zP e h
  ·exact hs.aI t d e (h▸l)
theorem eO.Cn {es:List (Value×AV)}{bL:Array MapEntry}{d:Nat}(hm:S.map b=some (bL,d))(j:ib S es bL.toList)(f:Sq bL d): ∀{cs:List AV} {g o:Nat},eO S cs g o->eO S (cs.map (Cn b es)) g o
 |[],g,o,h=>by simp [eO]
 |a::cs,g,o,h=>by
  simp only[eO]at h
  simp
  refine⟨?_,eO.Cn hm j f h.2⟩
  obtain⟨c,k,l,i⟩:=h.1
  refine⟨c,k,l,?_⟩
  cases a<;>simp only[Px.Cn]<;>try exact i
  rename_i m
  split
  ·rename_i e
   subst e
   simp only[aR]at i ⊢
   exact⟨_,bL,d,i,hm,j,f⟩
  ·exact i
theorem bB.lN {es:List (Value×AV)}(n:env t= .pi cs)(l:H[i]? =some (b,.map es)):bB env H D (dK env t (.pi (cs.map (Cn b es)))) (H.eraseIdx i) D:=by intro C a w S L hs;obtain⟨k,bL,f,h,c,m,j,d⟩:=hs.lN l;have e:=d.rep n rfl;simp only[aR]at e;obtain⟨g,o,e,hc⟩:=e;exact⟨k,_,h,d.oW (t:=t) rfl (by simp only[aR];exact⟨g,o,e,eO.Cn c m j hc⟩)⟩
end
def bJ (P:Program)(D:Nat)(K:TypeId)(k:Value):Prop:=k.formed P K=true/\ ∃L,P.keyLits D K k.cells.toList=some L
def xJ (P:Program)(K:TypeId):Bool:=match P.underlying K with|some (.array _ _)|some (.struct _)=>true|_=>false
theorem Co (n:Nat)(l:Lit):bA n l.toCell l.toCell=true:=by cases l<;>simp [Lit.toCell,bA];exact(MapKept.bytes_beq _ _).2 rfl
section
variable {P:Program}{K:TypeId}
theorem rZ (a:xJ P K=true){k:Value}(h:k.formed P K=true): ∃xs,k= .agg xs:=by
 unfold xJ at a;cases b:P.underlying K with
 |none=>grind
 |some d=>
  rw[b]at a;cases k<;>simp only[Value.formed,b]at h;case agg xs=>exact⟨xs,rfl⟩
  all_goals (exfalso;cases d<;>simp at a h)
theorem HB (c:xJ P K=true)(b:P.tiled m K=true){x y:Value}{D:Nat}{d f:List Lit}(g:x.formed P K=true)(h:y.formed P K=true)(hx:P.keyLits D K x.cells.toList=some d)(hy:P.keyLits D K y.cells.toList=some f):
  d=f↔x=y:=by
 obtain⟨xs,rfl⟩:=rZ c g
 obtain⟨ys,rfl⟩:=rZ c h
 have ex:=cells_of_lits m K b D _ _ hx
 have a:=cells_of_lits m K b D _ _ hy
 constructor
 ·intro e
  rw[<-e,<-ex]at a
  simp only[e5]at a
  rw[cR.1 a]
 ·grind
theorem gO.wide {D:Nat}(hm:m<=10000)(z:xJ P K=true)(hk:P.keyTypeAt m K=true)(E:P.tiled m K=true):gO P K (bJ P D K) where
 check:=by
  rintro k ⟨n,L,o⟩ em w
  have:=run_checkKey_deep (P:=P) em (10000-m) m K hk w D k L n o
  rwa [show 10000-m+m=10000 from zz]at this
 same:=by
  rintro k ⟨n,L,o⟩
  obtain⟨xs,rfl⟩:=rZ z n
  have ex:=cells_of_lits m K E D _ _ o
  simp only[e5]at ex
  show bA (9999+1) (.agg xs) (.agg xs)=true
  simp only[bA,beq_self_eq_true,Bool.true_and,List.all_eq_true]
  rintro⟨a,b⟩ s
  rw[ex]at s
  have H: ∀(l:List Value) (p:Value×Value),p∈l.zip l->p.1=p.2/\p.1∈l:=by
   intro l
   induction l with
   |nil=>intro p hp;simp at hp
   |cons c l u=>
    intro p hp
    simp only[er,ej]at hp
    rcases hp with rfl|hp
    ·exact⟨rfl,zj⟩
    ·exact⟨(u p hp).1,b7 _ (u p hp).2⟩
  obtain⟨f,g⟩:=H _ _ s
  simp only at f g
  subst f
  obtain⟨A,_,rfl⟩:=be.1 g
  exact Co _ A
 find:=by
  intro k l v hl w
  rw[run_findKey_eq w z]
  have go: ∀(l:List MapEntry) (i:Nat),(∀x∈l,bJ P D K x.key)->((bm K k l i).run P w= .ok none w/\ ∀x∈l,x.key≠k)\/
    ∃j e,(bm K k l i).run P w= .ok (some (i+j,e.val)) w/\l[j]? =some e/\e.key=k:=by
   intro l
   induction l with
   |nil=>intro i _;exact .inl ⟨by simp [bm],zj⟩
   |cons e l u=>
    intro i hl
    obtain⟨n,L,o⟩:=v
    obtain⟨B,F,q⟩:=hl e zj
    obtain⟨r,t,d⟩:=run_equalIn_deep (P:=P) (10000-m) m K hk w D D k e.key L F n B o q
    rw[show 10000-m+m=10000 from zz]at t
    rw[HB z E n B o q]at d
    cases r with
    |true=>
     refine .inr ⟨0,e,?_,rfl,(d.1 rfl).symm⟩
     simp [bm,e2,eM,t]
    |false=>
     have y:e.key≠k:=λe=>by have:=d.2 e.symm;cases this
     rcases u (i+1) (λx hx=>hl x (by simp [hx]))with⟨f,g⟩|⟨j,G,f,g,C⟩
     ·refine .inl ⟨by simp [bm,e2,eM,t,f],?_⟩
      intro x hx
      rcases ej.1 hx with rfl|hx
      ·exact y
      ·exact g x hx
     ·exact .inr ⟨j+1,G,by simp [bm,e2,eM,t,f];omega,by simpa using g,C⟩
  rcases go l 0 hl with h|⟨j,e,f,g,C⟩
  ·exact .inl h
  ·grind
end
variable {off:Nat}{ys:List (List AV)}{kd:IntKind}
section
variable {P:Program}{r:Option Nat}{env:Env}{D:List Nat}{dst:Option Nat}{K:Env->Heap->List Nat->Prop}{Q:cI}
theorem aF.nI {neg:Bool}{DD:Nat}(hm:m<=10000)(l:xJ P T=true)(hk:P.keyTypeAt m T=true)(z:P.tiled m T=true)(hg:P.eqGuardType P.depth T=false){u v:Value}
  (hx:valOf (bu env x)=some u) (hy:valOf (bu env y)=some v) (A:bJ P DD T u) (B:bJ P DD T v) (b:Bool) (t:b=true↔u=v) (k:K (ct env dst (.v (.bool (if neg=true then !b else b)))) H D):
  aF P r N (.nI neg T x y) dst env H D K:=
 aF.pure rfl zj (λo h C a w S L hs=>⟨.bool (if neg=true then !b else b),by
  have n:=mg hx (hs.cY x rfl (lU hx))
  have p:=mg hy (hs.cY y rfl (lU hy))
  obtain⟨f,E,d⟩:=A
  obtain⟨g,F,e⟩:=B
  obtain⟨s,q,c⟩:=run_equalIn_deep (P:=P) (10000-m) m T hk w DD DD u v E F f g d e
  rw[show 10000-m+m=10000 from zz]at q
  rw[HB l z f g d e]at c
  have j:s=b:=by rw[Bool.eq_iff_iff,c,t]
  subst j
  obtain⟨xs,rfl⟩:=rZ l f
  obtain⟨ys,rfl⟩:=rZ l g
  have he:(e2 T (.agg xs) (.agg ys)).run P w= .ok s w:=q
  cases h with
  |nI i G=>
   cases neg<;>simp [execOp,i,n,p,eqGuard,hg,binOp,he],by simp [aR]⟩) k
end
end Go.Px
