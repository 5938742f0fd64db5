/- Part 9 of the proof of a statement of this seat (a logic of pure contracts; the functions; their contracts). No conditions. -/
import Derived.Test.YtjjmmbcmdheooaaGreatDoorA8
open Bool renaming and_eq_true->bk
open Go.Instr renaming typeAssert->be,sliceBound->bm
open Go.Op renaming equalIn->bi,equal->b1
open List renaming perm_append_comm->an,append_assoc->a6,take_append_drop->a7,getElem?_eq_some_iff->a8,cons_append->bn,length_cons->bs,nil_append->bt,drop_drop->bx
open List.Perm renaming of_eq->bI,swap->b0
open Nat renaming beq->bA,ble->b3
open Option renaming map_eq_some_iff->ap
open Option.some renaming injEq->ad
open Prod.mk renaming injEq->az
namespace Go.Px
variable {cap kk n:Nat}{T:TypeId}{x:Operand}
section
variable {P:Program}{r:Option Nat}{N:Nat}{env:Env}{H:Heap}{D:List Nat}{dst:Option Nat}{K:Env->Heap->List Nat->Prop}{Q:cI}
theorem aF.lO {h m:Operand}{b:Option Addr}(hx:bu env x= .v (.slice b n cap))(hh:bu env h= .v (.int .i64 n))(hm:bu env m= .v (.int .i64 n))(g:n<=cap)
  (k:K (ct env dst (.v (.slice b n n))) H D):aF P r N (.mj T x none (some h) (some m) kk) dst env H D K:=
 aF.pure rfl zj (λo hl C a w S L hs=>by
  have l:=hs.cY x hx rfl
  have d:=hs.cY h hh rfl
  have f:=hs.cY m hm rfl
  simp only[aR]at l d f
  cases hl with
  |mj i s u=>
   rename_i E j
   refine⟨.slice b n n,?_,by simp only[aR]⟩
   have t: ∀(c:Nat) (e:_),n<=c->(bm (.int .i64 n) c e).run P w= .ok n w:=by
    intro c e hc
    simp [bm,asIntOf,hc]
   have p:(if n=0 then b else b.map λx=>x.add 0)=b:=by
    cases b with
    |none=>simp
    |some q=>
     have:q.add 0=q:=by cases q;simp [Addr.add]
     simp [this]
   simp [execOp,i,Instr.sliceAt,Instr.slice,Instr.sliceBounds,underlying,s,l,d,f,t,g,sizeOf,typeInfo,u,p]) k
end
variable {p q:AV}{b i j t:Nat}{S:aE}{es:List (List AV)}
section
variable {P:Program}{r:Option Nat}{N:Nat}{env:Env}{H:Heap}{D:List Nat}{Q:cI}
theorem HP {key:Value}{g:List (Value×AV)}(h: ∀v,aR S p v->aR S q v): ∀{c1:List (Value×AV)} {l:List MapEntry},ib S (c1++(key,p)::g) l->ib S (c1++(key,q)::g) l
 |[],l,b=>by
  simp only[bt,ib]at b ⊢
  obtain⟨e,a,c,d,f,h4⟩:=b
  exact⟨e,a,c,d,h _ f,h4⟩
 |(k,x)::c1,l,b=>by
  simp only[bn,ib]at b ⊢
  obtain⟨e,a,c,d,f,h4⟩:=b
  exact⟨e,a,c,d,f,HP h h4⟩
theorem bB.IT {T g:Nat}{h:List (Value×AV)}{key:Value}(c1 q:List (Value×AV))(k:H[i]? =some (b,.arr T kk cap es))(e:(H.eraseIdx i)[j]? =some (g,.map h))(hc:h=c1++(key,.so b es.length cap)::q):
  bB env H D env ((H.eraseIdx i).set j (g,.map (c1++(key,.sl kk es)::q))) D:=by
 subst hc
 intro C a w S L hs
 obtain⟨cur,f,t,m,n,hk,u,s⟩:=(hs.at_ k).arr
 refine⟨_,L,aE.gL (hs.at_ k).apart,(hs.freeze k f).QT e ?_⟩
 rintro o ⟨bL,d,rfl,hm,p⟩
 refine⟨bL,d,rfl,HP ?_ hm,p⟩
 intro v r
 simp only[aR]at r ⊢
 refine .inr ⟨b,0,cap,r,m,n,mB (l:=cur.take (es.length*kk)) (aS.mono (aE.gL (hs.at_ k).apart) _ _ u) hk s (λj c e=>?_)⟩
 rw[List.getElem?_take]at e
 split at e
 ·simp [aE.mV,e]
 ·cases e
theorem bB.JJ {es:List (Value×AV)}(m:env t= .mo b)(k:H[i]? =some (b,.map es)):bB env H D (dK env t (.mi es)) (H.eraseIdx i) D:=by intro C a w S L hs;obtain⟨j,bL,c,f,d,l,g,e⟩:=hs.lN k;have h:=e.rep m rfl;simp only[aR]at h;exact⟨j,_,f,e.oW (t:=t) rfl (by simp only[aR];exact⟨b,bL,c,h,d,l,g⟩)⟩
end
variable {env':Env}{H H':Heap}{gs:List (Nat×Bool)}{ls:List aH}{f:FuncId}
structure Ob (p:Prop):Prop where
 h:p
structure Mn (p:Prop):Prop where
 h:p
def CO (a:Nat):Prop:=False
def Dm (P:Program)(f:FuncId)(args:List AV)(Hin:Heap)(c:Bool)(res:AV)(Ho:Heap)(ch:List PanicEntry)(RP:Heap->Prop):Prop:=
 Y3 P f args Hin (λo h=>(c=true/\o= .ret res/\h=Ho)\/(c=false/\o= .Wx ch/\RP h))
def yg (P:Program)(f:FuncId)(args:List AV)(Hin:Heap)(res:Nat->AV)(Ho:Nat->Heap):Prop:=il P f args Hin (λr h=> ∃b,r=res b/\h=Ho b)
def AN (P:Program)(f:FuncId)(args:List AV)(Hin:Heap)(res:Nat->Nat->AV)(Ho:Nat->Nat->Heap):Prop:=il P f args Hin (λr h=> ∃b c,r=res b c/\h=Ho b c)
inductive VH (P:Program) where
 |i (h:Hint)
 |ev {f:FuncId} {args:List AV} {res:AV} (h:Ev P f args res)
 |bo {f:FuncId} {args:List AV} {res:AV} (h:Ev P f args res)
 |r {f:FuncId} {args:List AV} {Hin:Heap} {R:AV->Heap->Prop} (i:Nat) (h:il P f args Hin R)
 |u {f:FuncId} {args:List AV} {Hin:Heap} {c:Bool} {res:AV} {Ho:Heap} {ch:List PanicEntry} {RP:Heap->Prop} (i:Nat) (h:Dm P f args Hin c res Ho ch RP)
 |b {f:FuncId} {args:List AV} {Hin:Heap} {res:Nat->AV} {Ho:Nat->Heap} (i:Nat) (h:yg P f args Hin res Ho)
 |g (t:Nat) (e b:Bool)
 |sh
 |sT (t:Nat)
 |fT (i t:Nat)
 |fA (i j p:Nat)
 |wk (i:Nat)
 |cp (i:Nat)
 |fz (t:Nat)
 |b2 {f:FuncId} {args:List AV} {Hin:Heap} {res:Nat->Nat->AV} {Ho:Nat->Nat->Heap} (i:Nat) (h:AN P f args Hin res Ho)
 |mk
 |fm (i t:Nat)
 |uS (i t:Nat)
 |fM (i j p:Nat)
 |up (i:Nat) (o:Option Nat)
 |sw
 |ba {f:FuncId} {args:Nat->Nat->Nat->Nat->List AV} {Hin:Nat->Nat->Nat->Nat->Heap} {res:Nat->Nat->AV} {Ho:Nat->Nat->Nat->Nat->Nat->Nat->Heap} (i:Nat) (h: ∀x y z c,AN P f (args x y z c) (Hin x y z c) res (Ho x y z c))
def lQ (H:Heap)(i:Nat):Nat:=match H[i]? with
 |some (b,_)=>b
 |none=>0
def Eh (H:Heap)(i:Nat):Nat:=match H[i]? with
 |some (_,.arr _ _ c _)=>c
 |_=>0
def um (l:aH):Nat:=match l.dst with
 |some d=>d
 |none=>match l.op with
  | .store _ (.tmp t) _ _=>10000+t
  | .call f _ _=>20000+f
  | .fP (.tmp t) _ _=>30000+t
  | .panic (.tmp t)=>40000+t
  | .iI _ _ _ _ _ _=>60000
  |_=>50000
section
variable {P:Program}{r:Option Nat}{N:Nat}{env:Env}{D:List Nat}{dst:Option Nat}{K:Env->Heap->List Nat->Prop}{KP:List PanicEntry->Env->Heap->List Nat->Prop}{Q:cI}{l:jM}
theorem mS.lr {i:List Nat}(h:bB env H D env' H' i)(k:mS P r N l dst env' H' i K KP):mS P r N l dst env H D K KP:=by
 intro o q s t C a w S L h4 hs next Q u v
 obtain⟨n,j,c,f⟩:=h C a w S L hs;exact k o q s t C a w n j h4 f next Q (λe H d y w' p m hk g b=>u e H d y w' p m hk g (c.trans b)) v
theorem mS.out (k:mS P r N l dst env H D (λe h d=> ∃f g b,bB e h d f g b/\K f g b) (λc e h d=> ∃f g b,bB e h d f g b/\KP c f g b)):mS P r N l dst env H D K KP:=by
 intro o u v x C a w S L h4 hs next Q z A
 refine k o u v x C a w S L h4 hs next Q ?_ ?_
 ·rintro e H d y w' s p ⟨f,g,b,t,hk⟩ j n;obtain⟨S3,q,i,m⟩:=t C _ w' s p j;exact z f g b y w' S3 q hk m (n.trans i)
 ·rintro c e H d w' s p ⟨f,g,b,t,hk⟩ j;obtain⟨S3,q,i,m⟩:=t C _ w' s p j;exact A c f g b w' S3 q hk m
def fz1 (env:Env):Operand->Env
 | .tmp t=>match env t with
  | .aI _ k es=>dK env t (.sl k es)
  | .dO _ cs=>dK env t (.pi cs)
  |_=>env
 |_=>env
def Y8 (env:Env):List Operand->Env
 |[]=>env
 |x::xs=>Y8 (fz1 env x) xs
def xk:jM->List Operand
 | .call _ xs _=>xs
 | .fP _ xs _=>xs
 |_=>[]
theorem Fk (x:Operand):bB env H D (fz1 env x) H D:=by
 cases x with
 |tmp t=>
  simp only[fz1];split
  ·rename_i h;exact bB.ga h
  ·rename_i h;exact bB.jV h
  ·exact bB.refl _ _ _
 |_=>exact bB.refl _ _ _
theorem zN: ∀(xs:List Operand) {env:Env},bB env H D (Y8 env xs) H D
 |[],_=>bB.refl _ _ _
 |x::xs,_=>(Fk x).trans (zN xs)
def yE:List AV->List AV->Prop
 |[],[]=>True
 |p::ps,q::a=>Ob (ez p q)/\yE ps a
 |_,_=>False
def Ym (env:Env)(H:Heap):List AV->List AV->Prop
 |[],[]=>True
 |p::ps,q::a=>Ob (lB env H p q)/\Ym env H ps a
 |_,_=>False
theorem gM: ∀{ps a:List AV},yE ps a->fN ez ps a
 |[],[],_=>trivial
 |_::_,_::_,h=>⟨h.1.h,gM h.2⟩
 |[],_::_,h=>h.elim
 |_::_,[],h=>h.elim
theorem Fb: ∀{ps a:List AV},Ym env H ps a->fN (lB env H) ps a
 |[],[],_=>trivial
 |_::_,_::_,h=>⟨h.1.h,Fb h.2⟩
 |[],_::_,h=>h.elim
 |_::_,[],h=>h.elim
def VL (env:Env)(f:FuncId)(l:jM)(k:List AV->Prop):Prop:=match l with
 | .call g xs _=>Ob (g=f)/\(bif mI (xs.map (bu env))then k (xs.map (bu env))else False)
 | .fP x xs _=>match bu env x with
  | .fn (.func g) first a=>Ob (g=f)/\(bif mI (xs.map (bu env))then k (first++xs.map (bu env)++a)else False)
  |_=>False
 |_=>False
theorem vq {k:List AV->Prop}(h:VL env f l k):(∃xs b,l= .call f xs b/\mI (xs.map (bu env))=true/\k (xs.map (bu env)))\/
  (∃x xs b first a,l= .fP x xs b/\bu env x= .fn (.func f) first a/\mI (xs.map (bu env))=true/\k (first++xs.map (bu env)++a)):=by
 unfold VL at h
 split at h
 ·rename_i g xs b
  obtain⟨⟨rfl⟩,h⟩:=h
  cases c:mI (xs.map (bu env))with
  |false=>grind
  |true=>grind
 ·rename_i x xs b
  split at h
  ·rename_i g first a hx
   obtain⟨⟨rfl⟩,h⟩:=h
   cases c:mI (xs.map (bu env))with
   |false=>rw[c]at h;exact h.elim
   |true=>rw[c]at h;exact .inr ⟨x,xs,b,first,a,rfl,hx,c,h⟩
  ·exact h.elim
 ·exact h.elim
def wc (H:Heap)(i n:Nat)(G:Heap):Heap:=H.take i++(G++H.drop (i+n))
theorem mu {G:Heap}(h:(H.drop i).take G.length=G):H.Perm (G++(H.take i++H.drop (i+G.length))):=by
 have e:H=H.take i++(G++H.drop (i+G.length)):=by conv=>lhs;rw[<-a7 i H,<-a7 G.length (H.drop i),h,bx]
 exact(bI e).trans (by
  rw[<-a6,<-a6]
  exact an.append_right _)
theorem iw {G:Heap}:(G++(H.take i++H.drop (i+n))).Perm (wc H i n G):=by unfold wc;rw[<-a6,<-a6];exact an.append_right _
def qV (x:Value)(k:Value->Prop):Prop:=match x with
 | .int a n=>k (.int a n)
 | .bool b=>k (.bool b)
 | .string s=>k (.string s)
 |x=>k x
def qE (p:AV)(k:AV->Prop):Prop:=match p with
 | .v x=>qV x λx=>k (.v x)
 | .agg l=>k (.agg l)
 | .sl a b=>k (.sl a b)
 | .pi c=>k (.pi c)
 | .po a b=>k (.po a b)
 | .so a b c=>k (.so a b c)
 | .fn a b c=>k (.fn a b c)
 |p=>k p
def qL:List AV->(List AV->Prop)->Prop
 |[],k=>k []
 |p::l,k=>qE p λp=>qL l λl=>k (p::l)
def Y9:List (List AV)->(List (List AV)->Prop)->Prop
 |[],k=>k []
 |p::l,k=>qL p λp=>Y9 l λl=>k (p::l)
def qA (p:AV)(k:AV->Prop):Prop:=match p with
 | .agg l=>qL l λl=>k (.agg l)
 | .pi l=>qL l λl=>k (.pi l)
 | .dO T l=>qL l λl=>k (.dO T l)
 |p=>qE p k
def qB (p:AV)(k:AV->Prop):Prop:=match p with
 | .sl a l=>Y9 l λl=>k (.sl a l)
 | .aI T a l=>Y9 l λl=>k (.aI T a l)
 |p=>k p
def qF (p:AV)(k:AV->Prop):Prop:=match p with
 | .fn f a b=>qL a λa=>qL b λb=>k (.fn f a b)
 |p=>k p
def qOp (op:jM)(p:AV)(k:AV->Prop):Prop:=match op with
 | .load _ _ _=>qA p k
 | .build _ _ _ _=>qA p k
 | .alloc _ _=>qA p k
 | .box _ _=>qA p k
 | .store _ _ _ _=>qA p k
 | .field _ _ _ _ _=>qA p k
 | .iS _ _ _ _ _ _=>qA p k
 | .iB _ _ _ _ _ _=>qB p k
 | .vv _ _ _=>qF p k
 |_=>k p
def qW (op:jM):List (Nat×AV)->(List (Nat×AV)->Prop)->Prop
 |[],k=>k []
 |(d,p)::W,k=>qOp op p λp=>qW op W λW=>k ((d,p)::W)
def qH:Heap->(Heap->Prop)->Prop
 |[],k=>k []
 |(b,.cells T cs)::H,k=>qL cs λcs=>qH H λH=>k ((b,.cells T cs)::H)
 |(b,x)::H,k=>qH H λH=>k ((b,x)::H)
def ZN (op:jM)(H:Heap)(k:Heap->Prop):Prop:=match op with
 | .store _ _ _ _=>qH H k
 |_=>k H
theorem aas {x:Value}{k:Value->Prop}(h:qV x k):k x:=by unfold qV at h;split at h<;>exact h
theorem WR {k:AV->Prop}(h:qE p k):k p:=by
 unfold qE at h;split at h
 ·exact aas h
 all_goals exact h
theorem pS: ∀{l:List AV} {k:List AV->Prop},qL l k->k l
 |[],_,h=>h
 |_::l,_,h=>pS (l:=l) (WR h)
theorem Ah: ∀{l:List (List AV)} {k:List (List AV)->Prop},Y9 l k->k l
 |[],_,h=>h
 |_::l,_,h=>Ah (l:=l) (pS h)
theorem ZQ {k:AV->Prop}(h:qA p k):k p:=by
 unfold qA at h;split at h
 ·exact pS h
 ·exact pS h
 ·exact pS h
 ·exact WR h
theorem Zk {k:AV->Prop}(h:qB p k):k p:=by
 unfold qB at h;split at h
 ·exact Ah h
 ·exact Ah h
 ·exact h
theorem aaf {k:AV->Prop}(h:qF p k):k p:=by
 unfold qF at h;split at h
 ·exact pS (pS h)
 ·exact h
theorem YL {op:jM}{k:AV->Prop}(h:qOp op p k):k p:=by unfold qOp at h;split at h;all_goals first|exact ZQ h|exact Zk h|exact aaf h|exact h
theorem Gd {op:jM}: ∀{W:List (Nat×AV)} {k:List (Nat×AV)->Prop},qW op W k->k W
 |[],_,h=>h
 |(_,_)::W,_,h=>Gd (W:=W) (YL h)
theorem iW: ∀{H:Heap} {k:Heap->Prop},qH H k->k H
 |[],_,h=>h
 |(b,x)::H,k,h=>by
  cases x with
  |cells T cs=>exact iW (H:=H) (k:=λH=>k ((b,.cells T cs)::H)) (pS h)
  |_=>exact iW (H:=H) (k:=λH=>k ((b,_)::H)) h
theorem Jp {op:jM}{k:Heap->Prop}(h:ZN op H k):k H:=by
 unfold ZN at h;split at h
 ·exact iW h
 ·exact h
def Y7 (h:VH P)(l:aH)(H:Heap)(env:Env)(k:Heap->Env->Prop)(d:List PanicEntry->Heap->Env->Prop):Prop:=match h with
 | .ev (f:=f) (args:=a) (res:=res) _=>VL env f l.op λps=>yE ps a/\k H (ct env l.dst res)
 | .bo (f:=f) (args:=a) (res:=res) _=>VL env f l.op λps=>Ob (res.sW=true)/\Ym env H ps a/\k H (ct env l.dst res)
 | .r (f:=f) (args:=a) (Hin:=G) (R:=R) i _=>VL env f l.op λps=>yE ps a/\Ob ((H.drop i).take G.length=G)/\ ∀res Ho,R res Ho->qH (wc H i G.length Ho) λH=>k H (ct env l.dst res)
 | .b (f:=f) (args:=a) (Hin:=G) (res:=res) (Ho:=Ho) i _=>VL env f l.op λps=>yE ps a/\Ob ((H.drop i).take G.length=G)/\ ∀b,qH (wc H i G.length (Ho b)) λH=>k H (ct env l.dst (res b))
 | .b2 (f:=f) (args:=a) (Hin:=G) (res:=res) (Ho:=Ho) i _=>VL env f l.op λps=>yE ps a/\Ob ((H.drop i).take G.length=G)/\ ∀b c,qH (wc H i G.length (Ho b c)) λH=>k H (ct env l.dst (res b c))
 | .ba (f:=f) (args:=a) (Hin:=G) (res:=res) (Ho:=Ho) i _=>VL env f l.op λps=>yE ps (a (lQ H i) (lQ H (i+1)) (lQ H (i+2)) (Eh H (i+2)))/\
  Ob ((H.drop i).take (G (lQ H i) (lQ H (i+1)) (lQ H (i+2)) (Eh H (i+2))).length=G (lQ H i) (lQ H (i+1)) (lQ H (i+2)) (Eh H (i+2)))/\
  ∀b c,qH (wc H i (G (lQ H i) (lQ H (i+1)) (lQ H (i+2)) (Eh H (i+2))).length (Ho (lQ H i) (lQ H (i+1)) (lQ H (i+2)) (Eh H (i+2)) b c)) λH=>k H (ct env l.dst (res b c))
 | .u (f:=f) (args:=a) (Hin:=G) (c:=c) (res:=res) (Ho:=Ho) (ch:=ch) (RP:=RP) i _=>VL env f l.op λps=>yE ps a/\Ob ((H.drop i).take G.length=G)/\
  (c=true->qH (wc H i G.length Ho) λH=>k H (ct env l.dst res))/\(c=false-> ∀h,RP h->d ch (wc H i G.length h) env)
 |_=>False
def Y6:VH P->Bool
 | .u _ _=>true
 |_=>false
theorem ID {h:VH P}{l:aH}{k:Heap->Env->Prop}{A:List PanicEntry->Heap->Env->Prop}(q:Y7 h l H env k A):mS P r N l.op l.dst env H D (λe h d=>k h e/\d=D) (λc e h d=>A c h e/\d=D)/\
  (Y6 h=false->aF P r N l.op l.dst env H D (λe h d=>k h e/\d=D)):=by
 have one:aF P r N l.op l.dst env H D (λe h d=>k h e/\d=D)->mS P r N l.op l.dst env H D (λe h d=>k h e/\d=D) (λc e h d=>A c h e/\d=D)/\
  (Y6 h=false->aF P r N l.op l.dst env H D (λe h d=>k h e/\d=D)):=λh=>⟨h.toX,λ_=>h⟩
 obtain⟨dst,g,op⟩:=l
 dsimp only at one q ⊢
 unfold Y7 at q
 split at q
 ·rename_i f u res a
  refine one ?_
  rcases vq q with⟨xs,s,rfl,n,j,m⟩|⟨x,xs,s,first,p,rfl,hx,n,j,m⟩
  ·exact aF.call a rfl n (λS t=>fC (gM j)) ⟨m,rfl⟩
  ·exact aF.fP hx a rfl n (λS t=>fC (gM j)) ⟨m,rfl⟩
 ·rename_i f u res a
  refine one ?_
  rcases vq q with⟨xs,s,rfl,n,o,j,m⟩|⟨x,xs,s,first,p,rfl,hx,n,o,j,m⟩
  ·exact aF.Wq a rfl n (Fb j) o.h ⟨m,rfl⟩
  ·exact aF.SU hx a rfl n (Fb j) o.h ⟨m,rfl⟩
 ·rename_i f u G R i a
  refine one ?_
  rcases vq q with⟨xs,s,rfl,n,j,o,m⟩|⟨x,xs,s,first,p,rfl,hx,n,j,o,m⟩
  ·refine aF.pre (bB.perm (mu o.h)) (aF.lr (aF.GV a rfl n (λS t=>fC (gM j)) rfl ?_))
   exact λres Ho y=>⟨_,_,_,bB.perm iw,iW (m res Ho y),rfl⟩
  ·refine aF.pre (bB.perm (mu o.h)) (aF.lr (aF.Ae hx (fn:=.func f) a rfl n (λS t=>fC (gM j)) rfl ?_))
   exact λres Ho y=>⟨_,_,_,bB.perm iw,iW (m res Ho y),rfl⟩
 ·rename_i f u G res Ho i a
  refine one ?_
  rcases vq q with⟨xs,s,rfl,n,j,o,m⟩|⟨x,xs,s,first,p,rfl,hx,n,j,o,m⟩
  ·refine aF.pre (bB.perm (mu o.h)) (aF.lr (aF.GV a rfl n (λS t=>fC (gM j)) rfl ?_))
   rintro _ _ ⟨b,rfl,rfl⟩;exact⟨_,_,_,bB.perm iw,iW (m b),rfl⟩
  ·refine aF.pre (bB.perm (mu o.h)) (aF.lr (aF.Ae hx (fn:=.func f) a rfl n (λS t=>fC (gM j)) rfl ?_))
   rintro _ _ ⟨b,rfl,rfl⟩;exact⟨_,_,_,bB.perm iw,iW (m b),rfl⟩
 ·rename_i f u G res Ho i a
  refine one ?_
  rcases vq q with⟨xs,s,rfl,n,j,o,m⟩|⟨x,xs,s,first,p,rfl,hx,n,j,o,m⟩
  ·refine aF.pre (bB.perm (mu o.h)) (aF.lr (aF.GV a rfl n (λS t=>fC (gM j)) rfl ?_))
   rintro _ _ ⟨b,c,rfl,rfl⟩;exact⟨_,_,_,bB.perm iw,iW (m b c),rfl⟩
  ·refine aF.pre (bB.perm (mu o.h)) (aF.lr (aF.Ae hx (fn:=.func f) a rfl n (λS t=>fC (gM j)) rfl ?_))
   rintro _ _ ⟨b,c,rfl,rfl⟩;exact⟨_,_,_,bB.perm iw,iW (m b c),rfl⟩
 ·rename_i f u G res Ho i a
  have a:=a (lQ H i) (lQ H (i+1)) (lQ H (i+2)) (Eh H (i+2))
  generalize u (lQ H i) (lQ H (i+1)) (lQ H (i+2)) (Eh H (i+2))=u at q a
  generalize G (lQ H i) (lQ H (i+1)) (lQ H (i+2)) (Eh H (i+2))=G at q a
  generalize Ho (lQ H i) (lQ H (i+1)) (lQ H (i+2)) (Eh H (i+2))=Ho at q a
  refine one ?_
  rcases vq q with⟨xs,s,rfl,n,j,o,m⟩|⟨x,xs,s,first,p,rfl,hx,n,j,o,m⟩
  ·refine aF.pre (bB.perm (mu o.h)) (aF.lr (aF.GV a rfl n (λS t=>fC (gM j)) rfl ?_))
   rintro _ _ ⟨b,c,rfl,rfl⟩;exact⟨_,_,_,bB.perm iw,iW (m b c),rfl⟩
  ·refine aF.pre (bB.perm (mu o.h)) (aF.lr (aF.Ae hx (fn:=.func f) a rfl n (λS t=>fC (gM j)) rfl ?_))
   rintro _ _ ⟨b,c,rfl,rfl⟩;exact⟨_,_,_,bB.perm iw,iW (m b c),rfl⟩
 ·rename_i f u G c res Ho ch RP i a
  refine⟨?_,λe=>by simp [Y6]at e⟩
  rcases vq q with⟨xs,s,rfl,n,j,o,m,w⟩|⟨x,xs,s,first,p,rfl,hx,n,j,o,m,w⟩
  ·refine mS.lr (bB.perm (mu o.h)) (mS.out (mS.call a rfl n (λS t=>fC (gM j)) rfl ?_ ?_))
   ·rintro C v (⟨hc,he,rfl⟩|⟨_,he,_⟩)
    ·cases he;exact⟨_,_,_,bB.perm iw,iW (m hc),rfl⟩
    ·cases he
   ·rintro B v (⟨_,he,_⟩|⟨hc,he,z⟩)
    ·cases he
    ·cases he;exact⟨_,_,_,bB.perm iw,w hc _ z,rfl⟩
  ·refine mS.lr (bB.perm (mu o.h)) (mS.out (mS.fP hx a rfl n (λS t=>fC (gM j)) rfl ?_ ?_))
   ·rintro C v (⟨hc,he,rfl⟩|⟨_,he,_⟩)
    ·cases he;exact⟨_,_,_,bB.perm iw,iW (m hc),rfl⟩
    ·cases he
   ·rintro B v (⟨_,he,_⟩|⟨hc,he,z⟩)
    ·cases he
    ·cases he;exact⟨_,_,_,bB.perm iw,w hc _ z,rfl⟩
 ·exact q.elim
def vg1 (gs:List (Nat×Bool))(env:Env)(o:Option Nat)(k:List (Nat×Bool)->Prop):Prop:=match o with
 |none=>k gs
 |some t=>match rI gs t with
  |some _=>k gs
  |none=>match env t with
   | .v (.bool e)=>(e=true->k ((t,true)::gs))/\(e=false->k ((t,false)::gs))
   |_=>k gs
theorem Rp {o:Option Nat}{k:List (Nat×Bool)->Prop}(h:vg1 gs env o k): ∃a,k a:=by
 unfold vg1 at h;split at h
 ·exact⟨_,h⟩
 ·grind
def SM:jM->Option Nat
 | .pick (.tmp t) _ _=>some t
 |_=>none
def Zq:Option Prop->Prop->Prop
 |none,q=>q
 |some p,q=>Ob p/\q
theorem Fv {o:Option Prop}{q:Prop}(h:Zq o q):Lm o/\q:=by
 cases o with
 |none=>exact⟨trivial,h⟩
 |some p=>exact⟨h.1.h,h.2⟩
def tV:List (VH P)->List Hint
 |[]=>[]
 | .i h::l=>h::tV l
 | .ev (args:=a) (res:=res) _::l=>.wC a res::tV l
 | .bo (args:=a) (res:=res) _::l=>.Fq a res::tV l
 |_::l=>tV l
def Zv (l:jM)(env:Env):List Hint:=match l with
 | .box _ _=>[.bW]
 | .alloc _ _=>[.aI]
 | .iB _ _ _ _ _ _=>[.bW]
 | .load _ _ _=>[.at 0]
 | .store _ _ _ _=>[.gI 0]
 | .ni _ x i _=>(match bu env x,bu env i with
  | .sl _ es,.v (.int _ n)=>(match es[n.toNat]? with
   |some e=>[.cells e]
   |none=>[])
  |_,_=>[])
 |_=>[]
def JD (hs:List (VH P))(l:jM)(env:Env):List Hint:=match hs with
 |[]=>Zv l env
 |[.sh]=>[.aI]
 |hs=>tV hs
def vsh (hs:List (VH P))(d:Option Nat)(k:Heap->Env->Prop)(H:Heap)(env:Env):Prop:=match hs with
 |[.sh]=>(match d with
  |some d=>(match env d with
   | .dO T cs=> ∀b,k (H++[(b,.cells T cs)]) (dK env d (.po b 0))
   |_=>False)
  |none=>False)
 |_=>k H env
def Og:List AV->Option (List Value)
 |[]=>some []
 | .v x::l=>(Og l).map (x:: ·)
 | .fn f [] []::l=>(Og l).map (.func f #[] #[]:: ·)
 |_=>none
def Pu:AV->Option Value
 | .agg l=>(Og l).map λa=>.agg a.toArray
 |p=>valOf p
theorem B3 : ∀{l:List AV} {b cs:List Value},Og l=some b->aS S l cs->cs=b
 |[],b,cs,h,r=>by
  simp only[Og,ad]at h
  simp only[aS]at r
  rw[r,h]
 |p::l,b,cs,h,r=>by
  simp only[aS]at r
  obtain⟨c,j,rfl,a,i⟩:=r
  unfold Og at h
  split at h
  ·rename_i e;cases e
  ·rename_i x n e
   cases e
   obtain⟨g,d,rfl⟩:=ap.1 h
   simp only[aR]at a
   rw[a,B3 d i]
  ·rename_i f n e
   cases e
   obtain⟨g,d,rfl⟩:=ap.1 h
   simp only[aR,aS]at a
   obtain⟨o,k,m,rfl,rfl⟩:=a
   rw[m,B3 d i]
  ·cases h
theorem Rl {u y:Value}(h:Pu p=some u)(r:aR S p y):y=u:=by
 unfold Pu at h;split at h
 ·obtain⟨b,a,rfl⟩:=ap.1 h;simp only[aR]at r;obtain⟨cs,rfl,r⟩:=r;rw[B3 a r]
 ·exact mg h r
theorem RL {u:Value}(h:Pu p=some u):p.bC=false:=by
 unfold Pu at h;split at h
 ·rfl
 ·exact lU h
def IP:Value->AV
 | .agg cs=>.agg (cs.toList.map .v)
 | .func f a b=>.fn f (a.toList.map .v) (b.toList.map .v)
 |v=>.v v
def uU (P:Program)(A:TypeId):Bool:=match P.underlying A with
 |some (.interface _)=>false
 |some _=>true
 |none=>false
def sF (P:Program)(A:TypeId):Bool:=match P.underlying A with
 |some (.interface _)=>true
 |_=>false
def sliceB (P:Program)(A:TypeId):Bool:=match P.underlying A with
 |some (.slice _)=> !(P.eqGuardType P.depth A)
 |_=>false
def Xn (P:Program)(l:jM)(env:Env):Option (AV×Bool):=match l with
 | .nI neg T x (.const .nilIface)=>(match bu env x with
  | .v .nilIface=>some (B (!neg),sF P T)
  | .v (.iface _ _)=>some (B neg,sF P T)
  | .Vq _ _=>some (B neg,sF P T)
  |_=>none)
 | .JY T x=>(Pu (bu env x)).map λu=>(.v (.iface T u),true)
 | .zn x _ A ok=>match bu env x with
  | .v (.iface t u)=>bif bA t A then some (bif ok then .bZ [IP u,B true]else IP u,uU P A)else(bif ok then some (.bZ [.any,B false],uU P A&&(zeroOf P A).isSome)else none)
  |_=>none
 |_=>none
theorem Ik (S:aE)(u:Value):aR S (IP u) u/\(IP u).bC=false:=by
 unfold IP;split
 ·rename_i cs;exact⟨by simp only[aR];exact⟨cs.toList,zj,qx S _⟩,rfl⟩
 ·rename_i f a b;exact⟨by simp only[aR];exact⟨a.toList,b.toList,zj,qx S _,qx S _⟩,rfl⟩
 ·exact⟨by simp [aR],rfl⟩
theorem Jm {T:Nat}{m:Array (String×TypeId)}(a:P.underlying T=some (.interface m))(d:Nat)(w:World):(bi (d+1) T .nilIface .nilIface).run P w= .ok true w:=by simp [bi,underlying,a]
theorem IJ {T:Nat}{m:Array (String×TypeId)}(a:P.underlying T=some (.interface m))(d:Nat)(t:TypeId)(u:Value)(w:World):(bi (d+1) T (.iface t u) .nilIface).run P w= .ok false w:=by simp [bi,underlying,a]
theorem AR {c:Bool}(h:Xn P l env=some (p,c))(hc:c=true)(k:K (ct env dst p) H D):aF P r N l dst env H D K:=by
 unfold Xn at h;split at h
 ·rename_i neg T x
  have hd: ∀{c:Bool},sF P T=c->c=true-> ∃m,P.underlying T=some (.interface m):=by
   rintro c rfl e;unfold sF at e;split at e
   ·rename_i m hm;exact⟨m,hm⟩
   ·cases e
  have J: ∀(w:World) (m:Array (String×TypeId)),P.underlying T=some (.interface m)->(b1 T .nilIface .nilIface).run P w= .ok true w:=λw m i=>Jm i 9999 w;have G: ∀(w:World) (m:Array (String×TypeId)) (t:TypeId) (u:Value),P.underlying T=some (.interface m)->(b1 T (.iface t u) .nilIface).run P w= .ok false w:=λw m t u i=>IJ i 9999 t u w;split at h
  ·rename_i hx;simp only[ad,az]at h;obtain⟨rfl,n⟩:=h;obtain⟨m,i⟩:=hd n hc;refine aF.pure rfl zj (λo b C a w S L hs=>⟨.bool (!neg),?_,by simp [aR]⟩) k;have g:=hs.int hx;cases b with
   |nI f _=>have j:a.eval (.const .nilIface)= .nilIface:=rfl;cases neg<;>simp [execOp,f,g,j,eqGuard,binOp,J w m i]
  ·rename_i t u hx;simp only[ad,az]at h;obtain⟨rfl,n⟩:=h;obtain⟨m,i⟩:=hd n hc;refine aF.pure rfl zj (λo b C a w S L hs=>⟨.bool neg,?_,by simp [aR]⟩) k;have g:=hs.int hx;cases b with
   |nI f _=>have j:a.eval (.const .nilIface)= .nilIface:=rfl;cases neg<;>simp [execOp,f,g,j,eqGuard,binOp,G w m t u i]
  ·rename_i t q hx;simp only[ad,az]at h;obtain⟨rfl,n⟩:=h;obtain⟨m,i⟩:=hd n hc;refine aF.pure rfl zj (λo b C a w S L hs=>⟨.bool neg,?_,by simp [aR]⟩) k;have y:=hs.cY x hx rfl;simp only[aR]at y;obtain⟨u,g,_⟩:=y;cases b with
   |nI f _=>have j:a.eval (.const .nilIface)= .nilIface:=rfl;cases neg<;>simp [execOp,f,g,j,eqGuard,binOp,G w m t u i]
  ·cases h
 ·rename_i T x;simp only[ap,az]at h;obtain⟨u,I,rfl,rfl⟩:=h;refine aF.pure rfl zj (λo b C a w S L hs=>⟨.iface T u,?_,by simp [aR]⟩) k;have g:=Rl I (hs.cY x rfl (RL I));cases b with
  |JY f i hd=>rename_i d;cases d<;>first|exact absurd rfl (hd _)|simp [execOp,f,g,Instr.makeInterface,underlying,i]
 ·rename_i x T A ok;split at h
  ·rename_i t u hx
   have hd:uU P A=true-> ∃d,P.underlying A=some d/\ ∀m,d≠.interface m:=by
    intro e;unfold uU at e;split at e
    ·cases e
    ·rename_i d B E;exact⟨d,E,λm e=>B m e⟩
    ·cases e
   cases s:bA t A with
   |true=>
    have:=Nat.eq_of_beq_eq_true s;subst this;rw[s]at h;simp only[cond_true,ad,az]at h;obtain⟨rfl,rfl⟩:=h;obtain⟨d,i,hd⟩:=hd hc;cases ok with
    |true=>
     refine aF.pure rfl zj (λo b C a w S L hs=>⟨.tuple #[u,.bool true],?_,by
      simp only[aR,cond_true]
      exact⟨[u,.bool true],rfl,by simp only[aS];exact⟨u,_,rfl,(Ik S u).1,.bool true,[],rfl,by simp [aR],rfl⟩⟩⟩) k
     have g:=hs.int hx;cases b with
     |zn f=>cases d<;>first|exact absurd rfl (hd _)|simp [execOp,f,g,be,underlying,i]
    |false=>
     refine aF.pure (show (IP u).bC=false by unfold IP;split<;>rfl) zj (λo b C a w S L hs=>⟨u,?_,(Ik S u).1⟩) k;have g:=hs.int hx;cases b with
     |zn f=>cases d<;>first|exact absurd rfl (hd _)|simp [execOp,f,g,be,underlying,i]
   |false=>
    rw[s]at h;cases ok with
    |false=>cases h
    |true=>
     simp only[cond_false,cond_true,ad,az]at h;obtain⟨rfl,rfl⟩:=h;simp only[bk,Option.isSome_iff_exists]at hc;obtain⟨d,i,hd⟩:=hd hc.1;obtain⟨z,O⟩:=hc.2;have F: ¬t=A:=λe=>by subst e;rw[Nat.beq_refl]at s;cases s
     refine aF.pure rfl zj (λo b C a w S L hs=>?_) k;have g:=hs.int hx;obtain⟨v,M,_⟩:=jz (P:=P) (w:=w) O
     refine⟨.tuple #[v,.bool false],?_,by
      simp only[aR]
      exact⟨[v,.bool false],rfl,by simp only[aS];exact⟨v,_,rfl,by simp [aR],.bool false,[],rfl,by simp [aR],rfl⟩⟩⟩
     cases b with
     |zn f=>cases d<;>first|exact absurd rfl (hd _)|simp [execOp,f,g,be,underlying,i,F,M]
  ·cases h
 ·cases h
def Zd (P:Program)(hs:List (VH P))(gs:List (Nat×Bool))(l:aH)(H:Heap)(env:Env)(k:Heap->Env->Prop):Prop:=match CR P gs H (JD hs l.op env) l env with
 |some (W,H1,_,a)=>Zq a (qW l.op W λW=>ZN l.op H1 λH1=>vsh hs l.dst k H1 (dG env W))
 |none=>CO (um l)
def vgd (gs:List (Nat×Bool))(env:Env)(l:aH)(u:Bool)(skip run:Prop):Prop:=match l.guard with
 |none=>run
 |some (t,b)=>bif u then False else match env t with
  | .v (.bool e)=>(match rI gs t with
   |some c=>Ob (e=c)/\(bif Bool.xor c b then skip else run)
   |none=>False)
  | .v (.tuple _)=>skip
  |_=>False
def Zh (cs:List AV):List (Nat×Nat×AV)->(List AV->Prop)->Prop
 |[],k=>k cs
 |(off,size,p)::rest,k=>qL (bQ p) λc=>bif p.cj&&c.length==size&&b3 (off+c.length) cs.length then qL (bK cs off c) λcs=>Zh cs rest k else False
theorem Aj: ∀{l cs:List AV} {off:Nat},off+l.length<=cs.length->pt cs off l=bK cs off l
 |[],cs,off,_=>by simp [pt,bK]
 |c::l,cs,off,h=>by
  simp only[bs]at h
  simp only[pt]
  rw[Aj (by rw[List.length_set];omega)]
  unfold bK
  rw[List.set_eq_take_append_cons_drop,if_pos zz]
  have a:(cs.take off).length=off:=by rw[List.length_take];omega
  rw[List.take_append,a,List.take_of_length_le zz,show off+1-off=1 from zz,List.take_succ_cons,List.take_zero,List.drop_append,a,List.drop_eq_nil_of_le zz,show off+1+l.length-off=(0+l.length)+1 from zz,List.drop_succ_cons,bx,bs]
  simp only[a6,bt,bn]
  rw[show off+1+(0+l.length)=off+(l.length+1)from zz]
theorem El: ∀{l:List (Nat×Nat×AV)} {cs:List AV} {k:List AV->Prop},Zh cs l k-> ∃q,gH cs l=some q/\k q
 |[],cs,k,h=>⟨cs,rfl,h⟩
 |(off,size,p)::rest,cs,k,h=>by
  have h:=pS h
  cases a:(p.cj&&(bQ p).length==size&&b3 (off+(bQ p).length) cs.length)with
  |false=>rw[a]at h;exact h.elim
  |true=>
   rw[a]at h
   have d:off+(bQ p).length<=cs.length:=by simp only[bk]at a;exact Nat.le_of_ble_eq_true a.2
   have h:qL (bK cs off (bQ p)) (λcs=>Zh cs rest k):=h
   rw[<-Aj d]at h
   obtain⟨q,b,c⟩:=El (l:=rest) (pS (l:=pt cs off (bQ p)) h)
   exact⟨q,by simp only[gH];rw[if_pos a];exact b,c⟩
def vbs (hs:List (VH P))(l:aH)(env:Env)(k:Env->Prop):Option Prop:=match l.guard,l.op,l.dst with
 |none,.iB _ n ps E kk z,some d=>(match hs with
  |[]=>some (qL (rep n (z.map .v)) λc0=>Zh c0 (ps.map λp=>(p.1*kk,kk,bu env p.2)) λq=>Ob (q.all AV.dW=true)/\Y9 (chunk kk n q) λes=>k (dK env d (.sl kk es)))
  |[.i .aI]=>some (qL (rep n (z.map .v)) λc0=>Zh c0 (ps.map λp=>(p.1*kk,kk,bu env p.2)) λq=>Ob (q.all AV.dW=true)/\Y9 (chunk kk n q) λes=>k (dK env d (.aI E kk es)))
  |_=>none)
 |none,.build _ _ z a,some d=>(match hs with
  |[]=>some (qL (z.map .v) λc0=>Zh c0 (a.map λq=>(q.1,q.2.1,bu env q.2.2)) λq=>k (dK env d (.agg q)))
  |_=>none)
 |_,_,_=>none
theorem Xs {hs:List (VH P)}{l:aH}{k:Env->Prop}{p:Prop}(h:vbs hs l env k=some p)(j:p)(hk: ∀env,k env->aT P r N ls Q env H D):aT P r N (l::ls) Q env H D:=by
 obtain⟨dst,g,op⟩:=l;unfold vbs at h;split at h
 ·rename_i n ps E kk z d a b c;dsimp only at a b c;subst a b c;split at h
  ·simp only[ad]at h;subst h;obtain⟨q,e,⟨i⟩,f⟩:=El (pS j);exact aT.cons (aF.Ej e i (hk _ (Ah f)))
  ·simp only[ad]at h;subst h;obtain⟨q,e,⟨i⟩,f⟩:=El (pS j);exact aT.cons (aF.iB e i (hk _ (Ah f)))
  ·cases h
 ·rename_i z m d a b c;dsimp only at a b c;subst a b c;split at h
  ·simp only[ad]at h;subst h;obtain⟨q,e,f⟩:=El (pS j);exact aT.cons (aF.plain (by simp only[jJ];rw[e];rfl) rfl (hk _ f))
  ·cases h
 ·cases h
def Z0 (l:jM)(env:Env):Option Value:=match l with
 | .panic x=>match bu env x with
  | .v (.iface T y)=>some (.iface T y)
  |_=>none
 |_=>none
def nlV (P:Program)(l:jM)(env:Env):Option (List (List AV)×Bool):=match l with
 | .nI false T x (.const (.slice none 0 0))=>match bu env x with
  | .sl _ es=>some (es,sliceB P T)
  |_=>none
 |_=>none
theorem YV {c:Bool}(h:nlV P l env=some (es,c))(hc:c=true)(k: ∀b:Bool,(b=true->es=[])->K (ct env dst (B b)) H D):aF P r N l dst env H D K:=by
 unfold nlV at h;split at h
 ·rename_i T x;split at h
  ·rename_i kk a hx;simp only[ad,az]at h;obtain⟨rfl,rfl⟩:=h;unfold sliceB at hc;split at hc
   ·rename_i E d;exact aF.W7 d (by simpa using hc) hx rfl k
   ·cases hc
  ·cases h
 ·cases h
def qEs:List (Value×AV)->(List (Value×AV)->Prop)->Prop
 |[],k=>k []
 |x::l,k=>qEs l λl=>k (x::l)
theorem P3: ∀{l:List (Value×AV)} {k:List (Value×AV)->Prop},qEs l k->k l
 |[],_,h=>h
 |_::l,_,h=>P3 (l:=l) h
def mP:List (VH P)->Heap->Env->(List (VH P)->Heap->Env->Prop)->Prop
 | .sT t::hs,H,env,k=>(match env t with
  | .aI T kk es=>(es=[]->mP hs H (dK env t .nil) k)/\ ∀b cap,qH (H++[(b,.arr T kk cap es)]) λH=>mP hs H (dK env t (.so b es.length cap)) k
  | .dO T cs=> ∀b,qH (H++[(b,.cells T cs)]) λH=>mP hs H (dK env t (.po b 0)) k
  |_=>False)
 | .fT i t::hs,H,env,k=>(match H[i]?,env t with
  |some (b,.arr _ kk cap es),.so d n c=>Ob (d=b/\n=es.length/\c=cap)/\qH (H.eraseIdx i) λH=>mP hs H (dK env t (.sl kk es)) k
  |some (b,.cells _ cs),.po d o=>Ob (d=b/\o=0)/\qH (H.eraseIdx i) λH=>mP hs H (dK env t (.pi cs)) k
  |_,.nil=>mP hs H env k
  |_,_=>False)
 | .fA i j p::hs,H,env,k=>(match H[i]?,(H.eraseIdx i)[j]? with
  |some (b,.arr _ kk cap es),some (bo,.cells To cs)=>Ob (cs[p]? =some (.so b es.length cap))/\qH ((H.eraseIdx i).set j (bo,.cells To (cs.set p (.sl kk es)))) λH=>mP hs H env k
  |_,_=>False)
 | .wk i::hs,H,env,k=>qH (H.eraseIdx i) λH=>mP hs H env k
 | .fz t::hs,H,env,k=>mP hs H (fz1 env (.tmp t)) k
 | .uS i t::hs,H,env,k=>(match H[i]?,env t with
  |some (b,.arr T kk cap es),.so d n c=>Ob (d=b/\n=es.length/\c=cap)/\qH (H.eraseIdx i) λH=>mP hs H (dK env t (.aI T kk es)) k
  |_,_=>False)
 | .fM i j p::hs,H,env,k=>(match H[i]?,(H.eraseIdx i)[j]? with
  |some (b,.arr _ kk cap es),some (g,.map a)=>(match a[p]? with
   |some (key,q)=>Ob (q= .so b es.length cap)/\qEs (a.take p++(key,.sl kk es)::a.drop (p+1)) λa=>qH ((H.eraseIdx i).set j (g,.map a)) λH=>mP hs H env k
   |none=>False)
  |_,_=>False)
 | .sw::hs,H,env,k=>(match H with
  |x::y::H=>mP hs (y::x::H) env k
  |_=>False)
 | .fm i t::hs,H,env,k=>(match H[i]?,env t with
  |some (b,.map es),.mo d=>Ob (d=b)/\qH (H.eraseIdx i) λH=>mP hs H (dK env t (.mi es)) k
  |_,_=>mP hs H env k)
 |hs,H,env,k=>k hs H env
def vcp (i:Nat)(l:aH)(H:Heap)(env:Env)(k:Heap->Env->Prop):Prop:=match l.guard,l.op with
 |none,.copy _ _ _ x y _ kk=>(match bu env x,H[i]?,bu env y with
  | .so b n c,some (e,.arr f d cap es),.sl a ys=>Ob (e=b/\n=es.length/\c=cap/\d=kk/\a=kk/\ys.length=es.length)/\qH (H.set i (e,.arr f d cap ys)) λH=>k H (ct env l.dst (.v (.int .i64 es.length)))
  | .nil,_,.sl a ys=>Ob (a=kk/\ys=[])/\k H (ct env l.dst (.v (.int .i64 0)))
  |_,_,_=>False)
 |_,_=>False
def vmk (l:aH)(H:Heap)(env:Env)(k:Heap->Env->Prop):Prop:=match l.guard,l.op,l.dst with
 |none,.sU _,some d=> ∀b,k (H++[(b,.map [])]) (dK env d (.mo b))
 |_,_,_=>False
def Mz (P:Program)(K:Nat->List (VH P))(a:List PanicEntry->Heap->Env->Prop)(l:aH)(gs:List (Nat×Bool))(H:Heap)(env:Env)(k:List (Nat×Bool)->Heap->Env->Prop):Prop:=
 vg1 gs env (l.guard.map (·.1)) λgs=>vg1 gs env (SM l.op) λgs=>mP (K (um l)) H env λhs H env=>match vbs hs l env (k gs H)with
  |some p=>p
  |none=>match hs with
  |[]=>(match l.guard,Xn P l.op env with
   |none,some (p,c)=>Mn (c=true)/\k gs H (ct env l.dst p)
   |none,none=>(match Z0 l.op env with
    |some v=>a [{v:=v,recovered:=false}] H env
    |none=>(match nlV P l.op env with
     |some (es,c)=>Mn (c=true)/\ ∀b:Bool,(b=true->es=[])->k gs H (ct env l.dst (B b))
     |none=>Zd P [] gs l H env (k gs)))
   |_,_=>Zd P [] gs l H env (k gs))
  | .i h::hs=>Zd P (.i h::hs) gs l H env (k gs)
  | .sh::hs=>Zd P (.sh::hs) gs l H env (k gs)
  | .cp i::_=>vcp i l H env (k gs)
  | .mk::_=>vmk l H env (k gs)
  |h::_=>vgd gs env l (Y6 h) (k gs H (ct env l.dst (.v undef))) (Y7 h l H (Y8 env (xk l.op)) (k gs) a)
structure HC (W:Env->Heap->List Nat->Prop):Prop where
 lr: ∀{env env':Env} {H H':Heap} {D D':List Nat},bB env H D env' H' D'->W env' H' D'->W env H D
 share: ∀{env:Env} {H:Heap} {D:List Nat} {t T kk:Nat} {es:List (List AV)},env t= .aI T kk es->(es=[]->W (dK env t .nil) H D)->(∀b cap,W (dK env t (.so b es.length cap)) ((b,.arr T kk cap es)::H) D)->W env H D
 fY: ∀{env:Env} {H:Heap} {D:List Nat} {t T:Nat} {cs:List AV},env t= .dO T cs->(∀b,W (dK env t (.po b 0)) ((b,.cells T cs)::H) D)->W env H D
theorem HC.ops (ls:List aH):HC (aT P r N ls Q):=⟨aT.lr,aT.share,aT.fY⟩
theorem gG {W:Env->Heap->List Nat->Prop}(a:HC W){k:List (VH P)->Heap->Env->Prop}(hk: ∀hs H env,k hs H env->W env H D): ∀{hs:List (VH P)} {H:Heap} {env:Env},mP hs H env k->W env H D
 | .sT t::hs,H,env,h=>by
  simp only[mP]at h
  split at h
  ·rename_i T kk es he
   exact a.share he (λe=>gG a hk (h.1 e)) (λb cap=>a.lr (bB.perm (List.perm_append_comm (l₁:=[_]))) (gG a hk (iW (h.2 b cap))))
  ·rename_i T cs he
   exact a.fY he (λb=>a.lr (bB.perm (List.perm_append_comm (l₁:=[_]))) (gG a hk (iW (h b))))
  ·exact h.elim
 | .fT i t::hs,H,env,h=>by
  simp only[mP]at h
  split at h
  ·rename_i b T kk cap es m n c d he
   obtain⟨⟨rfl,rfl,rfl⟩,h⟩:=h
   exact a.lr (bB.tF t he d) (gG a hk (iW h))
  ·rename_i b T cs m o d he
   obtain⟨⟨rfl,rfl⟩,h⟩:=h
   exact a.lr (bB.iA t he d) (gG a hk (iW h))
  ·exact gG a hk h
  ·exact h.elim
 | .fA i j p::hs,H,env,h=>by
  simp only[mP]at h
  split at h
  ·rename_i b T kk cap es bo To cs d s
   obtain⟨⟨l⟩,h⟩:=h
   refine a.lr (bB.mF (cs.set p (.sl kk es)) d s ?_) (gG a hk (iW h))
   have key: ∀(cs:List AV) (p:Nat),cs[p]? =some (.so b es.length cap)->fN (O0 b es.length cap kk es) cs (cs.set p (.sl kk es)):=by
    intro cs
    induction cs with
    |nil=>intro p h;cases p<;>simp at h
    |cons c cs w=>
     have x: ∀cs:List AV,fN (O0 b es.length cap kk es) cs cs:=by
      intro cs
      induction cs with
      |nil=>trivial
      |cons c cs w=>exact⟨.inl rfl,w⟩
     intro p h
     cases p with
     |zero=>
      simp only[List.getElem?_cons_zero,Option.some.injEq]at h
      exact⟨.inr ⟨h,rfl⟩,x cs⟩
     |succ p=>exact⟨.inl rfl,w p (by simpa using h)⟩
   exact key cs p l
  ·exact h.elim
 | .wk i::hs,H,env,h=>by
  simp only[mP]at h
  exact a.lr (bB.I9 (List.eraseIdx_sublist H i)) (gG a hk (iW h))
 | .fz t::hs,H,env,h=>by
  simp only[mP]at h
  exact a.lr (Fk (.tmp t)) (gG a hk h)
 | .uS i t::hs,H,env,h=>by
  simp only[mP]at h
  split at h
  ·rename_i b T kk cap es m n c d he
   obtain⟨⟨rfl,rfl,rfl⟩,h⟩:=h
   exact a.lr (bB.jT he d) (gG a hk (iW h))
  ·exact h.elim
 | .fM i j p::hs,H,env,h=>by
  simp only[mP]at h
  split at h
  ·rename_i b T kk cap es g f d s
   split at h
   ·rename_i key q l
    obtain⟨⟨rfl⟩,h⟩:=h
    refine a.lr ?_ (gG a hk (iW (P3 h)))
    have v:=(List.getElem?_eq_some_iff.1 l).1
    have e:f=f.take p++(key,.so b es.length cap)::f.drop (p+1):=by
     conv=>lhs;rw[<-List.take_append_drop p f,List.drop_eq_getElem_cons v,(List.getElem?_eq_some_iff.1 l).2]
    exact bB.IT _ _ d s e
   ·exact h.elim
  ·exact h.elim
 | .sw::hs,H,env,h=>by
  simp only[mP]at h
  split at h
  ·exact a.lr (bB.perm (List.Perm.swap _ _ _)) (gG a hk h)
  ·exact h.elim
 | .fm i t::hs,H,env,h=>by
  simp only[mP]at h
  split at h
  ·rename_i b es m d he
   obtain⟨⟨rfl⟩,h⟩:=h
   exact a.lr (bB.JJ he d) (gG a hk (iW h))
  ·exact gG a hk h
 |[],_,_,h=>hk _ _ _ h
 | .i _::_,_,_,h=>hk _ _ _ h
 | .ev _::_,_,_,h=>hk _ _ _ h
 | .bo _::_,_,_,h=>hk _ _ _ h
 | .r _ _::_,_,_,h=>hk _ _ _ h
 | .u _ _::_,_,_,h=>hk _ _ _ h
 | .b _ _::_,_,_,h=>hk _ _ _ h
 | .g _ _ _::_,_,_,h=>hk _ _ _ h
 | .sh::_,_,_,h=>hk _ _ _ h
 | .cp _::_,_,_,h=>hk _ _ _ h
 | .b2 _ _::_,_,_,h=>hk _ _ _ h
 | .mk::_,_,_,h=>hk _ _ _ h
 | .ba _ _::_,_,_,h=>hk _ _ _ h
 | .up _ _::_,_,_,h=>hk _ _ _ h
theorem XH {l:aH}{k:Heap->Env->Prop}(h:vcp i l H env k)(hk: ∀H env,k H env->aT P r N ls Q env H D):aT P r N (l::ls) Q env H D:=by
 obtain⟨dst,g,op⟩:=l;unfold vcp at h;split at h
 ·rename_i T U o x y E kk hg d;dsimp only at hg d;subst hg d;split at h
  ·rename_i b n c m j f cap es a ys hx e hy;obtain⟨⟨rfl,rfl,rfl,rfl,rfl,hl⟩,h⟩:=h;exact aT.cons (aF.WL hx e hy hl (hk _ _ (iW h)))
  ·rename_i a ys hx hy;obtain⟨⟨rfl,rfl⟩,h⟩:=h;exact aT.cons (aF.ZF hx hy (hk _ _ h))
  ·exact h.elim
 ·exact h.elim
theorem X8 {l:aH}{k:Heap->Env->Prop}(h:vmk l H env k)(hk: ∀H env,k H env->aT P r N ls Q env H D):aT P r N (l::ls) Q env H D:=by
 obtain⟨dst,g,op⟩:=l;unfold vmk at h;split at h
 ·rename_i T d a c e;dsimp only at a c e;subst a c e;exact aT.cons (aF.sU λb=>aT.lr (bB.perm (an (l₁:=[_]))) (hk _ _ (h b)))
 ·exact h.elim
theorem Yk {hs:List (VH P)}{d:Option Nat}{k:Heap->Env->Prop}(h:vsh hs d k H env)(hk: ∀H env,k H env->aT P r N ls Q env H D):aT P r N ls Q env H D:=by
 unfold vsh at h;split at h
 ·split at h
  ·split at h
   ·rename_i d T cs he;exact aT.fY he (λb=>aT.lr (bB.perm (an (l₁:=[_]))) (hk _ _ (h b)))
   ·exact h.elim
  ·exact h.elim
 ·grind
theorem E7 {hs:List (VH P)}{l:aH}{k:Heap->Env->Prop}(h:Zd P hs gs l H env k)(hk: ∀H env,k H env->aT P r N ls Q env H D):aT P r N (l::ls) Q env H D:=by
 unfold Zd at h;split at h
 ·rename_i W H1 a b hx;obtain⟨o,h⟩:=Fv h;exact aT.sV (wh hx o) (Yk (Jp (Gd h)) hk)
 ·exact h.elim
theorem QG {h:VH P}{l:aH}{k:Heap->Env->Prop}{n:List PanicEntry->Heap->Env->Prop}{skip:Prop}
  (f:vgd gs env l (Y6 h) skip (Y7 h l H (Y8 env (xk l.op)) k n)) (hk: ∀H env,k H env->aT P r N ls Q env H D) (y: ∀ch H env,n ch H env->Q (.panic ch) env H D)
  (i:skip->aT P r N ls Q (ct env l.dst (.v undef)) H D):aT P r N (l::ls) Q env H D:=by
 obtain⟨dst,g,op⟩:=l
 unfold vgd at f
 dsimp only at f i
 cases g with
 |none=>
  obtain⟨j,_⟩:=ID (r:=r) (N:=N) (D:=D) f
  refine aT.Wl (mS.lr (zN (xk op)) ?_)
  intro o a1 s u C a w S L x hs next q A B
  refine j o a1 s u C a w S L x hs next q ?_ ?_
  ·grind
  ·grind
 |some z=>
  obtain⟨t,b⟩:=z
  dsimp only at f
  cases p:Y6 h with
  |true=>grind
  |false=>
   rw[p]at f
   simp only[cond_false]at f
   split at f
   ·rename_i e he
    split at f
    ·rename_i c _
     obtain⟨⟨rfl⟩,f⟩:=f
     have yes:e=b->Y7 h ⟨dst,some (t,b),op⟩ H (Y8 env (xk op)) k n->aT P r N (⟨dst,some (t,b),op⟩::ls) Q env H D:=by
      rintro rfl f
      obtain⟨_,j⟩:=ID (r:=r) (N:=N) (D:=D) f
      refine aT.yes he (aF.pre (zN (xk op)) ?_)
      exact aF.mono (j p) (by rintro e h d ⟨m,rfl⟩;exact hk _ _ m)
     cases e<;>cases b
     ·exact yes rfl f
     ·exact aT.no he zj (i f)
     ·exact aT.no he zj (i f)
     ·exact yes rfl f
    ·exact f.elim
   ·rename_i cs he
    exact aT.nop he (i f)
   ·exact f.elim
def kh {α:Type}:List (Nat×List α)->Nat->List α
 |[],_=>[]
 |(t,l)::ks,i=>bif bA i t then l else kh ks i
theorem Rt {K:Nat->List (VH P)}{m:List PanicEntry->Heap->Env->Prop}{k:List (Nat×Bool)->Heap->Env->Prop}{l:aH} 
  (hk: ∀gs H env,k gs H env->aT P r N ls Q env H D) (d: ∀ch H env,m ch H env->Q (.panic ch) env H D) (f:Mz P K m l gs H env k):aT P r N (l::ls) Q env H D:=by
 unfold Mz at f
 obtain⟨n,i⟩:=Rp f
 obtain⟨o,j⟩:=Rp i
 clear f i
 refine gG (HC.ops _) (λhs H env h=>?_) j
 clear j
 split at h
 ·rename_i p g
  exact Xs g h (λenv h=>hk _ _ _ h)
 split at h
 ·split at h
  ·rename_i p c hg g
   have e:l=⟨l.dst,none,l.op⟩:=by cases l;cases hg;rfl
   rw[e]
   exact aT.cons (AR g h.1.h (hk _ _ _ h.2))
  ·rename_i hg _
   split at h
   ·rename_i v a
    have e:l=⟨l.dst,none,l.op⟩:=by cases l;cases hg;rfl
    rw[e]
    unfold Z0 at a
    split at a
    ·rename_i x hl
     split at a
     ·rename_i T y hx
      cases a
      rw[hl]
      exact aT.Wl (mS.panic hx (d _ _ _ h))
     ·cases a
    ·cases a
   ·split at h
    ·rename_i es c s
     have e:l=⟨l.dst,none,l.op⟩:=by cases l;cases hg;rfl
     rw[e]
     exact aT.cons (YV s h.1.h (λb q=>hk _ _ _ (h.2 b q)))
    ·exact E7 h (λH env h=>hk _ _ _ h)
  ·exact E7 h (λH env h=>hk _ _ _ h)
 ·exact E7 h (λH env h=>hk _ _ _ h)
 ·exact E7 h (λH env h=>hk _ _ _ h)
 ·exact XH h (λH env h=>hk _ _ _ h)
 ·exact X8 h (λH env h=>hk _ _ _ h)
 ·exact QG h (λH env h=>hk _ _ _ h) d (λh=>hk _ _ _ h)
end
end Go.Px
