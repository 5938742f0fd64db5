/- Part 10 of the proof of a statement of this seat (a logic of pure contracts; the functions; their contracts). No conditions. -/
import Derived.Test.YtjjmmbcmdheooaaGreatDoorA9
import Derived.RecoverIn
import Derived.Test.YtjjmmbcmdheooaaGreatDoorProg
open And renaming intro->dn
open Array renaming replicate->az,getD_eq_getD_getElem?->be,getElem?_append_left->bi
open Bool renaming and_eq_true->ap,not_eq_true'->bx
open Go.Deferred renaming ofValue->ds
open Go.Fence renaming wide->bk
open Go.Proofs.Tryz renaming prog->bI
open List renaming map_append->ad,nodup_append->an,mem_append->bn,mem_singleton->bt,drop_drop->cc,mem_map->cr,range->dk
open List.Sublist renaming refl->dl
open List.range renaming loop->cb
open Nat renaming eq_of_beq_eq_true->bs,beq->bA,beq_refl->de
open Option renaming bind_eq_some_iff->bm
set_option maxRecDepth 100000
set_option maxHeartbeats 8000000
namespace Go.Px
variable {N d i j n t:Nat}{p q res:AV}{rs:List ResultVar}{H H' Hin:Heap}{ls:List aH}{env env':Env}{f:FuncId}{D:List Nat}{r:Option Nat}{P:Program}{lc:bN}{args:List AV}{gs:List (Nat×Bool)}
def Pg {P:Program}:List (VH P)->Prop->Prop
 |[],g=>g
 | .ev (f:=f) (args:=a) (res:=res) _::hs,g=>Ev P f a res->Pg hs g
 | .bo (f:=f) (args:=a) (res:=res) _::hs,g=>Ev P f a res->Pg hs g
 |_::hs,g=>Pg hs g
theorem dU : ∀{hs:List (VH P)} {g:Prop},Pg hs g->g
 |[],_,h=>h
 | .ev a::_,_,h=>dU (h a)
 | .bo a::_,_,h=>dU (h a)
 | .i _::hs,_,h=>dU (hs:=hs) h
 | .r _ _::hs,_,h=>dU (hs:=hs) h
 | .u _ _::hs,_,h=>dU (hs:=hs) h
 | .b _ _::hs,_,h=>dU (hs:=hs) h
 | .g _ _ _::hs,_,h=>dU (hs:=hs) h
 | .sh::hs,_,h=>dU (hs:=hs) h
 | .sT _::hs,_,h=>dU (hs:=hs) h
 | .fT _ _::hs,_,h=>dU (hs:=hs) h
 | .fA _ _ _::hs,_,h=>dU (hs:=hs) h
 | .wk _::hs,_,h=>dU (hs:=hs) h
 | .cp _::hs,_,h=>dU (hs:=hs) h
 | .fz _::hs,_,h=>dU (hs:=hs) h
 | .b2 _ _::hs,_,h=>dU (hs:=hs) h
 | .mk::hs,_,h=>dU (hs:=hs) h
 | .uS _ _::hs,_,h=>dU (hs:=hs) h
 | .fM _ _ _::hs,_,h=>dU (hs:=hs) h
 | .up _ _::hs,_,h=>dU (hs:=hs) h
 | .sw::hs,_,h=>dU (hs:=hs) h
 | .ba _ _::hs,_,h=>dU (hs:=hs) h
 | .fm _ _::hs,_,h=>dU (hs:=hs) h
def Kv {P:Program}(K:Nat->List (VH P)):List (aH×List Nat)->List (VH P)
 |[]=>[]
 |(l,_)::ls=>K (um l)++Kv K ls
def ZJ {P:Program}:List (VH P)->Bool
 | .r _ _::_=>true
 | .u _ _::_=>true
 | .b _ _::_=>true
 | .b2 _ _::_=>true
 | .ba _ _::_=>true
 | .uS _ _::_=>true
 | .sT _::_=>true
 | .up _ _::_=>true
 | .i (.gI _)::_=>true
 | .i (.stE _ _ _ _)::_=>true
 |_=>false
def CB {P:Program}(K:Nat->List (VH P))(l:aH):Bool:=match l.op with
 | .store _ _ _ _=>true
 | .iI _ _ _ _ _ _=>true
 |_=>ZJ (K (um l))
def fzR (ls:List (aH×List Nat))(env:Env):Env:=match ls with
 |[]=>env
 |(l,_)::ls=>fzR ls (Y8 env (xk l.op))
def Zx {P:Program}(G:List (VH P))(env:Env):Env:=match G with
 |[]=>env
 | .fz t::G=>Zx G (fz1 env (.tmp t))
 |_::G=>Zx G env
def vgs {P:Program}(G:List (VH P))(gs:List (Nat×Bool))(k:List (Nat×Bool)->Prop):Prop:=match G with
 |[]=>k gs
 | .g t e b::G=>(e=b->vgs G ((t,b)::gs) k)/\(e= !b->k ((t,!b)::gs))
 |_::G=>vgs G gs k
structure LH (P:Program) where
 n:Nat
 E:Nat->List (Nat×AV)
 I:Nat->Prop:=λ_=>True
 H:Nat->Heap:=λ_=>[]
 K:Nat->List (Nat×List (VH P)):=λ_=>[]
def lh {P:Program}:List (Nat×LH P)->Nat->Option (LH P)
 |[],_=>none
 |(t,l)::ks,i=>bif bA i t then some l else lh ks i
def ov {α:Type}(a b:Nat->List α):Nat->List α:=λi=>match a i with
 |[]=>b i
 |l=>l
abbrev nx {α:Type}[Inhabited α](l:List α)(j:Nat):α:=l.getD j default
theorem wu {α β:Type}[Inhabited α]{f:α->β}{l:List α}(h:j<l.length):(l.map f)[j]? =some (f (nx l j)):=by simp [nx,h]
theorem ZR {α β:Type}[Inhabited α]{f:α->β}{l:List α}(h:j<l.length):(l.take (j+1)).map f=(l.take j).map f++[f (nx l j)]:=by rw[List.take_add_one,ad];simp [nx,h]
theorem BW {α β:Type}{f:α->β}{l:List α}(h: ¬j<l.length):(l.take j).map f=l.map f:=by rw[List.take_of_length_le zz]
theorem fE {α:Type}[Inhabited α]{l:List α}(h:j<l.length):nx l j∈l:=by simp [nx,h]
theorem mX {α:Type}[Inhabited α]{l:List α}(h:j<l.length):l[j]? =some (nx l j):=by simp [nx,h]
theorem pf (p:Prop)(h:p:=by(repeat' (with_reducible apply And.intro))<;>(first|exact True.intro|(with_reducible rfl)|(with_reducible assumption)|omega|rfl|assumption|exact ez.refl _|exact ez.nil _|exact lB.refl _|exact oL.refl _|exact List.Sublist.refl _|exact(List.nil_sublist _).cons_cons _|exact lB.po (i:=0) rfl|(with_reducible exact(ZR zz).symm)|(with_reducible exact wu zz)|(with_reducible exact BW zz)|((fail_if_success (intro _));(fail_if_success (apply And.intro));first|(simp_all;done)|(simp_all;omega))|decide)):p:=h
def UX (p q:AV):Prop:=match q with
 | .aI T k es=>(match p with
  | .nil=>Ob (es=[])
  | .aI d c a=>Ob (d=T/\c=k/\a=es)
  |_=>False)
 | .sl k es=>(match p with
  | .nil=>Ob (es=[])
  | .aI _ c a=>Ob (c=k/\a=es)
  | .sl c a=>Ob (c=k/\a=es)
  |p=>Ob (p= .sl k es))
 | .v (.int k n)=>(match p with
  | .v (.int c f)=>Ob (c=k/\f=n)
  |p=>Ob (p= .v (.int k n)))
 | .v (.bool b)=>(match p with
  | .v (.bool e)=>Ob (e=b)
  |p=>Ob (p= .v (.bool b)))
 |q=>Ob (p=q)
def cz (env:Env):List (Nat×AV)->Env
 |[]=>env
 |(t,p)::l=>dK (cz env l) t p
def Y4 (env:Env):List (Nat×AV)->Prop
 |[]=>True
 |(t,p)::l=>UX (cz env l t) p/\Y4 env l
def IH (id:Nat)(Q:cI):cI:=λe env H D=>match e with
 | .exit a=>bif bA a id then Q .normal env H D else Q (.exit a) env H D
 |e=>Q e env H D
section
variable (P:Program) (r:Option Nat) (N:Nat)
structure VO (K:Nat->List (VH P))(ls:List aH)(gs:List (Nat×Bool))(Q:cI)(H:Heap)(env:Env)(D:List Nat):Prop where
 h:aT P r N ls Q env H D
structure VW (L:Nat->Option (LH P))(c:bN)(K:Nat->List (VH P))(i:Nat)(Q:cI)(H:Heap)(env:Env)(D:List Nat):Prop where
 h:aJ P r N c Q env H D
structure VD (K:Nat->List (VH P))(gs:List (Nat×Bool))(H:Heap)(D:List Nat)(ls:List (aH×List Nat))(env:Env)(acc:List (List Nat×List Nat))(k:Env->List (List Nat×List Nat)->Prop):Prop where
 h: ∃env' infos,vE P r N H D env ls infos [] env'/\k env' (acc.reverse++infos)
structure VS (K:Nat->List (VH P))(gs:List (Nat×Bool))(ops rest:List (aH×List Nat))(j:Nat)(Q:cI)(H:Heap)(env:Env)(D:List Nat):Prop where
 h:ops.drop j=rest->gp P r N ops j Q env H D
end
def X5 (P:Program)(K:Nat->List (VH P))(gs:List (Nat×Bool))(l:aH)(H:Heap)(env:Env)(k:Env->List Nat×List Nat->Prop):Prop:=match MX l (JD (K (um l)) l.op env)with
 |(f,a)=>match Ga P gs H a l (only f env)with
  |some (W,_,b)=>bif Cq (bT W) f then Zq b (qW l.op W λW=>k (dG env W) (f,bT W))else CO (um l)
  |none=>CO (um l)
def spl {P:Program}(K:Nat->List (VH P)):List (aH×List Nat)->(List (aH×List Nat)->List (aH×List Nat)->Prop)->Prop
 |[],k=>k [] []
 |(l,c)::ls,k=>bif CB K l then k [] ((l,c)::ls)else spl K ls λa b=>k ((l,c)::a) b
def vup (P:Program)(i:Nat)(o:Option Nat)(l:aH)(H:Heap)(env:Env)(k:Heap->Env->Prop):Prop:=match l.op with
 | .iI _ x y z a _=>(match bu env x,H[i]?,valOf (bu env y)with
  | .mo c,some (b,.map es),some kv=>(match o with
   |none=>Ob (c=b/\(∃ks,gO P a ks/\ks kv/\ ∀e∈es,ks e.1)/\(∀e∈es,e.1≠kv)/\(bu env z).bC=false)/\k (H.set i (b,.map (es++[(kv,bu env z)]))) (ct env l.dst .any)
   |some j=>Ob (c=b/\(∃ks,gO P a ks/\ks kv/\ ∀e∈es,ks e.1)/\(∃q,es[j]? =some (kv,q))/\(bu env z).bC=false)/\k (H.set i (b,.map (es.set j (kv,bu env z)))) (ct env l.dst .any))
  |_,_,_=>False)
 |_=>False
theorem XQ {o:Option Nat}{l:aH}{k:Heap->Env->Prop}(h:vup P i o l H env k):aF P r N l.op l.dst env H D (λe h d=>k h e/\d=D):=by
 obtain⟨dst,g,op⟩:=l;unfold vup at h;split at h
 ·rename_i T x y z s E m;subst m;split at h
  ·rename_i t b es kv hx n hy;split at h
   ·obtain⟨⟨rfl,⟨ks,a,c,f⟩,h4,j⟩,h⟩:=h;exact aF.iI a hx n hy c f (.none h4) rfl j ⟨h,rfl⟩
   ·obtain⟨⟨rfl,⟨ks,a,c,f⟩,⟨q,p⟩,j⟩,h⟩:=h;exact aF.iI a hx n hy c f (.some p) rfl j ⟨h,rfl⟩
  ·exact h.elim
 ·exact h.elim
theorem gp.Qz (P:Program)(r:Option Nat)(N:Nat)(ops:List (aH×List Nat))(j:Nat)(Q:cI):HC (gp P r N ops j Q) where
 lr h k:=λarr ls d e C a w S L g hs c listed f hl i=>by
  obtain⟨p,o,s,m⟩:=h C a w S L hs
  exact k arr ls d e C a w p o g m c listed f hl i
 share n q l:=λarr ls d e C a w S L g hs c listed f hl i=>by
  rcases hs.share n with⟨he,h⟩|⟨b,cap,h⟩
  ·exact q he arr ls d e C a w S _ g h c listed f hl i
  ·exact l b cap arr ls d e C a w S _ g h c listed f hl i
 fY n l:=λarr ls d e C a w S L g hs c listed f hl i=>by
  obtain⟨b,h⟩:=hs.fY n
  exact l b arr ls d e C a w S _ g h c listed f hl i
def ZL (P:Program)(r:Option Nat)(N:Nat)(K:Nat->List (VH P))(gs:List (Nat×Bool))(ops rest:List (aH×List Nat))(j:Nat)(Q:cI)(H:Heap)(env:Env)(D:List Nat):Prop:=match rest with
 |[]=>Mn ((ko 0 (ops.map (·.2))&&Nat.ble ops.length j)=true)/\Q .normal env H D
 |(l,e)::rest=>bif CB K l then(match l.guard with
    |none=>Mn ((ko 0 (ops.map (·.2))&&Qu (mU [] (ops.map (·.2))) j ops.length)=true)/\mP (K (um l)) H env λhs H env=>(match hs with
     |[]=>(match CR P gs H (Zv l.op env) l env with
      |some (W,H1,_,d)=>Zq d (qW l.op W λW=>ZN l.op H1 λH1=>VS P r N K gs ops rest (j+1) Q H1 (dG env W) D)
      |none=>CO (um l))
     | .i h::hs=>(match CR P gs H (tV (P:=P) (.i h::hs)) l env with
      |some (W,H1,_,d)=>Zq d (qW l.op W λW=>ZN l.op H1 λH1=>VS P r N K gs ops rest (j+1) Q H1 (dG env W) D)
      |none=>CO (um l))
     | .up i o::_=>vup P i o l H env (λH env=>VS P r N K gs ops rest (j+1) Q H env D)
     |h::_=>Y7 h l H env (λH env=>VS P r N K gs ops rest (j+1) Q H env D) (λch H env=>Q (.panic ch) env H D))
    |some _=>CO (um l))
  else spl K ((l,e)::rest) λa b=>Pg (Kv K a) (VD P r N K gs H D a env [] λenv' c=>
   Mn ((ko 0 (ops.map (·.2))&&(Sf (mU [] (ops.map (·.2))) (j+c.length) ops.length&&B4 (mU [] (ops.map (·.2))) j c)&&bA c.length a.length)=true)/\VS P r N K gs ops b (j+c.length) Q H env' D)
def vdr (P:Program)(r:Option Nat)(N:Nat)(K:Nat->List (VH P))(ops:List (aH×List Nat))(Q:cI)(H:Heap)(env:Env)(D:List Nat):Prop:=match ops with
 |[]=>Q .normal env H D
 |(l,a)::ls=>vgs (K (70000+um l)) [] λgs=>bif ((l,a)::ls).any (λx=>CB K x.1)then VS P r N K gs ((l,a)::ls) ((l,a)::ls) 0 Q H (Zx (K (70000+um l)) (fzR ((l,a)::ls) env)) D
  else Pg (Kv K ((l,a)::ls)) (VD P r N K gs H D ((l,a)::ls) (Zx (K (70000+um l)) (fzR ((l,a)::ls) env)) [] λenv' b=>Mn (mY (((l,a)::ls).map (·.2)) b=true)/\Q .normal env' H D)
def Ye (P:Program)(r:Option Nat)(N:Nat)(L:Nat->Option (LH P))(c:Operand)(a b:bN)(K:Nat->List (VH P))(i:Nat)(Q:cI)(H:Heap)(env:Env)(D:List Nat):Prop:=match bu env c with
 | .v (.bool e)=>(e=true->VW P r N L a K i Q H env D)/\(e=false->VW P r N L b K i Q H env D)
 |_=>False
def Ry (P:Program)(r:Option Nat)(N:Nat)(L:Nat->Option (LH P))(a:bN)(K:Nat->List (VH P))(i:Nat)(Q:cI)(H:Heap)(env:Env)(D:List Nat):Prop:=match L i with
 |some h=>Ob (h.I 0)/\Ob (H=h.H 0)/\Y4 env (h.E 0)/\ ∀j,j<=h.n->h.I j->
  VW P r N L a (ov (kh (h.K j)) K) i (jG (λenv' H' b=>Ob (b=D)/\Ob (j<h.n)/\Ob (h.I (j+1))/\Ob (H'=h.H (j+1))/\Y4 env' (h.E (j+1))) Q) (h.H j) (el (h.E j)) D
 |none=>Ob (aJ P r N (.loop a) Q env H D)
section
variable {Q:cI}{K:Nat->List (VH P)}{kx:List PanicEntry->Heap->Env->Prop}{k:Heap->Env->Prop}
theorem LY: ∀(ls:List (aH×List Nat)) {env:Env},bB env H D (fzR ls env) H D
 |[],_=>bB.refl _ _ _
 |(l,_)::ls,_=>(zN _).trans (LY ls)
theorem Et: ∀(G:List (VH P)) {env:Env},bB env H D (Zx G env) H D
 |[],_=>bB.refl _ _ _
 |g::G,_=>by cases g with
  |fz t=>exact(Fk (.tmp t)).trans (Et G)
  |_=>exact Et G
theorem XK {G:List (VH P)}{k:List (Nat×Bool)->Prop}: ∀{gs:List (Nat×Bool)},vgs G gs k-> ∃a,k a:=by
 induction G with
 |nil=>exact λh=>⟨_,h⟩
 |cons g G c=>
  intro gs h;cases g with
  |g t e b=>
   by_cases he:e=b
   ·exact c (h.1 he)
   ·exact⟨_,h.2 (by cases e<;>cases b<;>simp_all)⟩
  |_=>exact c h
theorem VO.nil (h:Q .normal env H D):VO P r N K [] gs Q H env D:=⟨aT.nil h⟩
theorem VO.cons {l:aH}(h:Mz P K (λch H env=>Q (.panic ch) env H D) l gs H env (λgs H env=>VO P r N K ls gs Q H env D)):VO P r N K (l::ls) gs Q H env D:=
 ⟨Rt (λ_ _ _ h=>h.h) (λ_ _ _ h=>h) h⟩
theorem VD.nil {acc:List (List Nat×List Nat)}{k:Env->List (List Nat×List Nat)->Prop}(h:k env acc.reverse):VD P r N K gs H D [] env acc k:=⟨env,[],vE.nil,zx⟩
theorem VD.cons {acc:List (List Nat×List Nat)}{k:Env->List (List Nat×List Nat)->Prop}{l:aH}{m:List Nat}{ls:List (aH×List Nat)}
  (h:X5 P K gs l H env (λenv x=>VD P r N K gs H D ls env (x::acc) k)):VD P r N K gs H D ((l,m)::ls) env acc k:=by
 unfold X5 at h
 obtain⟨⟨f,e⟩,d⟩: ∃q,MX l (JD (K (um l)) l.op env)=q:=⟨_,rfl⟩
 rw[d]at h
 simp only at h
 split at h
 ·rename_i W g j hx
  cases a:Cq (bT W) f with
  |false=>rw[a]at h;exact h.elim
  |true=>
   rw[a]at h
   obtain⟨i,h⟩:=Fv h
   obtain⟨env',is,hd,hk⟩:=(Gd h).h
   obtain⟨c,b⟩:=vZ (r:=r) (N:=N) (D:=D) hx i
   exact⟨env',_,vE.cons f c a b hd,by rw[List.reverse_cons,List.append_assoc]at hk;exact hk⟩
 ·exact h.elim
theorem Pr: ∀{ls:List (aH×List Nat)} {k:List (aH×List Nat)->List (aH×List Nat)->Prop},spl K ls k-> ∃a b,ls=a++b/\k a b
 |[],_,h=>⟨[],[],rfl,h⟩
 |(l,c)::ls,k,h=>by
  simp only[spl]at h
  cases hl:CB K l with
  |true=>rw[hl]at h;exact⟨[],_,rfl,h⟩
  |false=>
   rw[hl]at h
   obtain⟨a,b,e,h⟩:=Pr (ls:=ls) h
   exact⟨_,b,by rw[e];rfl,h⟩
theorem Tg {α:Type}{l a b:List α}(h:l.drop j=a++b):(l.drop j).take a.length=a/\l.drop (j+a.length)=b:=by rw[<-cc,h];simp
theorem VS.step {ops rest:List (aH×List Nat)}(h:ZL P r N K gs ops rest j Q H env D):VS P r N K gs ops rest j Q H env D:=by
 unfold ZL at h;split at h
 ·exact⟨λ_=>gp.end h.1.h h.2⟩
 ·rename_i l U rest;cases hl:CB K l with
  |true=>
   rw[hl]at h;obtain⟨dst,g,op⟩:=l;cases g with
   |some _=>exact h.elim
   |none=>
    obtain⟨⟨i⟩,h⟩:=h;simp only[ap]at i;refine⟨λf=>?_⟩;have s:ops.drop (j+1)=rest:=by rw[<-cc,f];rfl
    refine gG (gp.Qz P r N ops j Q) (λhs H env h=>?_) h;split at h
    ·split at h
     ·rename_i W H1 _ T hx;obtain⟨o,h⟩:=Fv h;have B:=wh (r:=r) (N:=N) (D:=D) hx o;exact gp.op f i.1 i.2 (aF.mono B (by rintro e F d ⟨m,v,x⟩;rw[m,v,x];exact(Jp (Gd h)).h s))
     ·exact h.elim
    ·split at h
     ·rename_i W H1 _ T hx;obtain⟨o,h⟩:=Fv h;have B:=wh (r:=r) (N:=N) (D:=D) hx o;exact gp.op f i.1 i.2 (aF.mono B (by rintro e F d ⟨m,v,x⟩;rw[m,v,x];exact(Jp (Gd h)).h s))
     ·exact h.elim
    ·exact gp.op f i.1 i.2 (aF.mono (XQ h) (by rintro e F d ⟨k,rfl⟩;exact k.h s))
    ·obtain⟨O,_⟩:=ID (r:=r) (N:=N) (D:=D) h;refine gp.opX f i.1 i.2 ?_;intro o a1 I J C a w S L M hs next G A R
     refine O o a1 I J C a w S L M hs next G ?_ ?_
     ·rintro e H d y w' u t ⟨k,m⟩ n q;exact A e H d y w' u t (by rw[m];exact k.h s) n q
     ·rintro c e H d w' u t ⟨k,m⟩ n;exact R c e H d w' u t (by rw[m];exact k) n
  |false=>rw[hl]at h;refine⟨λf=>?_⟩;obtain⟨a,b,e,h⟩:=Pr h;rw[e]at f;obtain⟨env',E,hd,⟨i⟩,h⟩:=(dU h).h;simp only[ap]at i;have z:=bs i.2;have p:=Tg f;exact gp.chain p.1 hd i.1.1 i.1.2.1 i.1.2.2 (h.h (by rw[z];exact p.2))
variable {L:Nat->Option (LH P)}
theorem VW.iP (hm:P.follows .mixedOrders=true){ops:List (aH×List Nat)}(h:vdr P r N K ops Q H env D):VW P r N L (.iP ops) K i Q H env D:=by
 unfold vdr at h;split at h
 ·exact⟨aJ.HN hm (gp.end rfl h)⟩
 ·rename_i l b ls;obtain⟨gs,h⟩:=XK h;refine⟨aJ.lr ((LY ((l,b)::ls)).trans (Et (K (70000+um l)))) ?_⟩;cases hl:((l,b)::ls).any (λx=>CB K x.1)with
  |true=>rw[hl]at h;exact aJ.HN hm (h.h rfl)
  |false=>rw[hl]at h;obtain⟨env',a,hd,⟨c⟩,h⟩:=(dU h).h;exact aJ.iP hm hd c (aT.nil h)
theorem bB.of_eq (h:env=env'):bB env H D env' H D:=h▸bB.refl _ _ _
theorem sQ (h:env t=p):dK env t p=env:=by
 funext i;by_cases e:i=t
 ·subst e;rw[bw,h]
 ·rw[eB _ _ e]
theorem Ms (h:UX (env t) q):bB env H D (dK env t q) H D:=by
 generalize a:env t=p at h;unfold UX at h;split at h
 ·rename_i T k es;split at h
  ·obtain⟨rfl⟩:=h;exact bB.ln T k a
  ·obtain⟨rfl,rfl,rfl⟩:=h;exact bB.of_eq (sQ a).symm
  ·exact h.elim
 ·rename_i k es;split at h
  ·obtain⟨rfl⟩:=h;exact bB.jD k a
  ·obtain⟨rfl,rfl⟩:=h;exact bB.ga a
  ·obtain⟨rfl,rfl⟩:=h;exact bB.of_eq (sQ a).symm
  ·obtain⟨rfl⟩:=h;exact bB.of_eq (sQ a).symm
 ·split at h
  ·obtain⟨rfl,rfl⟩:=h;exact bB.of_eq (sQ a).symm
  ·obtain⟨rfl⟩:=h;exact bB.of_eq (sQ a).symm
 ·split at h
  ·obtain⟨rfl⟩:=h;exact bB.of_eq (sQ a).symm
  ·obtain⟨rfl⟩:=h;exact bB.of_eq (sQ a).symm
 ·obtain⟨rfl⟩:=h;exact bB.of_eq (sQ a).symm
theorem KV: ∀{l:List (Nat×AV)},Y4 env l->bB env H D (cz env l) H D
 |[],_=>bB.refl _ _ _
 |(_,_)::_,h=>(KV h.2).trans (Ms h.1)
theorem WA: ∀{l:List (Nat×AV)} (t:Nat),el l t= .any\/el l t=cz env l t
 |[],t=>.inl rfl
 |(u,p)::l,t=>by
  simp only[el,cz,dK]
  cases bA t u with
  |true=>exact .inr rfl
  |false=>exact WA t
theorem Me {l:List (Nat×AV)}(h:Y4 env l):bB env H D (el l) H D:=(KV h).trans (bB.Ki WA)
theorem VW.skip (h:Q .normal env H D):VW P r N L .skip K i Q H env D:=⟨aJ.skip h⟩
theorem VW.label (h:Q .normal env H D):VW P r N L (.label n) K i Q H env D:=⟨aJ.label h⟩
theorem VW.ops {l:List aH}(h:VO P r N K l [] Q H env D):VW P r N L (.ops l) K i Q H env D:=⟨aJ.ops h.h⟩
theorem VW.seq {a b:bN}(h:VW P r N L a K i (jG (λenv H D=>VW P r N L b K i Q H env D) Q) H env D):VW P r N L (.seq a b) K i Q H env D:=⟨aJ.seq (aJ.mono h.h (by
 intro e env H D c
 cases e with
 |normal=>exact c.h
 |_=>exact c))⟩
theorem VW.ite {c:Operand}{a b:bN}(h:Ye P r N L c a b K i Q H env D):VW P r N L (.ite c a b) K i Q H env D:=by
 unfold Ye at h;split at h
 ·rename_i e he;exact⟨aJ.ite he (λx=>(h.1 x).h) (λx=>(h.2 x).h)⟩
 ·exact h.elim
theorem VW.block {id:Nat}{a:bN}(h:VW P r N L a K id (IH id Q) H env D):VW P r N L (.block id a) K i Q H env D:=⟨aJ.block (aJ.mono h.h (by
 intro e env H D b
 cases e with
 |exit d=>
  simp only[IH]at b
  simp only[pI]
  cases c:bA d id with
  |true=>rw[c]at b;rw[if_pos (bs c)];exact b
  |false=>rw[c]at b;rw[if_neg (λe=>by subst e;rw[de]at c;cases c)];exact b
 |_=>exact b))⟩
theorem VW.exit {id:Nat}(h:Q (.exit id) env H D):VW P r N L (.exit id) K i Q H env D:=⟨aJ.exit h⟩
theorem VW.ret (h:Q .ret env H D):VW P r N L .ret K i Q H env D:=⟨aJ.ret h⟩
theorem VW.scope {a:bN}(h:VW P r N L a K i (J5 Q) H env D):VW P r N L (.scope a) K i Q H env D:=⟨aJ.scope h.h⟩
theorem VW.loop {a:bN}(h:Ry P r N L a K i Q H env D):VW P r N L (.loop a) K i Q H env D:=by
 unfold Ry at h;split at h
 ·rename_i x _;obtain⟨⟨g⟩,⟨rfl⟩,k,h4⟩:=h;refine⟨aJ.PX (X:=Nat) (λj=>j<=x.n/\x.I j) (λj=>el (x.E j)) x.H (λ_=>D) (λj=>x.n-j) 0 ⟨Nat.zero_le _,g⟩ (Me k) (λj b=>aJ.mono (h4 j b.1 b.2).h ?_)⟩;intro e env' H' l c;cases e with
  |normal=>obtain⟨⟨rfl⟩,⟨d⟩,⟨b2⟩,⟨rfl⟩,f⟩:=c;exact⟨j+1,⟨d,b2⟩,zz,Me f⟩
  |_=>exact c
 ·exact⟨h.h⟩
theorem Q1.of {l:jM}(h: ∀a:Env->Heap->List Nat->Prop,a (dK env d p) H D->aF P r N l (some d) env H D a):Q1 P r N l (some d) env H D [(d,p)]:=h _ ⟨rfl,rfl,rfl⟩
def JN:List ResultVar->List AV->Option (List (Nat×AV))
 |[],[]=>some []
 | .tmp t::rs,p::ps=>match JN rs ps with
  |some l=>some ((t,p)::l)
  |none=>none
 |_,_=>none
def ER (l:List (Nat×AV)):Bool:=match l with
 |[]=>true
 |(t,_)::l=> !(l.any λx=>bA x.1 t)&&ER l
def Om (P:Program)(env:Env)(H:Heap)(rs:List ResultVar)(res:AV):Prop:=match rs,res with
 |[.tmp t],q=>UX (env t) q
 |rs,.bZ ps=>(match JN rs ps with
  |some l=>Mn (ER l=true)/\Ob (rs.length≠1)/\Ob (mI ps=true)/\Y4 env l
  |none=>Ob (kW P env H rs (.bZ ps)))
 |rs,q=>Ob (kW P env H rs q)
theorem K4: ∀{rs:List ResultVar} {ps:List AV} {l:List (Nat×AV)} {e:Env},JN rs ps=some l->(∀t p,(t,p)∈l->e t=p)->mI ps=true->fN (ja P e H) rs ps
 |[],[],_,_,_,_,_=>trivial
 | .tmp t::rs,p::ps,l,e,h,b,a=>by
  simp only[JN]at h
  split at h
  ·rename_i c hl
   cases h
   simp only[mI,List.all_cons,ap,bx]at a
   exact⟨.tmp (b t p zj) a.1,K4 hl (λt p hm=>b t p (by simp [hm])) a.2⟩
  ·cases h
 | .cell _ _::_,_,_,_,h,_,_=>by simp [JN]at h
 |[],_::_,_,_,h,_,_=>by simp [JN]at h
 | .tmp _::_,[],_,_,h,_,_=>by simp [JN]at h
theorem DV: ∀{l:List (Nat×AV)},ER l=true-> ∀t p,(t,p)∈l->cz env l t=p
 |[],_,_,_,h=>by cases h
 |(u,q)::l,a,t,p,h=>by
  simp only[ER,Bool.and_eq_true,Bool.not_eq_true',List.any_eq_false]at a
  simp only[cz]
  rcases List.mem_cons.1 h with h2|h2
  ·cases h2;exact bw _ _ _
  ·rw[eB _ _ (λe=>by have:=a.1 _ h2;rw[e,Nat.beq_refl]at this;simp at this)]
   exact DV a.2 t p h2
theorem zK (h:Om P env H rs res): ∃env',bB env H D env' H D/\kW P env' H rs res:=by
 unfold Om at h;split at h
 ·refine⟨_,Ms h,?_⟩;cases hl:res.bC with
  |true=>exact .aI (bw _ _ _) hl
  |false=>exact .one (.tmp (bw _ _ _) hl)
 ·split at h
  ·rename_i l d;obtain⟨⟨a⟩,⟨b⟩,⟨c⟩,h4⟩:=h;exact⟨_,KV h4,.many b (K4 d (DV a) c)⟩
  ·exact⟨env,bB.refl _ _ _,h.h⟩
 ·exact⟨env,bB.refl _ _ _,h.h⟩
def HV (P:Program)(rs:List ResultVar)(res:AV):cI:=λe env H D=>match e with
 | .normal| .ret=>(match D with
  |[]=>Om P env H rs res
  |D=>Ob (∃H',uV H D H'/\kW P env H' rs res))
 |_=>False
def Lh (P:Program)(rs:List ResultVar)(c:Bool)(res:AV)(Ho:Heap)(ch:List PanicEntry)(RP:Heap->Prop):cI:=λe env H D=>match e with
 | .normal| .ret=>(match D with
  |[]=>Ob (c=true)/\Ob (Ho.Sublist H)/\Om P env H rs res
  |D=>Ob (c=true)/\Ob (∃H',uV H D H'/\kW P env H' rs res/\Ho.Sublist H'))
 | .panic a=>Ob (c=false)/\Ob (a=ch)/\Ob (D=[])/\Ob (∃h,RP h/\h.Sublist H)
 |_=>False
def Ly (P:Program)(rs:List ResultVar)(res:Nat->AV)(Ho:Nat->Heap):cI:=λe env H D=>match e with
 | .normal| .ret=>Ob (D=[])/\Ob (∃b,(Ho b).Sublist H/\Om P env H rs (res b))
 |_=>False
theorem aJ.CN {x:bN}{i:cI}(h:aJ P r N x Q env H D)(k: ∀e env H D,Q e env H D-> ∃env' H' b,bB env H D env' H' b/\i e env' H' b):aJ P r N x i env H D:=
 λc hc C a w S L q hs=>wpIn_mono (h c hc C a w S L q hs) (by
  rintro e s w' ⟨env',H',b,m,j,f,d⟩
  obtain⟨n,o,d2,p,d⟩:=k _ _ _ _ d
  obtain⟨S3,l,_,g⟩:=p C _ w' m j f
  exact⟨n,o,d2,S3,l,g,d⟩)
theorem Hw {e:Exit}(h:HV P rs res e env H D): ∃env' H' a,bB env H D env' H' a/\pD P rs res e env' H' a:=by
 have fin: ∀{D:List Nat} {e:Exit},HV P rs res .normal env H D->(e= .normal\/e= .ret)-> ∃env' H' a,bB env H D env' H' a/\pD P rs res e env' H' a:=by
  intro D e b he;cases D with
  |nil=>obtain⟨env',c,f⟩:=zK (D:=[]) b;exact⟨env',H,[],c,he,H,rfl,f⟩
  |cons d D=>have b:Ob (∃H',uV H (d::D) H'/\kW P env H' rs res):=b;exact⟨_,_,_,bB.refl _ _ _,he,b.h⟩
 cases e with
 |normal=>simp_all
 |ret=>exact fin h (.inr rfl)
 |_=>exact h.elim
theorem Ev.vc (ok:rY P f N rs lc)(K:Nat->List (VH P))(L:Nat->Option (LH P))(h:VW P none N L lc K 0 (HV P rs res) [] (dA args) []):Ev P f args res:=
 Ev.intro ok (aJ.CN h.h (λ_ _ _ _ a=>Hw a))
theorem QF {c:Bool}{Ho:Heap}{ch:List PanicEntry}{RP:Heap->Prop}{e:Exit}(h:Lh P rs c res Ho ch RP e env H D):
  ∃env' H' a,bB env H D env' H' a/\X0 P rs (λo h=>(c=true/\o= .ret res/\h=Ho)\/(c=false/\o= .Wx ch/\RP h)) e env' H' a:=by
 have fin: ∀{D:List Nat},Lh P rs c res Ho ch RP .normal env H D-> ∃env' H' a,bB env H D env' H' a/\X0 P rs (λo h=>(c=true/\o= .ret res/\h=Ho)\/(c=false/\o= .Wx ch/\RP h)) .normal env' H' a:=by
  intro D f
  cases D with
  |nil=>
   obtain⟨⟨b⟩,⟨k⟩,f⟩:=f
   obtain⟨env',m,n⟩:=zK (D:=[]) f
   exact⟨env',H,[],m,H,res,Ho,rfl,n,.inl ⟨b,rfl,rfl⟩,k⟩
  |cons d D=>
   obtain⟨⟨b⟩,⟨H',i,h4,l⟩⟩:=f
   exact⟨_,_,_,bB.refl _ _ _,H',res,Ho,i,h4,.inl ⟨b,rfl,rfl⟩,l⟩
 cases e with
 |normal=>exact fin h
 |ret=>exact fin h
 |panic j=>
  obtain⟨⟨b⟩,⟨rfl⟩,⟨rfl⟩,⟨g,i,h4⟩⟩:=h
  exact⟨env,H,[],bB.refl _ _ _,rfl,g,.inr ⟨b,rfl,i⟩,h4⟩
 |_=>exact h.elim
theorem Dm.vc {c:Bool}{Ho:Heap}{ch:List PanicEntry}{RP:Heap->Prop}(ok:rY P f N rs lc)(K:Nat->List (VH P))(L:Nat->Option (LH P))
  (h:VW P none N L lc K 0 (Lh P rs c res Ho ch RP) Hin (dA args) []):Dm P f args Hin c res Ho ch RP:=
 Y3.intro ok (aJ.CN h.h (λ_ _ _ _ a=>QF a))
theorem Q7 {res:Nat->AV}{Ho:Nat->Heap}{e:Exit}(h:Ly P rs res Ho e env H D): ∃env' H' a,bB env H D env' H' a/\wM P rs (λr h=> ∃b,r=res b/\h=Ho b) e env' H' a:=by
 have fin: ∀{e:Exit},Ly P rs res Ho .normal env H D->(e= .normal\/e= .ret)-> ∃env' H' a,bB env H D env' H' a/\wM P rs (λr h=> ∃b,r=res b/\h=Ho b) e env' H' a:=by rintro e ⟨⟨rfl⟩,⟨b,c,d⟩⟩ he;obtain⟨env',f,g⟩:=zK (D:=[]) d;exact⟨env',H,[],f,he,H,_,_,rfl,g,⟨b,rfl,rfl⟩,c⟩
 cases e with
 |normal=>simp_all
 |ret=>exact fin h (.inr rfl)
 |_=>exact h.elim
def EG (P:Program)(rs:List ResultVar)(res:Nat->Nat->AV)(Ho:Nat->Nat->Heap):cI:=λe env H D=>match e with
 | .normal| .ret=>Ob (D=[])/\Ob (∃b c,(Ho b c).Sublist H/\Om P env H rs (res b c))
 |_=>False
theorem N0 {res:Nat->Nat->AV}{Ho:Nat->Nat->Heap}{e:Exit}(h:EG P rs res Ho e env H D): ∃env' H' a,bB env H D env' H' a/\wM P rs (λr h=> ∃b c,r=res b c/\h=Ho b c) e env' H' a:=by
 have fin: ∀{e:Exit},EG P rs res Ho .normal env H D->(e= .normal\/e= .ret)-> ∃env' H' a,bB env H D env' H' a/\wM P rs (λr h=> ∃b c,r=res b c/\h=Ho b c) e env' H' a:=by rintro e ⟨⟨rfl⟩,⟨b,c,d,f⟩⟩ he;obtain⟨env',g,i⟩:=zK (D:=[]) f;exact⟨env',H,[],g,he,H,_,_,rfl,i,⟨b,c,rfl,rfl⟩,d⟩
 cases e with
 |normal=>simp_all
 |ret=>exact fin h (.inr rfl)
 |_=>exact h.elim
theorem AN.vc {res:Nat->Nat->AV}{Ho:Nat->Nat->Heap}(ok:rY P f N rs lc)(K:Nat->List (VH P))(L:Nat->Option (LH P))
  (h:VW P none N L lc K 0 (EG P rs res Ho) Hin (dA args) []):AN P f args Hin res Ho:=
 il.intro ok (aJ.CN h.h (λ_ _ _ _ a=>N0 a))
theorem yg.vc {res:Nat->AV}{Ho:Nat->Heap}(ok:rY P f N rs lc)(K:Nat->List (VH P))(L:Nat->Option (LH P))
  (h:VW P none N L lc K 0 (Ly P rs res Ho) Hin (dA args) []):yg P f args Hin res Ho:=
 il.intro ok (aJ.CN h.h (λ_ _ _ _ a=>Q7 a))
end
def Gg:Op:=.call {callee:=.builtin .recover,args:= #[],argTypes:= #[]}
def Ar (x:Operand):Op:=.defer {callee:=.value x,args:= #[],argTypes:= #[]}
def jK:FrameMode->Value×FrameMode
 | .panicking ({v,recovered:=false,goexit:=false}::nT)=>(v,.panicking ({v,recovered:=true}::nT))
 |u=>(.nilIface,u)
def XJ (P:Program)(f:FuncId)(args:List AV)(Hin:Heap)(u U:FrameMode)(R:Heap->Prop):Prop:=
 vd P f/\ ∀(S:aE) (w:World) (a:List Value),sN S w->S.In w->aS S args a->(∀e∈Hin,Own (λ_=>True) S w e.1 e.2)->(Hin.map (·.1)).Nodup->
  CallsDIn bk 0 P f a.toArray u w (λe b w'=>b=U/\J9 S w Hin (λo h=>o= .ret (.bZ [])/\R h) e w')
section
theorem HD (c0:Frame)(cs:List Frame){u:FrameMode}(a:c0.mode=u):
  (recoverD (c0::cs)=some ((jK u).1,{c0 with mode:=(jK u).2}::cs))\/(recoverD (c0::cs)=none/\jK u=(.nilIface,u)):=by
 subst a
 simp only[recoverD]
 generalize c0.mode=m
 unfold jK
 match m with
 | .panicking ({v,recovered:=false,goexit:=false}::nT)=>grind
 | .panicking ({v,recovered:=true,goexit:=_}::nT)=>grind
 | .panicking ({v,recovered:=false,goexit:=true}::nT)=>grind
 | .panicking []=>grind
 | .run=>grind
 | .returning=>grind
theorem XJ.intro {t2:Nat}{u:FrameMode}{R:Heap->Prop}(ok:rY P f N [] (.seq (.ops [⟨some t,none,.other Gg⟩,⟨some t2,none,.rF (.tmp t)⟩]) lc))
  (h:aJ P none N lc (λe _ H D=>(e= .normal\/e= .ret)/\D=[]/\ ∃j,R j/\j.Sublist H) (dK (dK (dA args) t (.v (jK u).1)) t2 (.v (jK u).1)) Hin []):XJ P f args Hin u (jK u).2 R:=by
 obtain⟨fn,hf,hn,hN,b0,B⟩:=ok.fn
 obtain⟨c,Y,B⟩:=bm.1 B
 refine⟨⟨fn,hf,hn,by rw[Y];rfl⟩,?_⟩
 intro S w vs x z s n b5
 have G:=db B
 generalize a2:bN.seq (.ops [⟨some t,none,.other Gg⟩,⟨some t2,none,.rF (.tmp t)⟩]) lc=LL at G
 cases G<;>try cases a2
 rename_i cA cR hA hR
 generalize a1:bN.ops [(⟨some t,none,.other Gg⟩:aH),⟨some t2,none,.rF (.tmp t)⟩]=AA at hA
 cases hA<;>try cases a1
 rename_i id arr hm
 have U:arr.size=2:=by have:=hm.length;simpa using this.symm
 rw[U]at hm
 obtain⟨l0,b6,W,m0,hm⟩:=hm
 cases W
 obtain⟨l1,b7,X,m1,_⟩:=hm
 cases X
 obtain⟨Z,a7,a4,q,M,b3⟩:=m0.at_
 obtain⟨V,a8,a5,I,O,b4⟩:=m1.at_
 have K:Z.guard=none:=zx
 have r:V.guard=none:=zx
 refine callsDIn_of_wpSIn hf Y trivial (λc0 cs k=>wpSIn_seq (wpSIn_region ?_))
 rw[U]
 have Q:Z.op=Gg:=by cases M;assumption
 have hop1:V.op= .move (.tmp t)\/V.op= .assign (.tmp t):=by cases O;assumption
 let C:Ctx:={A:=AH w Hin,w0:=w,S0:=S,F:=[],N:=N,hA:=λ_ h=>.inl h,hg:=x,Pm:=x.apart z n,TH:=λb Y=>z.lt (x.1 b Y)}
 generalize a3:({tmps:=vs.toArray++az (fn.ntmps-vs.toArray.size) undef,defers:=[]}:Act)=a0
 have hs:Sat C (dA args) Hin [] a0 w S (λ_=>none):=by
  subst a3
  refine
   {size:=?_,uj:=rfl,le:=aE.Le.refl S,sin:=z,ka:=λ_ h=>.inl h,below:=eI.refl _ _,env:=?_,heap:=?_,frame:=by simp [C],nodup:=zx,aI:=zj,gk:=by simp}
  ·grind
  ·intro t
   have L:(dA args t)= .any\/ ∃p,args[t]? =some p/\dA args t=p:=by
    unfold dA
    cases h:args[t]? with
    |none=>exact .inl rfl
    |some p=>exact .inr ⟨p,rfl,rfl⟩
   rcases L with he|⟨p,hp,he⟩
   ·rw[he];exact bF.dC rfl (by simp [aR])
   ·obtain⟨c,hc,hr⟩:=s.get hp
    have a6:=iD hc
    have hv:(vs.toArray++az (fn.ntmps-vs.toArray.size) undef).getD t undef=c:=by
     rw[be,bi (by simpa using a6)]
     simp [hc]
    rw[he,hv]
    exact bF.dC hr.jP hr
  ·intro e he
   exact(n e he).gn (λ_=>.inr (cr.2 ⟨e,he,rfl⟩))
 obtain⟨L1,b1⟩:=hs.lA (dst:=some t) (p:=.v (jK u).1) (y:=(jK u).1) (λd e=>q d e) rfl (by simp [aR])
 obtain⟨L2,b2⟩:=b1.lA (dst:=some t2) (p:=.v (jK u).1) (y:=(jK u).1) (λd e=>I d e) rfl (by simp [aR])
 have rest:cR.wpSIn bk 0 P (bodyPostS P fn c0 cs (λe u' w'=>u'=(jK u).2/\J9 S w Hin (λo h=>o= .ret (.bZ [])/\R h) e w')) ((a0.put (some t) (jK u).1).put (some t2) (jK u).1) ({c0 with mode:=(jK u).2}::cs) w:=by
  refine wpSIn_of_wpIn rfl (wpIn_mono (h cR hR C _ w S L2 rfl b2) ?_)
  rintro e a' w' ⟨env',H',D',S',L',i,he,rfl,j,hR,m⟩
  have fin:bodyPostS P fn c0 cs (λe u' w'=>u'=(jK u).2/\J9 S w Hin (λo h=>o= .ret (.bZ [])/\R h) e w') .ret a' ({c0 with mode:=(jK u).2}::cs) w':=by
   refine⟨i.uj,_,rfl,?_⟩
   have a9:kW P env' H' fn.results.toList (.bZ []):=by rw[b0];exact .many zq trivial
   obtain⟨v,g,hv,T,hg⟩:=a9.run i
   refine⟨v,hv,rfl,S',j,i.le,i.sin,i.ka,i.below,λe he=>i.heap e (m.subset he),?_,.inl ⟨v,g,_,rfl,⟨rfl,hR⟩,T,?_⟩⟩
   ·have:=i.nodup
    rw[ad,an]at this
    exact kB m this.1
   ·intro b e hm
    obtain⟨t,ht⟩:=hg b e
    refine i.aI t b ht ?_
    rw[ad,bn]
    exact .inl ((m.map _).subset hm)
  rcases he with rfl|rfl
  ·exact fin
  ·exact fin
 have E: ∀a:Act,(execOp a.eval Z).run P w= .ok .recover w:=λa=>by simp [execOp,Q,Gg,resolve,invoke,builtin]
 have l: ∀(a:Act) (v:Value),(execOp (a.put (some t) v).eval V).run P w= .ok (.value ((a.put (some t) v).eval (.tmp t))) w:=λa v=>by
  rcases hop1 with hop1|hop1<;>simp [execOp,hop1]
 have J: ∀v,(a0.put (some t) v).eval (.tmp t)=v:=λv=>by
  have h1:=hs.size
  have h2:t<N:=q t rfl
  exact pA (show t<a0.tmps.size from Nat.lt_of_lt_of_le h2 h1)
 simp only[dk,cb,wpOpsSIn,a7,a8]
 refine⟨λ_ _=>trivial,?_⟩
 rw[if_pos (fF K),E]
 have W:Z.dst=some t:=a4
 have X:V.dst=some t2:=a5
 rcases HD c0 cs k with e|⟨e,e2⟩
 ·simp only[e]
  refine⟨λ_ _=>trivial,?_⟩
  rw[if_pos (fF r),W,l,J,X]
  exact rest
 ·simp only[e]
  refine⟨λ_ _=>trivial,?_⟩
  rw[if_pos (fF r),W,l,J,X]
  rw[e2]at rest
  have:({c0 with mode:=u}:Frame)=c0:=by rw[<-k]
  simp only[this]at rest
  rw[e2]
  exact rest
def Jl:Exit->Option FrameMode
 | .normal| .ret=>some .returning
 | .panic ch=>some (.panicking ch)
 |_=>none
def YX (P:Program)(rs:List ResultVar)(R:AV->Heap->Prop)(g:FuncId)(c:List AV):cI:=λe env H D=>D=[]/\ ∃u,Jl e=some u/\ ∃d H0 f,H.Perm (d++H0)/\XJ P g c d u (jK u).2 f/\settle (jK u).2= .returning/\
 ∀b,f b-> ∃res a,kW P env (b++H0) rs res/\R res a/\a.Sublist (b++H0)
def DStep (P:Program)(N:Nat)(rs:List ResultVar)(R:AV->Heap->Prop)(a:FuncId)(t:Nat)(xs:List Operand)(lc:bN)(env:Env)(H:Heap)(D:List Nat):Prop:=
 D=[]/\(xs.map (bu env)).all (λp=> !p.bC)=true/\aJ P none N lc (YX P rs R a (xs.map (bu env))) (dK env t (.fn (.func a) [] (xs.map (bu env)))) H []
structure Stp (p:Prop):Prop where
 h:p
def noP:cI:=λ_ _ _ _=>False
theorem il.defer {A B:bN}{k:FuncId}{xs:List Operand}{R:AV->Heap->Prop}
  (ok:rY P f N rs (.seq A (.seq B (.seq (.ops [⟨some t,none,.vv (.func k) [] xs⟩,⟨none,none,.other (Ar (.tmp t))⟩]) lc))))
  (h:aJ P none N A (jG (λenv H D=>Stp (aJ P none N B (jG (λenv H D=>Stp (DStep P N rs R k t xs lc env H D)) noP) env H D)) noP) (dA args) Hin []):il P f args Hin R:=by
 obtain⟨fn,hf,hn,hN,d0,K⟩:=ok.fn
 obtain⟨c,O,K⟩:=bm.1 K
 refine⟨⟨fn,hf,hn,by rw[O];rfl⟩,?_⟩
 intro S w vs I J E s e2
 have T:=db K
 generalize m:bN.seq A (.seq B (.seq (.ops [⟨some t,none,.vv (.func k) [] xs⟩,⟨none,none,.other (Ar (.tmp t))⟩]) lc))=LL at T
 cases T<;>try cases m
 rename_i cA c1 hA h1
 generalize m:bN.seq B (.seq (.ops [⟨some t,none,.vv (.func k) [] xs⟩,⟨none,none,.other (Ar (.tmp t))⟩]) lc)=LL at h1
 cases h1<;>try cases m
 rename_i cB c2 hB h2
 generalize m:bN.seq (.ops [⟨some t,none,.vv (.func k) [] xs⟩,⟨none,none,.other (Ar (.tmp t))⟩]) lc=LL at h2
 cases h2<;>try cases m
 rename_i cD cR Q hR
 generalize b9:bN.ops [(⟨some t,none,.vv (.func k) [] xs⟩:aH),⟨none,none,.other (Ar (.tmp t))⟩]=AA at Q
 cases Q<;>try cases b9
 rename_i id arr hm
 have b6:arr.size=2:=by have:=hm.length;simpa using this.symm
 rw[b6]at hm
 obtain⟨l0,e3,e0,m0,hm⟩:=hm
 cases e0
 obtain⟨l1,e4,e1,m1,_⟩:=hm
 cases e1
 obtain⟨o0,c8,c3,V,a7,d8⟩:=m0.at_
 obtain⟨o1,c9,c4,d7,a8,d9⟩:=m1.at_
 have Y:o0.guard=none:=zx
 have Z:o1.guard=none:=zx
 rw[<-callsIn_wide (n:=0)]
 refine callsIn_of_wp_marks hf O trivial ?_
 let C:Ctx:={A:=AH w Hin,w0:=w,S0:=S,F:=[],N:=N,hA:=λ_ h=>.inl h,hg:=I,Pm:=I.apart J s,TH:=λb O=>J.lt (I.1 b O)}
 generalize c0:({tmps:=vs.toArray++az (fn.ntmps-vs.toArray.size) undef,defers:=[]}:Act)=a0
 have hs:Sat C (dA args) Hin [] a0 w S (λ_=>none):=by
  subst c0
  refine
   {size:=?_,uj:=rfl,le:=aE.Le.refl S,sin:=J,ka:=λ_ h=>.inl h,below:=eI.refl _ _,env:=?_,heap:=?_,frame:=by simp [C],nodup:=zx,aI:=zj,gk:=by simp}
  ·grind
  ·intro t
   have a4:(dA args t)= .any\/ ∃p,args[t]? =some p/\dA args t=p:=by
    unfold dA
    cases h:args[t]? with
    |none=>exact .inl rfl
    |some p=>exact .inr ⟨p,rfl,rfl⟩
   rcases a4 with he|⟨p,hp,he⟩
   ·rw[he];exact bF.dC rfl (by simp [aR])
   ·obtain⟨c,hc,hr⟩:=E.get hp
    have c6:=iD hc
    have hv:(vs.toArray++az (fn.ntmps-vs.toArray.size) undef).getD t undef=c:=by
     rw[be,bi (by simpa using c6)]
     simp [hc]
    rw[he,hv]
    exact bF.dC hr.jP hr
  ·intro e he
   exact(s e he).gn (λ_=>.inr (cr.2 ⟨e,he,rfl⟩))
 refine wpIn_seq (wpIn_mono (h cA hA C _ w S _ rfl hs) ?_)
 rintro e a1 w1 ⟨d4,H1,D1,S1,L1,d1,hq⟩
 cases e<;>try exact hq.elim
 refine wpIn_seq (wpIn_mono (hq.h cB hB C a1 w1 S1 L1 rfl d1) ?_)
 rintro e a2 w2 ⟨i,H2,D2,S2,L2,d2,b1⟩
 cases e<;>try exact b1.elim
 obtain⟨rfl,a6,sV⟩:=b1.h
 refine wpIn_seq (wpIn_region ?_)
 rw[b6]
 have a':o1.op=Ar (.tmp t):=by cases a8;assumption
 simp only[dk,cb,wpOpsIn,c8,c9,fF Y,fF Z,if_true]
 have c7:aF P none N (.vv (.func k) [] xs) (some t) i H2 [] (λe h d=>e=dK i t (.fn (.func k) [] (xs.map (bu i)))/\h=H2/\d=[]):=
  aF.plain (p:=.fn (.func k) [] (xs.map (bu i))) (by simp only[jJ,List.map_nil,List.all_nil,Bool.true_and,a6,if_true]) rfl ⟨rfl,rfl,rfl⟩
 refine c7 o0 c3 V a7 C a2 w2 S2 L2 rfl d2 _ _ ?_
 rintro d5 H3 D3 y w3 S3 L3 ⟨rfl,rfl,rfl⟩ a _
 have o:=a.rep (t:=t) (bw _ _ _) rfl
 simp only[aR,aS]at o
 obtain⟨fs,cs,o,rfl,Zj⟩:=o
 generalize a2.put (some t) y=M at a o ⊢
 have c5:M.eval (.tmp t)= .func (.func k) #[] cs.toArray:=o
 have U:o1.dst=none:=c4
 refine⟨λ_ _=>trivial,?_⟩
 have df:((o1.semAt bk.round M.eval).run P w3)= .ok (.defer {target:=.fn (.func k) cs.toArray,args:= #[]}) w3:=by
  show ((o1.semAt none M.eval).run P w3)=_
  rw[Oper.semAt_none]
  simp [execOp,a',Ar,resolve,ds,c5]
 rw[df,Oper.uponIn_defer,U]
 generalize hd:({target:=.fn (.func k) cs.toArray,args:= #[]}:Deferred)=d
 let C2:Ctx:={A:=C.A,w0:=C.w0,S0:=S3,F:=C.F,N:=N,hA:=C.hA,hg:=C.hg.mono a.le,Pm:=C.Pm,TH:=C.TH,base:=[d]}
 have d3:Sat C2 (dK i t (AV.fn (Fn.func k) [] (List.map (bu i) xs))) H3 [] ({M with defers:=d::M.defers}:Act) w3 S3 L3:=
  {size:=a.size,uj:=by show d::M.defers=_;rw[a.uj];rfl,le:=aE.Le.refl _,sin:=a.sin,ka:=λ_ h=>.inl h,below:=a.below,env:=a.env,heap:=a.heap,frame:=a.frame,nodup:=a.nodup,aI:=a.aI,gk:=a.gk}
 show cR.wpIn bk 0 P _ _ _
 refine wpIn_mono (sV cR hR C2 _ w3 S3 L3 rfl d3) ?_
 rintro e a5 w5 ⟨d6,H5,D5,S5,L5,b4,rfl,u,hu,Hd,H0,R',L,hD,b5,X⟩
 have l:=b4.DG L
 have G:a5.defers=[d]:=b4.uj
 have b7:u≠.run:=by
  rintro rfl
  cases e<;>simp [Jl]at hu
 have key:LeavesInM bk 0 P fn a5.tmps (IY S w Hin R) [d] u w5:=by
  subst hd
  refine⟨b7,.inr ⟨(λh=>(by cases h)),.func k,cs.toArray,k,cs.toArray,rfl,by simp [invoke,dI hD.1],λ_ _=>trivial,?_⟩⟩
  have b0: ∀e∈Hd,Own (λ_=>True) S5 w5 e.1 e.2:=λe he=>(l.heap e (bn.2 (.inl he))).gn (λ_=>trivial)
  have a9:(Hd.map (·.1)).Nodup:=by
   have:=l.nodup
   rw[ad,ad,an,an]at this
   exact this.1.1
  refine(hD.2 S5 w5 cs l.gl l.sin (aS.mono l.le _ _ Zj) b0 a9).mono ?_
  rintro e u' w6 ⟨rfl,W⟩
  rcases Sat.Fm (dst:=none) l (λ_ e=>by cases e) W with⟨v,res,r,S7,L7,rfl,⟨b2,c'⟩,j,d'⟩|⟨ch,r,S7,L7,rfl,⟨b2,_⟩,_⟩
  ·show LeavesInM bk 0 P fn a5.tmps (IY S w Hin R) [] (settle (jK u).2) w6
   rw[b5]
   obtain⟨b8,z,x,b',q⟩:=X r c'
   rw[<-d0]at x
   obtain⟨v2,g,hv,b3,hg⟩:=x.run j
   refine⟨v2,hv,v2,S7,g,b8,z,rfl,b',a.le.trans j.le,j.sin,?_,j.below,b3,λe he=>j.heap e (q.subset he),?_,?_⟩
   ·intro b O
    rcases j.ka b O with h|h
    ·exact a.ka b h
    ·exact .inr h
   ·have:=j.nodup
    rw[ad,an]at this
    exact kB q this.1
   ·intro b e hm
    obtain⟨t,ht⟩:=hg b e
    refine j.aI t b ht ?_
    rw[ad,bn]
    exact .inl ((q.map _).subset hm)
  ·cases b2
 cases e with
 |normal=>cases hu;show LeavesInM _ _ _ _ _ _ _ _ _;rw[G];exact key
 |ret=>cases hu;show LeavesInM _ _ _ _ _ _ _ _ _;rw[G];exact key
 |panic ch=>cases hu;show LeavesInM _ _ _ _ _ _ _ _ _;rw[G];exact key
 |_=>cases hu
end
variable {Q:cI}{T:TypeId}
theorem yg.cell {res:Nat->AV}{cs a:Nat->List AV}(h:yg P f args Hin res (λb=>[(b,.cells T (cs b))]))(hs: ∀b,fN ez (cs b) (a b)):
  yg P f args Hin res (λb=>[(b,.cells T (a b))]):=by
 refine⟨h.1,λS w B k m n h4 p=>(h.2 S w B k m n h4 p).mono ?_⟩
 rintro e w' ⟨v,c,g,r,Ho,rfl,⟨b,rfl,rfl⟩,q,s,t,u,x,y,z,A⟩
 refine⟨v,c,g,_,_,rfl,⟨b,rfl,rfl⟩,q,s,t,u,x,?_,z,A⟩
 intro e he
 rw[bt.1 he]
 obtain⟨d,b2,o,i,l,rfl,j,b5⟩:=y _ (bt.2 rfl)
 exact⟨d,b2,_,i,l,rfl,fC (hs b) j,b5⟩
theorem aJ.ZV {x y:bN}(h:aJ P r N x (jG (λe h d=>Ob (aJ P r N y Q e h d)) Q) env H D):aJ P r N (.seq x y) Q env H D:=
 aJ.seq (aJ.mono h (by
  intro e env H D a
  cases e with
  |normal=>exact a.h
  |_=>exact a))
open Go.Proofs Tryz
abbrev tm (n:Nat):Operand:=.tmp n
abbrev kc (n:Int):Operand:=.const (.int .i64 n)
abbrev ow (d:Nat)(l:jM):aH:=⟨some d,none,l⟩
abbrev om (d x:Nat):aH:=⟨some d,none,.rF (.tmp x)⟩
abbrev oy (d g:Nat)(l:jM):aH:=⟨some d,some (g,true),l⟩
abbrev oz (d g:Nat)(l:jM):aH:=⟨some d,some (g,false),l⟩
theorem xr:bI.follows .mixedOrders=true:=by kernel_rfl
theorem ofn (n:Nat):Int.ofNat n=(n:Int):=rfl
theorem ngs (n:Nat):Int.negSucc n= -(((n+1:Nat)):Int):=rfl
structure FnS (f:FuncId)(N:Nat)(rs:List ResultVar) where
 lc:bN
 ok:rY bI f N rs lc
def bj {f:FuncId}{fn:Func}{N:Nat}{rs:List ResultVar}(a:Tryz.prog.funcs[f]? =some fn)(b:fn.ntmps=N)(c:fn.results=rs.toArray)(lc:bN)
 (h:fn.body.bind (lowerCode Tryz.prog N)=some lc:=by(conv=>lhs;reduce;try dsimp only[ofn,ngs,Int.cast_ofNat_Int,Int.reduceNatCast,Nat.reduceAdd,Int.reduceNeg])) (d:(fn.name== "runtime.NumGoroutine")=false:=by kernel_rfl):FnS f N rs:=⟨lc,fn,a,d,b,by rw[c],h⟩
def S3:=bj func3 ntmps3 results3 _
def S4:=bj func4 ntmps4 results4 _
def S5:=bj func5 ntmps5 results5 _
def S6:=bj func6 ntmps6 results6 _
def S7:=bj func7 ntmps7 results7 _
def S8:=bj func8 ntmps8 results8 _
def S9:=bj func9 ntmps9 results9 _
def S10:=bj func10 ntmps10 results10 _
def S11:=bj func11 ntmps11 results11 _
def S12:=bj func12 ntmps12 results12 _
def S13:=bj func13 ntmps13 results13 _
def S14:=bj func14 ntmps14 results14 _
def S15:=bj func15 ntmps15 results15 _
def S16:=bj func16 ntmps16 results16 _
def S17:=bj func17 ntmps17 results17 _
def S18:=bj func18 ntmps18 results18 _
def S19:=bj func19 ntmps19 results19 _
def S20:=bj func20 ntmps20 results20 _
def S21:=bj func21 ntmps21 results21 _
def S23:=bj func23 ntmps23 results23 _
def S24:=bj func24 ntmps24 results24 _
def S25:=bj func25 ntmps25 results25 _
def S26:=bj func26 ntmps26 results26 _
def S27:=bj func27 ntmps27 results27 _
def S28:=bj func28 ntmps28 results28 _
def S29:=bj func29 ntmps29 results29 _
def S30:=bj func30 ntmps30 results30 _
def S31:=bj func31 ntmps31 results31 _
def S32:=bj func32 ntmps32 results32 _
def S33:=bj func33 ntmps33 results33 _
def S34:=bj func34 ntmps34 results34 _
def S35:=bj func35 ntmps35 results35 _
def S36:=bj func36 ntmps36 results36 _
def S37:=bj func37 ntmps37 results37 _
def S38:=bj func38 ntmps38 results38 _
def S39:=bj func39 ntmps39 results39 _
def S40:=bj func40 ntmps40 results40 _
def S43:=bj func43 ntmps43 results43 _
def S44:=bj func44 ntmps44 results44 _
def S46:=bj func46 ntmps46 results46 _
def S47:=bj func47 ntmps47 results47 _
def S49:=bj func49 ntmps49 results49 _
def S50:=bj func50 ntmps50 results50 _
def S51:=bj func51 ntmps51 results51 _
def S52:=bj func52 ntmps52 results52 _
def S53:=bj func53 ntmps53 results53 _
def S54:=bj func54 ntmps54 results54 _
def S55:=bj func55 ntmps55 results55 _
def S56:=bj func56 ntmps56 results56 _
def S57:=bj func57 ntmps57 results57 _
def S58:=bj func58 ntmps58 results58 _
def S59:=bj func59 ntmps59 results59 _
def S60:=bj func60 ntmps60 results60 _
def S61:=bj func61 ntmps61 results61 _
def S62:=bj func62 ntmps62 results62 _
def S63:=bj func63 ntmps63 results63 _
def S64:=bj func64 ntmps64 results64 _
def S65:=bj func65 ntmps65 results65 _
def S66:=bj func66 ntmps66 results66 _
def S67:=bj func67 ntmps67 results67 _
def S68:=bj func68 ntmps68 results68 _
def S69:=bj func69 ntmps69 results69 _
def S70:=bj func70 ntmps70 results70 _
def S71:=bj func71 ntmps71 results71 _
def S72:=bj func72 ntmps72 results72 _
def S73:=bj func73 ntmps73 results73 _
def S74:=bj func74 ntmps74 results74 _
def S75:=bj func75 ntmps75 results75 _
def S76:=bj func76 ntmps76 results76 _
def S77:=bj func77 ntmps77 results77 _
def S78:=bj func78 ntmps78 results78 _
def S84:=bj func84 ntmps84 results84 _
def S85:=bj func85 ntmps85 results85 _
def S86:=bj func86 ntmps86 results86 _
def S87:=bj func87 ntmps87 results87 _
def S88:=bj func88 ntmps88 results88 _
def S89:=bj func89 ntmps89 results89 _
def S90:=bj func90 ntmps90 results90 _
def S91:=bj func91 ntmps91 results91 _
def S97:=bj func97 ntmps97 results97 _
def S98:=bj func98 ntmps98 results98 _
def S99:=bj func99 ntmps99 results99 _
def afA:=bj func100 ntmps100 results100 _
def agz:=bj func101 ntmps101 results101 _
def afT:=bj func102 ntmps102 results102 _
def ae0:=bj func103 ntmps103 results103 _
def aeG:=bj func104 ntmps104 results104 _
def ac3:=bj func105 ntmps105 results105 _
def adg:=bj func106 ntmps106 results106 _
def aee:=bj func107 ntmps107 results107 _
def afh:=bj func108 ntmps108 results108 _
def adm:=bj func109 ntmps109 results109 _
def aeZ:=bj func110 ntmps110 results110 _
def aeK:=bj func111 ntmps111 results111 _
def adn:=bj func112 ntmps112 results112 _
def adB:=bj func113 ntmps113 results113 _
def agj:=bj func114 ntmps114 results114 _
def afa:=bj func115 ntmps115 results115 _
def ae1:=bj func116 ntmps116 results116 _
def agn:=bj func117 ntmps117 results117 _
def ae3:=bj func118 ntmps118 results118 _
def aga:=bj func119 ntmps119 results119 _
def afu:=bj func120 ntmps120 results120 _
def afy:=bj func121 ntmps121 results121 _
def adA:=bj func122 ntmps122 results122 _
def afx:=bj func123 ntmps123 results123 _
def ag7:=bj func124 ntmps124 results124 _
def aeR:=bj func125 ntmps125 results125 _
def adX:=bj func126 ntmps126 results126 _
def aeo:=bj func127 ntmps127 results127 _
def afq:=bj func128 ntmps128 results128 _
def agH:=bj func129 ntmps129 results129 _
def aco:=bj func130 ntmps130 results130 _
def acW:=bj func131 ntmps131 results131 _
def af7:=bj func132 ntmps132 results132 _
def agR:=bj func133 ntmps133 results133 _
def afo:=bj func134 ntmps134 results134 _
def acU:=bj func135 ntmps135 results135 _
def ael:=bj func136 ntmps136 results136 _
def agZ:=bj func137 ntmps137 results137 _
def agS:=bj func138 ntmps138 results138 _
def aer:=bj func139 ntmps139 results139 _
def agJ:=bj func140 ntmps140 results140 _
def agG:=bj func141 ntmps141 results141 _
def adG:=bj func147 ntmps147 results147 _
def agI:=bj func148 ntmps148 results148 _
def ado:=bj func149 ntmps149 results149 _
def agd:=bj func150 ntmps150 results150 _
def af6:=bj func151 ntmps151 results151 _
def ae4:=bj func152 ntmps152 results152 _
def ae2:=bj func153 ntmps153 results153 _
def afl:=bj func154 ntmps154 results154 _
def af3:=bj func155 ntmps155 results155 _
def agT:=bj func156 ntmps156 results156 _
def afH:=bj func157 ntmps157 results157 _
def agk:=bj func158 ntmps158 results158 _
def agq:=bj func159 ntmps159 results159 _
def acV:=bj func160 ntmps160 results160 _
def acR:=bj func161 ntmps161 results161 _
def agF:=bj func162 ntmps162 results162 _
def acS:=bj func163 ntmps163 results163 _
def aeO:=bj func164 ntmps164 results164 _
def aeQ:=bj func165 ntmps165 results165 _
def agm:=bj func166 ntmps166 results166 _
def afB:=bj func167 ntmps167 results167 _
def adz:=bj func168 ntmps168 results168 _
def acX:=bj func169 ntmps169 results169 _
def af5:=bj func170 ntmps170 results170 _
def ac2:=bj func171 ntmps171 results171 _
def adv:=bj func172 ntmps172 results172 _
def ag2:=bj func173 ntmps173 results173 _
def ad6:=bj func179 ntmps179 results179 _
def aeP:=bj func180 ntmps180 results180 _
def afz:=bj func181 ntmps181 results181 _
def ag4:=bj func182 ntmps182 results182 _
def afP:=bj func183 ntmps183 results183 _
def afw:=bj func184 ntmps184 results184 _
def acM:=bj func185 ntmps185 results185 _
def ae7:=bj func186 ntmps186 results186 _
def aea:=bj func187 ntmps187 results187 _
def adY:=bj func188 ntmps188 results188 _
def aeA:=bj func189 ntmps189 results189 _
def ae6:=bj func190 ntmps190 results190 _
def aey:=bj func191 ntmps191 results191 _
def ags:=bj func192 ntmps192 results192 _
def aff:=bj func193 ntmps193 results193 _
def aft:=bj func194 ntmps194 results194 _
def adH:=bj func195 ntmps195 results195 _
def aeC:=bj func196 ntmps196 results196 _
def agE:=bj func197 ntmps197 results197 _
def ads:=bj func198 ntmps198 results198 _
def adK:=bj func199 ntmps199 results199 _
def ag3:=bj func200 ntmps200 results200 _
def afR:=bj func201 ntmps201 results201 _
def aed:=bj func202 ntmps202 results202 _
def aev:=bj func203 ntmps203 results203 _
def acJ:=bj func204 ntmps204 results204 _
def aem:=bj func205 ntmps205 results205 _
def ago:=bj func206 ntmps206 results206 _
def acu:=bj func207 ntmps207 results207 _
def aep:=bj func208 ntmps208 results208 _
def aeq:=bj func209 ntmps209 results209 _
def agl:=bj func210 ntmps210 results210 _
def adZ:=bj func211 ntmps211 results211 _
def ad0:=bj func212 ntmps212 results212 _
def afW:=bj func213 ntmps213 results213 _
def agA:=bj func214 ntmps214 results214 _
def afO:=bj func217 ntmps217 results217 _
def af8:=bj func218 ntmps218 results218 _
def af4:=bj func219 ntmps219 results219 _
def adh:=bj func220 ntmps220 results220 _
def acO:=bj func221 ntmps221 results221 _
def adk:=bj func222 ntmps222 results222 _
def agV:=bj func223 ntmps223 results223 _
def acq:=bj func224 ntmps224 results224 _
def acD:=bj func225 ntmps225 results225 _
def afN:=bj func226 ntmps226 results226 _
def agt:=bj func227 ntmps227 results227 _
def afi:=bj func228 ntmps228 results228 _
def acC:=bj func229 ntmps229 results229 _
def afD:=bj func230 ntmps230 results230 _
def ag8:=bj func231 ntmps231 results231 _
def afL:=bj func232 ntmps232 results232 _
def adI:=bj func233 ntmps233 results233 _
def acP:=bj func234 ntmps234 results234 _
def ad9:=bj func235 ntmps235 results235 _
def agQ:=bj func236 ntmps236 results236 _
def aeM:=bj func237 ntmps237 results237 _
def aen:=bj func238 ntmps238 results238 _
def aeS:=bj func239 ntmps239 results239 _
def aeH:=bj func240 ntmps240 results240 _
def acQ:=bj func241 ntmps241 results241 _
def aex:=bj func242 ntmps242 results242 _
def ag1:=bj func243 ntmps243 results243 _
def aeW:=bj func244 ntmps244 results244 _
def agr:=bj func245 ntmps245 results245 _
def afv:=bj func246 ntmps246 results246 _
def acr:=bj func247 ntmps247 results247 _
def acI:=bj func248 ntmps248 results248 _
def aeB:=bj func249 ntmps249 results249 _
def ae5:=bj func250 ntmps250 results250 _
def afn:=bj func251 ntmps251 results251 _
def adN:=bj func252 ntmps252 results252 _
def adw:=bj func259 ntmps259 results259 _
def ac5:=bj func260 ntmps260 results260 _
def agC:=bj func261 ntmps261 results261 _
def afJ:=bj func262 ntmps262 results262 _
def agM:=bj func263 ntmps263 results263 _
def aeY:=bj func264 ntmps264 results264 _
def adW:=bj func265 ntmps265 results265 _
def ag9:=bj func266 ntmps266 results266 _
def ae9:=bj func267 ntmps267 results267 _
def agP:=bj func268 ntmps268 results268 _
def acY:=bj func269 ntmps269 results269 _
def ac4:=bj func270 ntmps270 results270 _
def adU:=bj func271 ntmps271 results271 _
def aeT:=bj func272 ntmps272 results272 _
def acz:=bj func277 ntmps277 results277 _
def agf:=bj func278 ntmps278 results278 _
def aeg:=bj func279 ntmps279 results279 _
def aeN:=bj func280 ntmps280 results280 _
def aeu:=bj func281 ntmps281 results281 _
def aeL:=bj func282 ntmps282 results282 _
def aet:=bj func283 ntmps283 results283 _
def agO:=bj func284 ntmps284 results284 _
def agy:=bj func285 ntmps285 results285 _
def acv:=bj func286 ntmps286 results286 _
def adM:=bj func289 ntmps289 results289 _
def aeJ:=bj func290 ntmps290 results290 _
def afb:=bj func291 ntmps291 results291 _
def age:=bj func292 ntmps292 results292 _
def acL:=bj func293 ntmps293 results293 _
def adS:=bj func294 ntmps294 results294 _
def agX:=bj func295 ntmps295 results295 _
def afK:=bj func296 ntmps296 results296 _
def adP:=bj func297 ntmps297 results297 _
def agY:=bj func298 ntmps298 results298 _
def afE:=bj func299 ntmps299 results299 _
def ad5:=bj func301 ntmps301 results301 _
def adV:=bj func302 ntmps302 results302 _
def afZ:=bj func303 ntmps303 results303 _
def acn:=bj func304 ntmps304 results304 _
def acx:=bj func305 ntmps305 results305 _
def afr:=bj func306 ntmps306 results306 _
def adL:=bj func307 ntmps307 results307 _
def afs:=bj func308 ntmps308 results308 _
def acF:=bj func309 ntmps309 results309 _
def adO:=bj func310 ntmps310 results310 _
def afF:=bj func311 ntmps311 results311 _
def acw:=bj func312 ntmps312 results312 _
def af1:=bj func313 ntmps313 results313 _
def ae8:=bj func314 ntmps314 results314 _
def agB:=bj func315 ntmps315 results315 _
def agU:=bj func316 ntmps316 results316 _
def agb:=bj func317 ntmps317 results317 _
def afI:=bj func318 ntmps318 results318 _
def acH:=bj func319 ntmps319 results319 _
def agN:=bj func320 ntmps320 results320 _
def aeI:=bj func321 ntmps321 results321 _
def afV:=bj func322 ntmps322 results322 _
def afj:=bj func330 ntmps330 results330 _
def afc:=bj func331 ntmps331 results331 _
def aeE:=bj func332 ntmps332 results332 _
def ad7:=bj func333 ntmps333 results333 _
def adi:=bj func334 ntmps334 results334 _
def acK:=bj func335 ntmps335 results335 _
def agK:=bj func336 ntmps336 results336 _
def agD:=bj func337 ntmps337 results337 _
def afC:=bj func338 ntmps338 results338 _
def adF:=bj func339 ntmps339 results339 _
def ac0:=bj func340 ntmps340 results340 _
def aeX:=bj func341 ntmps341 results341 _
def acG:=bj func342 ntmps342 results342 _
def adp:=bj func344 ntmps344 results344 _
def aa4:=bj func345 ntmps345 results345 _
def afm:=bj func346 ntmps346 results346 _
def aek:=bj func347 ntmps347 results347 _
def ac7:=bj func348 ntmps348 results348 _
def acB:=bj func349 ntmps349 results349 _
def af0:=bj func357 ntmps357 results357 _
def aec:=bj func358 ntmps358 results358 _
def adu:=bj func359 ntmps359 results359 _
def ade:=bj func360 ntmps360 results360 _
def acs:=bj func361 ntmps361 results361 _
def ac8:=bj func362 ntmps362 results362 _
def aeV:=bj func363 ntmps363 results363 _
def ada:=bj func364 ntmps364 results364 _
def ad8:=bj func365 ntmps365 results365 _
def aef:=bj func366 ntmps366 results366 _
def acT:=bj func367 ntmps367 results367 _
def ag6:=bj func369 ntmps369 results369 _
def agw:=bj func370 ntmps370 results370 _
def acE:=bj func371 ntmps371 results371 _
def agW:=bj func372 ntmps372 results372 _
def adf:=bj func373 ntmps373 results373 _
def agL:=bj func374 ntmps374 results374 _
def adl:=bj func378 ntmps378 results378 _
def adr:=bj func379 ntmps379 results379 _
def aei:=bj func380 ntmps380 results380 _
def agp:=bj func381 ntmps381 results381 _
def agu:=bj func385 ntmps385 results385 _
def acp:=bj func386 ntmps386 results386 _
def adJ:=bj func387 ntmps387 results387 _
def aes:=bj func388 ntmps388 results388 _
def agc:=bj func389 ntmps389 results389 _
def ac9:=bj func390 ntmps390 results390 _
abbrev abS:bN:=aa4.lc
abbrev L44:bN:=S44.lc
end Go.Px
