/- Part 4 of the proof of a statement of this seat (a logic of pure contracts; the functions; their contracts). No conditions. -/
import Derived.Test.YtbpalbakembgiaaGreatDoorA3
import Derived.RecoverIn
import Derived.Test.YtbpalbakembgiaaGreatDoorProg
import Derived.HandedShaped
import Derived.LaidMore
import Derived.Lay
import Derived.Stop.Joined
import Derived.Shelf.Strconv.Itoa3
import Derived.Shelf.Strconv.AtoiAll
import Derived.Shelf.Strings.Split
import Derived.Shelf.Strings.Cut
import Derived.Shelf.Strings.IndexAnyAll
import Derived.Shelf.Strings.OnBuilder
import Derived.Ground.NamesProg
import Derived.SevenTiedAt
import Derived.Test.YtbpalbakembgiaaGreatDoorTie
import Derived.Test.YtbpalbakembgiaaGreatDoorCards
set_option linter.all false
open And renaming intro->ds
open Array renaming replicate->e6
open Bool renaming and_eq_true->bl,not_eq_true'->cb,eq_iff_iff->ew,true_and->fe
open ByteArray renaming size->ea,mk->hI
open Go.ChangeSpec renaming post_blind->fk
open Go.DataW renaming trod->eM
open Go.DataW.Whole renaming of_heap->gm
open Go.DataW.agg renaming injEq->hz
open Go.DataW.lit renaming injEq->hC
open Go.Deferred renaming ofValue->hr
open Go.Fence renaming wide->ec
open Go.Instr renaming typeAssert->er
open Go.Lib renaming atoiAll->fy,cut->gX
open Go.MakeChecks renaming laidMetH_plain->fb
open Go.Op renaming equalIn->eS,equal->hH
open Go.OpenSpec renaming ofChange->e4
open Go.Proofs.Lays renaming n153->gx,n156->gM
open Go.Proofs.LaysC renaming n172->fr
open Go.Proofs.LaysM renaming n145->fu,n146->fv,n171->fx
open Go.Proofs.Tryz renaming prog->an,underlying184->eT,underlying3->e5
open Go.RowKit renaming Below->fj
open Go.RowKit.Below renaming refl->hp
open Go.Shelf renaming Ren->cc
open Go.Utf8 renaming decode->bI
open Go.World renaming cell?->ga,var?->gR
open List renaming getElem?_eq_some_iff->ap,perm_append_comm->az,getElem?_eq_getElem->bk,map_append->bm,append_assoc->bs,take_of_length_le->bx,getElem?_map->bA,nodup_append->cd,take_add_one->cr,getElem?_eq_none->cy,take_append_drop->de,length_cons->dn,drop_drop->ej,drop_eq_getElem_cons->ek,drop_eq_nil_of_le->eu,mem_append->ey,mem_singleton->eP,size_toArray->eU,length_map->e7,mem_cons->ff,range->gQ
open List.Perm renaming of_eq->hE,swap->hG
open List.Sublist renaming refl->hj
open List.cons renaming injEq->hF
open List.range renaming loop->e8
open Nat renaming eq_of_beq_eq_true->dk,beq->en,beq_refl->e3,le_refl->fD,ble->ho
open Option renaming map_eq_some_iff->cx,bind_eq_some_iff->et,map_some->e9
open Option.some renaming inj->bn,injEq->bt
set_option maxRecDepth 100000
set_option maxHeartbeats 8000000
namespace Go.Px
variable {a:Nat}{c:List PanicEntry->Env->av->List Nat->Prop}{e:Type}{g:av->Env->Prop}{m:List PanicEntry->av->Env->Prop}{w:World}{h:Env->av->List Nat->Prop}{o:Program}{s:List ResultVar}{u:List AV}{v:AV->Prop}{z:aQ}{A:av}{C:FuncId}{E:Array (String×TypeId)}{F:List (Nat×Bool)->Prop}{G:Option Nat}{M:AV}{O:List PanicEntry}{R:Value}{V:List Nat}{W:av->Prop}{X:List (List AV)}{Y:List (Nat×AV)}{Z:Bool}
variable {i n:Nat}{S:aI}{es:List (List AV)}{env':Env}{H H':av}{p:AV}{gs:List (Nat×Bool)}{ls:List aQ}{f:FuncId}
structure Ob (p:Prop):Prop where
 h:p
structure O5 (p:Prop):Prop where
 h:p
def Fq (a:Nat):Prop:=False
def FX (P:Program)(f:FuncId)(args:List AV)(Hin:av)(c:Bool)(res:AV)(Ho:av)(ch:List PanicEntry)(RP:av->Prop):Prop:=
 EvX P f args Hin (λo h=>(c=true/\o= .ret res/\h=Ho)\/(c=false/\o= .pan ch/\RP h))
def B7 (P:Program)(f:FuncId)(args:List AV)(Hin:av)(res:Nat->AV)(Ho:Nat->av):Prop:=iM P f args Hin (λr h=> ∃b,r=res b/\h=Ho b)
def Ji (P:Program)(f:FuncId)(args:List AV)(Hin:av)(res:Nat->Nat->AV)(Ho:Nat->Nat->av):Prop:=iM P f args Hin (λr h=> ∃b c,r=res b c/\h=Ho b c)
inductive VH (P:Program) where
 |i (h:Hint)
 |ev {f:FuncId} {args:List AV} {res:AV} (h:Ev P f args res)
 |bo {f:FuncId} {args:List AV} {res:AV} (h:Ev P f args res)
 |r {f:FuncId} {args:List AV} {Hin:av} {R:AV->av->Prop} (i:Nat) (h:iM P f args Hin R)
 |u {f:FuncId} {args:List AV} {Hin:av} {c:Bool} {res:AV} {Ho:av} {ch:List PanicEntry} {RP:av->Prop} (i:Nat) (h:FX P f args Hin c res Ho ch RP)
 |b {f:FuncId} {args:List AV} {Hin:av} {res:Nat->AV} {Ho:Nat->av} (i:Nat) (h:B7 P f args Hin res Ho)
 |g (t:Nat) (e b:Bool)
 |sh
 |sT (t:Nat)
 |fT (i t:Nat)
 |fA (i j p:Nat)
 |wk (i:Nat)
 |cp (i:Nat)
 |fz (t:Nat)
 |pk (t:Nat)
 |b2 {f:FuncId} {args:List AV} {Hin:av} {res:Nat->Nat->AV} {Ho:Nat->Nat->av} (i:Nat) (h:Ji P f args Hin res Ho)
 |mk
 |fm (i t:Nat)
 |uS (i t:Nat)
 |fM (i j p:Nat)
 |up (i:Nat) (o:Option Nat)
 |sw
 |ba {f:FuncId} {args:Nat->Nat->Nat->Nat->List AV} {Hin:Nat->Nat->Nat->Nat->av} {res:Nat->Nat->AV} {Ho:Nat->Nat->Nat->Nat->Nat->Nat->av} (i:Nat) (h: ∀x y z c,Ji P f (args x y z c) (Hin x y z c) res (Ho x y z c))
def wU (H:av)(i:Nat):Nat:=match H[i]? with
 |some (b,_)=>b
 |none=>0
def SW (H:av)(i:Nat):Nat:=match H[i]? with
 |some (_,.arr _ _ c _)=>c
 |_=>0
def uq (l:aQ):Nat:=match l.dst with
 |some d=>d
 |none=>match l.op with
  | .store _ (.tmp t) _ _=>10000+t
  | .call f _ _=>20000+f
  | .kV (.tmp t) _ _=>30000+t
  | .panic (.tmp t)=>40000+t
  | .jH _ _ _ _ _ _=>60000
  |_=>50000
section
variable {P:Program}{r:Option Nat}{N:Nat}{env:Env}{D:List Nat}{dst:Option Nat}{K:Env->av->List Nat->Prop}{KP:List PanicEntry->Env->av->List Nat->Prop}{Q:dl}{l:kK}
theorem ni.oj {i:List Nat}(h:bO env H D env' H' i)(k:ni P r N l dst env' H' i K KP):ni P r N l dst env H D K KP:=by
 intro o q s t C a w S L h4 hs next Q u v
 obtain⟨n,j,c,f⟩:=h C a w S L hs;exact k o q s t C a w n j h4 f next Q (λe H d y w' p m hk g b=>u e H d y w' p m hk g (c.trans b)) v
def fz1 (env:Env):Operand->Env
 | .tmp t=>match env t with
  | .aT _ k es=>eC env t (.sl k es)
  | .eR _ cs=>eC env t (.pi cs)
  | .gT _ k es _ _=>eC env t (.sl k es)
  |_=>env
 |_=>env
def fzL (env:Env):List Operand->Env
 |[]=>env
 |x::xs=>fzL (fz1 env x) xs
def zm:kK->List Operand
 | .call _ xs _=>xs
 | .kV _ xs _=>xs
 |_=>[]
theorem bO.DC {T k t:Nat}{a:Option Addr}{c:Nat}(h:env t= .gT T k es a c):bO env H D (eC env t (.sl k es)) H D:=(bO.Ms h).trans (by have:=bO.gp (H:=H) (D:=D) (env:=eC env t (.aT T k es)) (t:=t) (bN _ _ _);rwa [eX] at this)
theorem H6 (x:Operand):bO env H D (fz1 env x) H D:=by
 cases x with
 |tmp t=>simp only[fz1];split;rename_i h;exact bO.gp h;rename_i h;exact bO.jL h;rename_i h;exact bO.DC h;exact bO.refl _ _ _
 |_=>exact bO.refl _ _ _
theorem BZ: ∀(xs:List Operand) {env:Env},bO env H D (fzL env xs) H D
 |[],_=>bO.refl _ _ _
 |x::xs,_=>(H6 x).trans (BZ xs)
def xN:List AV->List AV->Prop
 |[],[]=>True
 |p::ps,q::a=>Ob (fK p q)/\xN ps a
 |_,_=>False
def acC (env:Env)(H:av):List AV->List AV->Prop
 |[],[]=>True
 |p::ps,q::a=>Ob (jC env H p q)/\acC env H ps a
 |_,_=>False
theorem xO: ∀{ps a:List AV},xN ps a->fp fK ps a
 |[],[],_=>trivial
 |_::_,_::_,h=>⟨h.1.h,xO h.2⟩
 |[],_::_,h=>h.elim
 |_::_,[],h=>h.elim
theorem Pp: ∀{ps a:List AV},acC env H ps a->fp (jC env H) ps a
 |[],[],_=>trivial
 |_::_,_::_,h=>⟨h.1.h,Pp h.2⟩
 |[],_::_,h=>h.elim
 |_::_,[],h=>h.elim
def ZE (env:Env)(f:FuncId)(l:kK)(k:List AV->Prop):Prop:=match l with
 | .call g xs _=>Ob (g=f)/\(bif pU (xs.map (bG env))then k (xs.map (bG env))else False)
 | .kV x xs _=>match bG env x with
  | .fn (.func g) first a=>Ob (g=f)/\(bif pU (xs.map (bG env))then k (first++xs.map (bG env)++a)else False)
  |_=>False
 |_=>False
theorem wW {b:Env->av->List Nat->Prop}{k:List AV->Prop}(h:ZE env f l k)(hk: ∀ps,k ps->qu P f dst env H D b KP ps):ni P r N l dst env H D b KP:=by
 unfold ZE at h;split at h
 ·rename_i g xs d;obtain⟨⟨rfl⟩,h⟩:=h;cases a:pU (xs.map (bG env)) <;>rw[a]at h;exact h.elim;exact ni.OX a (hk _ h)
 ·rename_i x xs d;split at h
  ·rename_i g first c hx;obtain⟨⟨rfl⟩,h⟩:=h;cases a:pU (xs.map (bG env)) <;>rw[a]at h;exact h.elim;exact ni.Hg hx a (hk _ h)
  exact h.elim
 exact h.elim
def xo (H:av)(i n:Nat)(G:av):av:=H.take i++(G++H.drop (i+n))
theorem OH (h:(H.drop i).take A.length=A):H.Perm (A++(H.take i++H.drop (i+A.length))):=by
 have e:H=H.take i++(A++H.drop (i+A.length)):=by conv=>lhs;rw[<-de i H,<-de A.length (H.drop i),h,ej]
 exact(hE e).trans (by
  rw[<-bs,<-bs]
  exact az.append_right _)
theorem Ef:(A++(H.take i++H.drop (i+n))).Perm (xo H i n A):=by unfold xo;rw[<-bs,<-bs];exact az.append_right _
def qV (x:Value)(k:Value->Prop):Prop:=match x with
 | .int a n=>k (.int a n)
 | .bool b=>k (.bool b)
 | .string s=>k (.string s)
 |x=>k x
def qE (p:AV)(k:AV->Prop):Prop:=match p with
 | .v x=>qV x λx=>k (.v x)
 | .agg l=>k (.agg l)
 | .sl a b=>k (.sl a b)
 | .pi c=>k (.pi c)
 | .po a b=>k (.po a b)
 | .so a b c=>k (.so a b c)
 | .fn a b c=>k (.fn a b c)
 |p=>k p
def qL:List AV->(List AV->Prop)->Prop
 |[],k=>k []
 |p::l,k=>qE p λp=>qL l λl=>k (p::l)
def qLL:List (List AV)->(List (List AV)->Prop)->Prop
 |[],k=>k []
 |p::l,k=>qL p λp=>qLL l λl=>k (p::l)
def qA (p:AV)(k:AV->Prop):Prop:=match p with
 | .agg l=>qL l λl=>k (.agg l)
 | .pi l=>qL l λl=>k (.pi l)
 | .eR T l=>qL l λl=>k (.eR T l)
 |p=>qE p k
def qB (p:AV)(k:AV->Prop):Prop:=match p with
 | .sl a l=>qLL l λl=>k (.sl a l)
 | .aT T a l=>qLL l λl=>k (.aT T a l)
 |p=>k p
def qF (p:AV)(k:AV->Prop):Prop:=match p with
 | .fn f a b=>qL a λa=>qL b λb=>k (.fn f a b)
 |p=>k p
def qOp (op:kK)(p:AV)(k:AV->Prop):Prop:=match op with
 | .load _ _ _=>qA p k
 | .build _ _ _ _=>qA p k
 | .alloc _ _=>qA p k
 | .box _ _=>qA p k
 | .store _ _ _ _=>qA p k
 | .field _ _ _ _ _=>qA p k
 | .kH _ _ _ _ _ _=>qA p k
 | .jM _ _ _ _ _ _=>qB p k
 | .yM _ _ _=>qF p k
 |_=>k p
def qW (op:kK):List (Nat×AV)->(List (Nat×AV)->Prop)->Prop
 |[],k=>k []
 |(d,p)::W,k=>qOp op p λp=>qW op W λW=>k ((d,p)::W)
def qH:av->(av->Prop)->Prop
 |[],k=>k []
 |(b,.cells T cs)::H,k=>qL cs λcs=>qH H λH=>k ((b,.cells T cs)::H)
 |(b,x)::H,k=>qH H λH=>k ((b,x)::H)
def qHp (op:kK)(H:av)(k:av->Prop):Prop:=match op with
 | .store _ _ _ _=>qH H k
 |_=>k H
theorem afc {x:Value}{k:Value->Prop}(h:qV x k):k x:=by unfold qV at h;split at h<;>exact h
theorem aaI {k:AV->Prop}(h:qE p k):k p:=by unfold qE at h;split at h;exact afc h;all_goals exact h
theorem rN: ∀{l:List AV} {k:List AV->Prop},qL l k->k l
 |[],_,h=>h
 |_::l,_,h=>rN (l:=l) (aaI h)
theorem Cj: ∀{l:List (List AV)} {k:List (List AV)->Prop},qLL l k->k l
 |[],_,h=>h
 |_::l,_,h=>Cj (l:=l) (rN h)
theorem ael {k:AV->Prop}(h:qA p k):k p:=by unfold qA at h;split at h;exact rN h;exact rN h;exact rN h;exact aaI h
theorem adL {k:AV->Prop}(h:qB p k):k p:=by unfold qB at h;split at h;exact Cj h;exact Cj h;exact h
theorem aeT {k:AV->Prop}(h:qF p k):k p:=by unfold qF at h;split at h;exact rN (rN h);exact h
theorem ac3 {k:AV->Prop}(h:qOp l p k):k p:=by unfold qOp at h;split at h;all_goals first|exact ael h|exact adL h|exact aeT h|exact h
theorem IY {op:kK}: ∀{W:List (Nat×AV)} {k:List (Nat×AV)->Prop},qW op W k->k W
 |[],_,h=>h
 |(_,_)::W,_,h=>IY (W:=W) (ac3 h)
theorem pT: ∀{H:av} {k:av->Prop},qH H k->k H
 |[],_,h=>h
 |(b,x)::H,k,h=>by
  cases x with
  |cells T cs=>exact pT (H:=H) (k:=λH=>k ((b,.cells T cs)::H)) (rN h)
  |_=>exact pT (H:=H) (k:=λH=>k ((b,_)::H)) h
theorem Mc {k:av->Prop}(h:qHp l H k):k H:=by unfold qHp at h;split at h;exact pT h;exact h
def vcl (h:VH P)(l:aQ)(H:av)(env:Env)(k:av->Env->Prop)(d:List PanicEntry->av->Env->Prop):Prop:=match h with
 | .ev (f:=f) (args:=a) (res:=res) _=>ZE env f l.op λps=>xN ps a/\k H (cP env l.dst res)
 | .bo (f:=f) (args:=a) (res:=res) _=>ZE env f l.op λps=>Ob (res.tv=true)/\acC env H ps a/\k H (cP env l.dst res)
 | .r (f:=f) (args:=a) (Hin:=G) (R:=R) i _=>ZE env f l.op λps=>xN ps a/\Ob ((H.drop i).take G.length=G)/\ ∀res Ho,R res Ho->qH (xo H i G.length Ho) λH=>k H (cP env l.dst res)
 | .b (f:=f) (args:=a) (Hin:=G) (res:=res) (Ho:=Ho) i _=>ZE env f l.op λps=>xN ps a/\Ob ((H.drop i).take G.length=G)/\ ∀b,qH (xo H i G.length (Ho b)) λH=>k H (cP env l.dst (res b))
 | .b2 (f:=f) (args:=a) (Hin:=G) (res:=res) (Ho:=Ho) i _=>ZE env f l.op λps=>xN ps a/\Ob ((H.drop i).take G.length=G)/\ ∀b c,qH (xo H i G.length (Ho b c)) λH=>k H (cP env l.dst (res b c))
 | .ba (f:=f) (args:=a) (Hin:=G) (res:=res) (Ho:=Ho) i _=>ZE env f l.op λps=>xN ps (a (wU H i) (wU H (i+1)) (wU H (i+2)) (SW H (i+2)))/\
  Ob ((H.drop i).take (G (wU H i) (wU H (i+1)) (wU H (i+2)) (SW H (i+2))).length=G (wU H i) (wU H (i+1)) (wU H (i+2)) (SW H (i+2)))/\
  ∀b c,qH (xo H i (G (wU H i) (wU H (i+1)) (wU H (i+2)) (SW H (i+2))).length (Ho (wU H i) (wU H (i+1)) (wU H (i+2)) (SW H (i+2)) b c)) λH=>k H (cP env l.dst (res b c))
 | .u (f:=f) (args:=a) (Hin:=G) (c:=c) (res:=res) (Ho:=Ho) (ch:=ch) (RP:=RP) i _=>ZE env f l.op λps=>xN ps a/\Ob ((H.drop i).take G.length=G)/\
  (c=true->qH (xo H i G.length Ho) λH=>k H (cP env l.dst res))/\(c=false-> ∀h,RP h->d ch (xo H i G.length h) env)
 |_=>False
def isU:VH P->Bool
 | .u _ _=>true
 |_=>false
theorem qu.pre {g:Env->av->List Nat->Prop}{ps:List AV}{d:List Nat}(h:bO env H D env' H' d)(k:qu P f dst env' H' d g KP ps):qu P f dst env H D g KP ps:=λC a w S L hs hd t s=>by
 obtain⟨l,i,b,c⟩:=h C a w S L hs;have k:=k C a w l i c hd t (aS.mono b _ _ s);exact⟨k.1,k.2.mono λe w' h=>h.imp_left λ⟨v,q,r,d1,m,j,a1,n,o,p⟩=>⟨v,q,r,d1,m,j,a1,n,o,b.trans p⟩⟩
theorem qu.out {n:Env->av->List Nat->Prop}{ps:List AV}(k:qu P f dst env H D (λe h d=> ∃g i b,bO e h d g i b/\n g i b) (λc e h d=> ∃g i b,bO e h d g i b/\KP c g i b) ps):qu P f dst env H D n KP ps:=λC a w S L hs hd B A=>by
 have k:=k C a w S L hs hd B A;refine⟨k.1,k.2.mono ?_⟩;rintro e w' (⟨v,y,z,d1,t,s,a1,⟨l,m,d2,r,j⟩,q,u⟩|⟨v,y,z,d1,t,s,a1,⟨l,m,d2,r,j⟩,q⟩)<;>obtain⟨p,o,x,b2⟩:=r _ _ _ _ _ q;exact .inl ⟨v,l,m,d2,p,o,a1,j,b2,u.trans x⟩;exact .inr ⟨v,l,m,d2,p,o,a1,j,b2⟩
theorem Ym {k:av->Env->Prop}{b ps:List AV}{R:AV->av->Prop}(a:iM P f b A R)(hs:xN ps b)(c:Ob ((H.drop i).take A.length=A))(g: ∀res Ho,R res Ho->qH (xo H i A.length Ho) λH=>k H (cP env dst res)):qu P f dst env H D (λe h d=>k h e/\d=D) KP ps:=
 .pre (bO.perm (OH c.h)) (.out (a.ym (λ_ _=>nJ (xO hs)) λres Ho j=>⟨_,_,_,bO.perm Ef,pT (g res Ho j),zz⟩))
theorem Lk {h:VH P}{l:aQ}{k:av->Env->Prop}{j:List PanicEntry->av->Env->Prop}(f:vcl h l H env k j):ni P r N l.op l.dst env H D (λe h d=>k h e/\d=D) (λc e h d=>j c h e/\d=D)/\
  (isU h=false->aO P r N l.op l.dst env H D (λe h d=>k h e/\d=D)):=by
 have one:aO P r N l.op l.dst env H D (λe h d=>k h e/\d=D)->ni P r N l.op l.dst env H D (λe h d=>k h e/\d=D) (λc e h d=>j c h e/\d=D)/\
  (isU h=false->aO P r N l.op l.dst env H D (λe h d=>k h e/\d=D)):=λh=>⟨h.toX,λ_=>h⟩
 obtain⟨dst,g,op⟩:=l;dsimp only at one f ⊢;unfold vcl at f;split at f
 ·rename_i a;exact one (wW f λps h=>a.ym (λ_ _=>nJ (xO h.1)) ⟨h.2,zz⟩).So
 ·rename_i a;exact one (wW f λps h=>a.IQ (Pp h.2.1) h.1.h ⟨h.2.2,zz⟩).So
 ·rename_i a;exact one (wW f λps h=>Ym a h.1 h.2.1 h.2.2).So
 ·rename_i a;exact one (wW f λps h=>Ym a h.1 h.2.1 (by rintro _ _ ⟨b,rfl,rfl⟩;exact h.2.2 b)).So
 ·rename_i a;exact one (wW f λps h=>Ym a h.1 h.2.1 (by rintro _ _ ⟨b,c,rfl,rfl⟩;exact h.2.2 b c)).So
 ·rename_i a;exact one (wW f λps h=>Ym (a _ _ _ _) h.1 h.2.1 (by rintro _ _ ⟨b,c,rfl,rfl⟩;exact h.2.2 b c)).So
 ·rename_i a;refine⟨wW f λps h=>.pre (bO.perm (OH h.2.1.h)) (.out (a.ym (λ_ _=>nJ (xO h.1)) ?_ ?_)),λe=>by simp [isU]at e⟩
  rintro o i (⟨hc,he,rfl⟩|⟨_,he,_⟩)<;>cases he;exact⟨_,_,_,bO.perm Ef,pT (h.2.2.1 hc),zz⟩
  rintro n i (⟨_,he,_⟩|⟨hc,he,m⟩)<;>cases he;exact⟨_,_,_,bO.perm Ef,h.2.2.2 hc _ m,zz⟩
 exact f.elim
def vg1 (gs:List (Nat×Bool))(env:Env)(o:Option Nat)(k:List (Nat×Bool)->Prop):Prop:=match o with
 |none=>k gs
 |some t=>match tO gs t with
  |some _=>k gs
  |none=>match env t with
   | .v (.bool e)=>(e=true->k ((t,true)::gs))/\(e=false->k ((t,false)::gs))
   |_=>k gs
theorem U2 {o:Option Nat}{k:List (Nat×Bool)->Prop}(h:vg1 gs env o k): ∃a,k a:=by unfold vg1 at h;split at h;exact⟨_,h⟩;grind
def Ww:kK->Option Nat
 | .pick (.tmp t) _ _=>some t
 |_=>none
def obA:Option Prop->Prop->Prop
 |none,q=>q
 |some p,q=>Ob p/\q
theorem Ie {o:Option Prop}{q:Prop}(h:obA o q):Lg o/\q:=by
 cases o with
 |none=>exact⟨zq,h⟩
 |some p=>exact⟨h.1.h,h.2⟩
def vI:List (VH P)->List Hint
 |[]=>[]
 | .i h::l=>h::vI l
 | .ev (args:=a) (res:=res) _::l=>.yt a res::vI l
 | .bo (args:=a) (res:=res) _::l=>.H9 a res::vI l
 |_::l=>vI l
def adY (l:kK)(env:Env):List Hint:=match l with
 | .box _ _=>[.bY]
 | .alloc _ _=>[.aT]
 | .jM _ _ _ _ _ _=>[.bY]
 | .load _ _ _=>[.at 0]
 | .store _ _ _ _=>[.iL 0]
 | .qx _ x i _=>(match bG env x,bG env i with
  | .sl _ es,.v (.int _ n)=>(match es[n.toNat]? with
   |some e=>[.cells e]
   |none=>[])
  |_,_=>[])
 |_=>[]
def Mp (hs:List (VH P))(l:kK)(env:Env):List Hint:=match hs with
 |[]=>adY l env
 |[.sh]=>[.aT]
 |hs=>vI hs
def vsh (hs:List (VH P))(d:Option Nat)(k:av->Env->Prop)(H:av)(env:Env):Prop:=match hs with
 |[.sh]=>(match d with
  |some d=>(match env d with
   | .eR T cs=> ∀b,k (H++[(b,.cells T cs)]) (eC env d (.po b 0))
   |_=>False)
  |none=>False)
 |_=>k H env
def Q5:List AV->Option (List Value)
 |[]=>some []
 | .v x::l=>(Q5 l).map (x:: ·)
 | .fn f [] []::l=>(Q5 l).map (.func f #[] #[]:: ·)
 |_=>none
def SD:AV->Option Value
 | .agg l=>(Q5 l).map λa=>.agg a.toArray
 |p=>valOf p
theorem Ew : ∀{l:List AV} {b cs:List Value},Q5 l=some b->aS S l cs->cs=b
 |[],b,cs,h,r=>by simp only[Q5,bt]at h;simp only[aS]at r;rw[r,h]
 |p::l,b,cs,h,r=>by simp only[aS]at r;obtain⟨c,j,rfl,a,i⟩:=r;unfold Q5 at h;split at h;rename_i e;cases e;rename_i x n e;cases e;obtain⟨g,d,rfl⟩:=cx.1 h;simp only[bf]at a;rw[a,Ew d i];rename_i f n e;cases e;obtain⟨g,d,rfl⟩:=cx.1 h;simp only[bf,aS]at a;obtain⟨o,k,m,rfl,rfl⟩:=a;rw[m,Ew d i];cases h
theorem UW {u y:Value}(h:SD p=some u)(r:bf S p y):y=u:=by unfold SD at h;split at h;obtain⟨b,a,rfl⟩:=cx.1 h;simp only[bf]at r;obtain⟨cs,rfl,r⟩:=r;rw[Ew a r];exact nD h r
theorem Vm {u:Value}(h:SD p=some u):p.bT=false:=by unfold SD at h;split at h;rfl;exact nv h
def Lw:Value->AV
 | .agg cs=>.agg (cs.toList.map .v)
 | .func f a b=>.fn f (a.toList.map .v) (b.toList.map .v)
 |v=>.v v
def Bv (P:Program)(A:TypeId):Bool:=match P.underlying A with
 |some (.interface _)=>false
 |some _=>true
 |none=>false
def Ag (P:Program)(A:TypeId):Bool:=match P.underlying A with
 |some (.interface _)=>true
 |_=>false
def sliceB (P:Program)(A:TypeId):Bool:=match P.underlying A with
 |some (.slice _)=> !(P.eqGuardType P.depth A)
 |_=>false
def vsp (P:Program)(l:kK)(env:Env):Option (AV×Bool):=match l with
 | .pK neg T x (.const .nilIface)=>(match bG env x with
  | .v .nilIface=>some (B (!neg),Ag P T)
  | .v (.iface _ _)=>some (B neg,Ag P T)
  | .Zk _ _=>some (B neg,Ag P T)
  |_=>none)
 | .RC T x=>(SD (bG env x)).map λu=>(.v (.iface T u),true)
 | .Cg x _ A ok=>match bG env x with
  | .v (.iface t u)=>bif en t A then some (bif ok then .cG [Lw u,B true]else Lw u,Bv P A)else(bif ok then some (.cG [.any,B false],Bv P A&&(zeroOf P A).isSome)else none)
  |_=>none
 |_=>none
theorem KY (S:aI)(u:Value):bf S (Lw u) u/\(Lw u).bT=false:=by unfold Lw;split;rename_i cs;exact⟨by simp only[bf];exact⟨cs.toList,aF,sM S _⟩,zz⟩;rename_i f a b;exact⟨by simp only[bf];exact⟨a.toList,b.toList,aF,sM S _,sM S _⟩,zz⟩;exact⟨by simp [bf],zz⟩
theorem L9 {T:Nat}{m:Array (String×TypeId)}(a:P.underlying T=some (.interface m))(d:Nat)(w:World):(eS (d+1) T .nilIface .nilIface).run P w= .ok true w:=by simp [eS,underlying,a]
theorem Lr {T:Nat}{m:Array (String×TypeId)}(a:P.underlying T=some (.interface m))(d:Nat)(t:TypeId)(u:Value)(w:World):(eS (d+1) T (.iface t u) .nilIface).run P w= .ok false w:=by simp [eS,underlying,a]
theorem CT {c:Bool}(h:vsp P l env=some (p,c))(hc:c=true)(k:K (cP env dst p) H D):aO P r N l dst env H D K:=by
 unfold vsp at h;split at h;rename_i neg T x;have hd: ∀{c:Bool},Ag P T=c->c=true-> ∃m,P.underlying T=some (.interface m):=by rintro c rfl e;unfold Ag at e;split at e;rename_i m hm;exact⟨m,hm⟩;cases e
 have J: ∀(w:World) (m:Array (String×TypeId)),P.underlying T=some (.interface m)->(hH T .nilIface .nilIface).run P w= .ok true w:=λw m i=>L9 i 9999 w;have G: ∀(w:World) (m:Array (String×TypeId)) (t:TypeId) (u:Value),P.underlying T=some (.interface m)->(hH T (.iface t u) .nilIface).run P w= .ok false w:=λw m t u i=>Lr i 9999 t u w;split at h;rename_i hx;simp at h;obtain⟨rfl,n⟩:=h;obtain⟨m,i⟩:=hd n hc;refine aO.pure zz aF (λo b C a w S L hs=>⟨.bool (!neg),?_,by simp [bf]⟩) k;have g:=hs.int hx;cases b with
 |pK f _=>have j:a.eval (.const .nilIface)= .nilIface:=rfl;cases neg<;>simp [execOp,f,g,j,eqGuard,binOp,J w m i]
 rename_i t u hx;simp at h;obtain⟨rfl,n⟩:=h;obtain⟨m,i⟩:=hd n hc;refine aO.pure zz aF (λo b C a w S L hs=>⟨.bool neg,?_,by simp [bf]⟩) k;have g:=hs.int hx;cases b with
 |pK f _=>have j:a.eval (.const .nilIface)= .nilIface:=rfl;cases neg<;>simp [execOp,f,g,j,eqGuard,binOp,G w m t u i]
 rename_i t q hx;simp at h;obtain⟨rfl,n⟩:=h;obtain⟨m,i⟩:=hd n hc;refine aO.pure zz aF (λo b C a w S L hs=>⟨.bool neg,?_,by simp [bf]⟩) k;have y:=hs.dM x hx zz;simp only[bf]at y;obtain⟨u,g,_⟩:=y;cases b with
 |pK f _=>have j:a.eval (.const .nilIface)= .nilIface:=rfl;cases neg<;>simp [execOp,f,g,j,eqGuard,binOp,G w m t u i]
 cases h
 rename_i T x;simp at h;obtain⟨u,I,rfl,rfl⟩:=h;refine aO.pure zz aF (λo b C a w S L hs=>⟨.iface T u,?_,by simp [bf]⟩) k;have g:=UW I (hs.dM x zz (Vm I));cases b with
 |RC f i hd=>rename_i d;cases d<;>first|exact absurd rfl (hd _)|simp [execOp,f,g,Instr.makeInterface,underlying,i]
 rename_i x T A ok;split at h;rename_i t u hx;have hd:Bv P A=true-> ∃d,P.underlying A=some d/\ ∀m,d≠.interface m:=(by intro e;unfold Bv at e;split at e;cases e;rename_i d B E;exact⟨d,E,λm e=>B m e⟩;cases e);cases s:en t A with
 |true=>
  have:=dk s;subst this;rw[s]at h;simp at h;obtain⟨rfl,rfl⟩:=h;obtain⟨d,i,hd⟩:=hd hc;cases ok with
  |true=>
   refine aO.pure zz aF (λo b C a w S L hs=>⟨.tuple #[u,.bool true],?_,by
    simp
    exact⟨[u,.bool true],zz,by simp only[aS];exact⟨u,_,zz,(KY S u).1,.bool true,[],zz,by simp [bf],zz⟩⟩⟩) k
   have g:=hs.int hx;cases b with
   |Cg f=>cases d<;>first|exact absurd rfl (hd _)|simp [execOp,f,g,er,underlying,i]
  |false=>
   refine aO.pure (show (Lw u).bT=false by unfold Lw;split<;>rfl) aF (λo b C a w S L hs=>⟨u,?_,(KY S u).1⟩) k;have g:=hs.int hx;cases b with
   |Cg f=>cases d<;>first|exact absurd rfl (hd _)|simp [execOp,f,g,er,underlying,i]
 |false=>
  rw[s]at h;cases ok with
  |false=>cases h
  |true=>
   simp at h;obtain⟨rfl,rfl⟩:=h;simp only[bl,Option.isSome_iff_exists]at hc;obtain⟨d,i,hd⟩:=hd hc.1;obtain⟨z,O⟩:=hc.2;have F: ¬t=A:=λe=>(by subst e;rw[e3]at s;cases s);refine aO.pure zz aF (λo b C a w S L hs=>?_) k;have g:=hs.int hx;obtain⟨v,M,_⟩:=kN (w:=w) O;refine⟨.tuple #[v,.bool false],?_,by
    simp only[bf]
    exact⟨[v,.bool false],zz,by simp only[aS];exact⟨v,_,zz,by simp [bf],.bool false,[],zz,by simp [bf],zz⟩⟩⟩
   cases b with
   |Cg f=>cases d<;>first|exact absurd rfl (hd _)|simp [execOp,f,g,er,underlying,i,F,M]
 cases h
 cases h
def vho (P:Program)(hs:List (VH P))(gs:List (Nat×Bool))(l:aQ)(H:av)(env:Env)(k:av->Env->Prop):Prop:=match Fu P gs H (Mp hs l.op env) l env with
 |some (W,a,_,b)=>obA b (qW l.op W λW=>qHp l.op a λa=>vsh hs l.dst k a (fV env W))
 |none=>Fq (uq l)
def vgd (gs:List (Nat×Bool))(env:Env)(l:aQ)(u:Bool)(skip run:Prop):Prop:=match l.guard with
 |none=>run
 |some (t,b)=>bif u then False else match env t with
  | .v (.bool e)=>(match tO gs t with
   |some c=>Ob (e=c)/\(bif Bool.xor c b then skip else run)
   |none=>False)
  | .v (.tuple _)=>skip
  |_=>False
def qBd (cs:List AV):List (Nat×Nat×AV)->(List AV->Prop)->Prop
 |[],k=>k cs
 |(off,size,p)::a,k=>qL (ct p) λc=>bif p.cS&&c.length==size&&ho (off+c.length) cs.length then qL (bU cs off c) λcs=>qBd cs a k else False
theorem Cm: ∀{l cs:List AV} {off:Nat},off+l.length<=cs.length->qX cs off l=bU cs off l
 |[],cs,off,_=>by simp [qX,bU]
 |c::l,cs,off,h=>by
  simp only[dn]at h;simp only[qX];rw[Cm (by rw[List.length_set];omega)];unfold bU;rw[List.set_eq_take_append_cons_drop,zy af];have a:(cs.take off).length=off:=by rw[List.length_take];omega
  rw[List.take_append,a,bx af,show off+1-off=1 from af,List.take_succ_cons,List.take_zero,List.drop_append,a,eu af,show off+1+l.length-off=(0+l.length)+1 from af,List.drop_succ_cons,ej,dn];simp only[bs,List.nil_append,List.cons_append];rw[show off+1+(0+l.length)=off+(l.length+1)from af]
theorem G0: ∀{l:List (Nat×Nat×AV)} {cs:List AV} {k:List AV->Prop},qBd cs l k-> ∃q,iK cs l=some q/\k q
 |[],cs,k,h=>⟨cs,zz,h⟩
 |(off,size,p)::a,cs,k,h=>by
  have h:=rN h;cases b:(p.cS&&(ct p).length==size&&ho (off+(ct p).length) cs.length)with
  |false=>rw[b]at h;exact h.elim
  |true=>rw[b]at h;have e:off+(ct p).length<=cs.length:=(by simp only[bl]at b;exact Nat.le_of_ble_eq_true b.2);have h:qL (bU cs off (ct p)) (λcs=>qBd cs a k):=h;rw[<-Cm e]at h;obtain⟨q,c,d⟩:=G0 (l:=a) (rN (l:=qX cs off (ct p)) h);exact⟨q,by simp only[iK];rw[zy b];exact c,d⟩
def vbs (hs:List (VH P))(l:aQ)(env:Env)(k:Env->Prop):Option Prop:=match l.guard,l.op,l.dst with
 |none,.jM _ n ps E kk z,some d=>(match hs with
  |[]=>some (qL (sA n (z.map .v)) λc0=>qBd c0 (ps.map λp=>(p.1*kk,kk,bG env p.2)) λq=>Ob (q.all AV.dG=true)/\qLL (chunk kk n q) λes=>k (eC env d (.sl kk es)))
  |[.i .aT]=>some (qL (sA n (z.map .v)) λc0=>qBd c0 (ps.map λp=>(p.1*kk,kk,bG env p.2)) λq=>Ob (q.all AV.dG=true)/\qLL (chunk kk n q) λes=>k (eC env d (.aT E kk es)))
  |_=>none)
 |none,.build _ _ z a,some d=>(match hs with
  |[]=>some (qL (z.map .v) λc0=>qBd c0 (a.map λq=>(q.1,q.2.1,bG env q.2.2)) λq=>k (eC env d (.agg q)))
  |_=>none)
 |_,_,_=>none
theorem abp {hs:List (VH P)}{l:aQ}{k:Env->Prop}{p:Prop}(h:vbs hs l env k=some p)(j:p)(hk: ∀env,k env->aY P r N ls Q env H D):aY P r N (l::ls) Q env H D:=by obtain⟨dst,g,op⟩:=l;unfold vbs at h;split at h;rename_i n ps E kk z d a b c;dsimp only at a b c;subst a b c;split at h;simp only[bt]at h;subst h;obtain⟨q,e,⟨i⟩,f⟩:=G0 (rN j);exact aY.cons (aO.GY e i (hk _ (Cj f)));simp only[bt]at h;subst h;obtain⟨q,e,⟨i⟩,f⟩:=G0 (rN j);exact aY.cons (aO.jM e i (hk _ (Cj f)));cases h;rename_i z m d a b c;dsimp only at a b c;subst a b c;split at h;simp only[bt]at h;subst h;obtain⟨q,e,f⟩:=G0 (rN j);exact aY.cons (aO.plain (by simp only[lj];rw[e];rfl) zz (hk _ f));cases h;cases h
def aey (l:kK)(env:Env):Option Value:=match l with
 | .panic x=>match bG env x with
  | .v (.iface T y)=>some (.iface T y)
  |_=>none
 |_=>none
def nlV (P:Program)(l:kK)(env:Env):Option (List (List AV)×Bool):=match l with
 | .pK false T x (.const (.slice none 0 0))=>match bG env x with
  | .sl _ es=>some (es,sliceB P T)
  |_=>none
 |_=>none
theorem adh {c:Bool}(h:nlV P l env=some (es,c))(hc:c=true)(k: ∀b:Bool,(b=true->es=[])->K (cP env dst (B b)) H D):aO P r N l dst env H D K:=by unfold nlV at h;split at h;rename_i T x;split at h;rename_i kk a hx;simp at h;obtain⟨rfl,rfl⟩:=h;unfold sliceB at hc;split at hc;rename_i E d;exact aO.aaW d (by simpa using hc) hx zz k;cases hc;cases h;cases h
def qEs:List (Value×AV)->(List (Value×AV)->Prop)->Prop
 |[],k=>k []
 |x::l,k=>qEs l λl=>k (x::l)
theorem Tl: ∀{l:List (Value×AV)} {k:List (Value×AV)->Prop},qEs l k->k l
 |[],_,h=>h
 |_::l,_,h=>Tl (l:=l) h
def mS:List (VH P)->av->Env->(List (VH P)->av->Env->Prop)->Prop
 | .sT t::hs,H,env,k=>(match env t with
  | .aT T kk es=>(es=[]->mS hs H (eC env t .nil) k)/\ ∀b cap,qH (H++[(b,.arr T kk cap es)]) λH=>mS hs H (eC env t (.so b es.length cap)) k
  | .eR T cs=> ∀b,qH (H++[(b,.cells T cs)]) λH=>mS hs H (eC env t (.po b 0)) k
  |_=>False)
 | .fT i t::hs,H,env,k=>(match H[i]?,env t with
  |some (b,.arr _ kk cap es),.so d n c=>Ob (d=b/\n=es.length/\c=cap)/\qH (H.eraseIdx i) λH=>mS hs H (eC env t (.sl kk es)) k
  |some (b,.cells _ cs),.po d o=>Ob (d=b/\o=0)/\qH (H.eraseIdx i) λH=>mS hs H (eC env t (.pi cs)) k
  |_,.nil=>mS hs H env k
  |_,_=>False)
 | .fA i j p::hs,H,env,k=>(match H[i]?,(H.eraseIdx i)[j]? with
  |some (b,.arr _ kk cap es),some (bo,.cells To cs)=>Ob (cs[p]? =some (.so b es.length cap))/\qH ((H.eraseIdx i).set j (bo,.cells To (cs.set p (.sl kk es)))) λH=>mS hs H env k
  |_,_=>False)
 | .wk i::hs,H,env,k=>qH (H.eraseIdx i) λH=>mS hs H env k
 | .fz t::hs,H,env,k=>mS hs H (fz1 env (.tmp t)) k
 | .pk t::hs,H,env,k=>(match env t with
  | .aT T kk es=> ∀e cap,mS hs H (eC env t (.gT T kk es e cap)) k
  |_=>False)
 | .uS i t::hs,H,env,k=>(match H[i]?,env t with
  |some (b,.arr T kk cap es),.so d n c=>Ob (d=b/\n=es.length/\c=cap)/\qH (H.eraseIdx i) λH=>mS hs H (eC env t (.aT T kk es)) k
  |_,_=>False)
 | .fM i j p::hs,H,env,k=>(match H[i]?,(H.eraseIdx i)[j]? with
  |some (b,.arr _ kk cap es),some (g,.map a)=>(match a[p]? with
   |some (key,q)=>Ob (q= .so b es.length cap)/\qEs (a.take p++(key,.sl kk es)::a.drop (p+1)) λa=>qH ((H.eraseIdx i).set j (g,.map a)) λH=>mS hs H env k
   |none=>False)
  |_,_=>False)
 | .sw::hs,H,env,k=>(match H with
  |x::y::H=>mS hs (y::x::H) env k
  |_=>False)
 | .fm i t::hs,H,env,k=>(match H[i]?,env t with
  |some (b,.map es),.mo d=>Ob (d=b)/\qH (H.eraseIdx i) λH=>mS hs H (eC env t (.mi es)) k
  |_,_=>mS hs H env k)
 |hs,H,env,k=>k hs H env
def vcp (i:Nat)(l:aQ)(H:av)(env:Env)(k:av->Env->Prop):Prop:=match l.guard,l.op with
 |none,.copy _ _ _ x y _ kk=>(match bG env x,H[i]?,bG env y with
  | .so b n c,some (e,.arr f d cap es),.sl a ys=>Ob (e=b/\n=es.length/\c=cap/\d=kk/\a=kk/\ys.length=es.length)/\qH (H.set i (e,.arr f d cap ys)) λH=>k H (cP env l.dst (.v (.int .i64 es.length)))
  | .nil,_,.sl a ys=>Ob (a=kk/\ys=[])/\k H (cP env l.dst (.v (.int .i64 0)))
  |_,_,_=>False)
 |_,_=>False
def vmk (l:aQ)(H:av)(env:Env)(k:av->Env->Prop):Prop:=match l.guard,l.op,l.dst with
 |none,.vY _,some d=> ∀b,k (H++[(b,.map [])]) (eC env d (.mo b))
 |_,_,_=>False
def Pk (P:Program)(K:Nat->List (VH P))(a:List PanicEntry->av->Env->Prop)(l:aQ)(gs:List (Nat×Bool))(H:av)(env:Env)(k:List (Nat×Bool)->av->Env->Prop):Prop:=
 vg1 gs env (l.guard.map (·.1)) λgs=>vg1 gs env (Ww l.op) λgs=>mS (K (uq l)) H env λhs H env=>match vbs hs l env (k gs H)with
  |some p=>p
  |none=>match hs with
  |[]=>(match l.guard,vsp P l.op env with
   |none,some (p,c)=>O5 (c=true)/\k gs H (cP env l.dst p)
   |none,none=>(match aey l.op env with
    |some v=>a [{v:=v,recovered:=false}] H env
    |none=>(match nlV P l.op env with
     |some (es,c)=>O5 (c=true)/\ ∀b:Bool,(b=true->es=[])->k gs H (cP env l.dst (B b))
     |none=>vho P [] gs l H env (k gs)))
   |_,_=>vho P [] gs l H env (k gs))
  | .i h::hs=>vho P (.i h::hs) gs l H env (k gs)
  | .sh::hs=>vho P (.sh::hs) gs l H env (k gs)
  | .cp i::_=>vcp i l H env (k gs)
  | .mk::_=>vmk l H env (k gs)
  |h::_=>vgd gs env l (isU h) (k gs H (cP env l.dst (.v undef))) (vcl h l H (fzL env (zm l.op)) (k gs) a)
structure Kk (W:Env->av->List Nat->Prop):Prop where
 oj: ∀{env env':Env} {H H':av} {D D':List Nat},bO env H D env' H' D'->W env' H' D'->W env H D
 mJ: ∀{env:Env} {H:av} {D:List Nat} {t T kk:Nat} {es:List (List AV)},env t= .aT T kk es->(es=[]->W (eC env t .nil) H D)->(∀b cap,W (eC env t (.so b es.length cap)) ((b,.arr T kk cap es)::H) D)->W env H D
 ie: ∀{env:Env} {H:av} {D:List Nat} {t T:Nat} {cs:List AV},env t= .eR T cs->(∀b,W (eC env t (.po b 0)) ((b,.cells T cs)::H) D)->W env H D
 Ei: ∀{env:Env} {H:av} {D:List Nat} {t T kk:Nat} {es:List (List AV)},env t= .aT T kk es->(∀ad cap,W (eC env t (.gT T kk es ad cap)) H D)->W env H D
theorem Kk.ops (ls:List aQ):Kk (aY P r N ls Q):=⟨aY.oj,aY.mJ,aY.ie,aY.Ei _⟩
theorem iy {W:Env->av->List Nat->Prop}(a:Kk W){k:List (VH P)->av->Env->Prop}(hk: ∀hs H env,k hs H env->W env H D): ∀{hs:List (VH P)} {H:av} {env:Env},mS hs H env k->W env H D
 | .sT t::hs,H,env,h=>by simp only[mS]at h;split at h;rename_i T kk es he;exact a.mJ he (λe=>iy a hk (h.1 e)) (λb cap=>a.oj (bO.perm (List.perm_append_comm (l₁:=[_]))) (iy a hk (pT (h.2 b cap))));rename_i T cs he;exact a.ie he (λb=>a.oj (bO.perm (List.perm_append_comm (l₁:=[_]))) (iy a hk (pT (h b))));exact h.elim
 | .fT i t::hs,H,env,h=>by simp only[mS]at h;split at h;rename_i b T kk cap es m n c d he;obtain⟨⟨rfl,rfl,rfl⟩,h⟩:=h;exact a.oj (bO.vv t he d) (iy a hk (pT h));rename_i b T cs m o d he;obtain⟨⟨rfl,rfl⟩,h⟩:=h;exact a.oj (bO.jw t he d) (iy a hk (pT h));exact iy a hk h;exact h.elim
 | .fA i j p::hs,H,env,h=>by
  simp only[mS]at h;split at h;rename_i b T kk cap es bo To cs d s;obtain⟨⟨l⟩,h⟩:=h;refine a.oj (bO.nU (cs.set p (.sl kk es)) d s ?_) (iy a hk (pT h));have key: ∀(cs:List AV) (p:Nat),cs[p]? =some (.so b es.length cap)->fp (RW b es.length cap kk es) cs (cs.set p (.sl kk es)):=by
   intro cs;induction cs with
   |nil=>intro p h;cases p<;>simp at h
   |cons c cs w=>
    have y: ∀cs:List AV,fp (RW b es.length cap kk es) cs cs:=by
     intro cs;induction cs with
     |nil=>trivial
     |cons c cs w=>exact⟨.inl zz,w⟩
    intro p h;cases p with
    |zero=>simp only[List.getElem?_cons_zero,Option.some.injEq]at h;exact⟨.inr ⟨h,zz⟩,y cs⟩
    |succ p=>exact⟨.inl zz,w p (by simpa using h)⟩
  exact key cs p l
  exact h.elim
 | .wk i::hs,H,env,h=>by simp only[mS]at h;exact a.oj (bO.LQ (List.eraseIdx_sublist H i)) (iy a hk (pT h))
 | .fz t::hs,H,env,h=>by simp only[mS]at h;exact a.oj (H6 (.tmp t)) (iy a hk h)
 | .pk t::hs,H,env,h=>by simp only[mS]at h;split at h;rename_i he;exact a.Ei he λx cap=>iy a hk (h x cap);exact h.elim
 | .uS i t::hs,H,env,h=>by simp only[mS]at h;split at h;rename_i b T kk cap es m n c d he;obtain⟨⟨rfl,rfl,rfl⟩,h⟩:=h;exact a.oj (bO.lC he d) (iy a hk (pT h));exact h.elim
 | .fM i j p::hs,H,env,h=>by simp only[mS]at h;split at h;rename_i b T kk cap es g f d s;split at h;rename_i key q l;obtain⟨⟨rfl⟩,h⟩:=h;refine a.oj ?_ (iy a hk (pT (Tl h)));have v:=(List.getElem?_eq_some_iff.1 l).1;have e:f=f.take p++(key,.so b es.length cap)::f.drop (p+1):=(by conv=>lhs;rw[<-List.take_append_drop p f,List.drop_eq_getElem_cons v,(List.getElem?_eq_some_iff.1 l).2]);exact bO.LD _ _ d s e;exact h.elim;exact h.elim
 | .sw::hs,H,env,h=>by simp only[mS]at h;split at h;exact a.oj (bO.perm (List.Perm.swap _ _ _)) (iy a hk h);exact h.elim
 | .fm i t::hs,H,env,h=>by simp only[mS]at h;split at h;rename_i b es m d he;obtain⟨⟨rfl⟩,h⟩:=h;exact a.oj (bO.Mw he d) (iy a hk (pT h));exact iy a hk h
 |[],_,_,h=>hk _ _ _ h
 | .i _::_,_,_,h=>hk _ _ _ h
 | .ev _::_,_,_,h=>hk _ _ _ h
 | .bo _::_,_,_,h=>hk _ _ _ h
 | .r _ _::_,_,_,h=>hk _ _ _ h
 | .u _ _::_,_,_,h=>hk _ _ _ h
 | .b _ _::_,_,_,h=>hk _ _ _ h
 | .g _ _ _::_,_,_,h=>hk _ _ _ h
 | .sh::_,_,_,h=>hk _ _ _ h
 | .cp _::_,_,_,h=>hk _ _ _ h
 | .b2 _ _::_,_,_,h=>hk _ _ _ h
 | .mk::_,_,_,h=>hk _ _ _ h
 | .ba _ _::_,_,_,h=>hk _ _ _ h
 | .up _ _::_,_,_,h=>hk _ _ _ h
theorem abL {l:aQ}{k:av->Env->Prop}(h:vcp i l H env k)(hk: ∀H env,k H env->aY P r N ls Q env H D):aY P r N (l::ls) Q env H D:=by obtain⟨dst,g,op⟩:=l;unfold vcp at h;split at h;rename_i T U o x y E kk hg d;dsimp only at hg d;subst hg d;split at h;rename_i b n c m j f cap es a ys hx e hy;obtain⟨⟨rfl,rfl,rfl,rfl,rfl,hl⟩,h⟩:=h;exact aY.cons (aO.aaC hx e hy hl (hk _ _ (pT h)));rename_i a ys hx hy;obtain⟨⟨rfl,rfl⟩,h⟩:=h;exact aY.cons (aO.aea hx hy (hk _ _ h));exact h.elim;exact h.elim
theorem aci {l:aQ}{k:av->Env->Prop}(h:vmk l H env k)(hk: ∀H env,k H env->aY P r N ls Q env H D):aY P r N (l::ls) Q env H D:=by obtain⟨dst,g,op⟩:=l;unfold vmk at h;split at h;rename_i T d a c e;dsimp only at a c e;subst a c e;exact aY.cons (aO.vY λb=>aY.oj (bO.perm (az (l₁:=[_]))) (hk _ _ (h b)));exact h.elim
theorem acz {hs:List (VH P)}{d:Option Nat}{k:av->Env->Prop}(h:vsh hs d k H env)(hk: ∀H env,k H env->aY P r N ls Q env H D):aY P r N ls Q env H D:=by unfold vsh at h;split at h;split at h;split at h;rename_i d T cs he;exact aY.ie he (λb=>aY.oj (bO.perm (az (l₁:=[_]))) (hk _ _ (h b)));exact h.elim;exact h.elim;grind
theorem HO {hs:List (VH P)}{l:aQ}{k:av->Env->Prop}(h:vho P hs gs l H env k)(hk: ∀H env,k H env->aY P r N ls Q env H D):aY P r N (l::ls) Q env H D:=by unfold vho at h;split at h;rename_i W b a c hx;obtain⟨o,h⟩:=Ie h;exact aY.uR (yj hx o) (acz (Mc (IY h)) hk);exact h.elim
theorem T7 {h:VH P}{l:aQ}{k:av->Env->Prop}{n:List PanicEntry->av->Env->Prop}{skip:Prop}
  (f:vgd gs env l (isU h) skip (vcl h l H (fzL env (zm l.op)) k n)) (hk: ∀H env,k H env->aY P r N ls Q env H D) (y: ∀ch H env,n ch H env->Q (.panic ch) env H D)
  (i:skip->aY P r N ls Q (cP env l.dst (.v undef)) H D):aY P r N (l::ls) Q env H D:=by
 obtain⟨dst,g,op⟩:=l;unfold vgd at f;dsimp only at f i;cases g with
 |none=>
  obtain⟨j,_⟩:=Lk f;refine aY.aad (ni.oj (BZ (zm op)) ?_);intro o a1 s u C a w S L x hs next q A B
  apply j o a1 s u C a w S L x hs next q
  grind;grind
 |some z=>
  obtain⟨t,b⟩:=z;dsimp only at f;cases p:isU h with
  |true=>grind
  |false=>rw[p]at f;simp at f;split at f;rename_i e he;split at f;rename_i c _;obtain⟨⟨rfl⟩,f⟩:=f;have Vg:e=b->vcl h ⟨dst,some (t,b),op⟩ H (fzL env (zm op)) k n->aY P r N (⟨dst,some (t,b),op⟩::ls) Q env H D:=(by rintro rfl f;obtain⟨_,j⟩:=Lk f;refine aY.Vg he (aO.pre (BZ (zm op)) ?_);exact aO.mono (j p) (by rintro e h d ⟨m,rfl⟩;exact hk _ _ m));cases e<;>cases b;exact Vg zz f;exact aY.no he aF (i f);exact aY.no he aF (i f);exact Vg zz f;exact f.elim;rename_i cs he;exact aY.nop he (i f);exact f.elim
def kh {α:Type}:List (Nat×List α)->Nat->List α
 |[],_=>[]
 |(t,l)::ks,i=>bif en i t then l else kh ks i
theorem U6 {K:Nat->List (VH P)}{k:List (Nat×Bool)->av->Env->Prop}{l:aQ} 
  (hk: ∀gs H env,k gs H env->aY P r N ls Q env H D) (d: ∀ch H env,m ch H env->Q (.panic ch) env H D) (f:Pk P K m l gs H env k):aY P r N (l::ls) Q env H D:=by unfold Pk at f;obtain⟨n,i⟩:=U2 f;obtain⟨o,j⟩:=U2 i;clear f i;refine iy (Kk.ops _) (λhs H env h=>?_) j;clear j;split at h;rename_i p g;exact abp g h (λenv h=>hk _ _ _ h);split at h;split at h;rename_i p c hg g;have e:l=⟨l.dst,none,l.op⟩:=(by cases l;cases hg;rfl);rw[e];exact aY.cons (CT g h.1.h (hk _ _ _ h.2));rename_i hg _;split at h;rename_i v a;have e:l=⟨l.dst,none,l.op⟩:=(by cases l;cases hg;rfl);rw[e];unfold aey at a;split at a;rename_i x hl;split at a;rename_i T y hx;cases a;rw[hl];exact aY.aad (ni.panic hx (d _ _ _ h));cases a;cases a;split at h;rename_i es c s;have e:l=⟨l.dst,none,l.op⟩:=(by cases l;cases hg;rfl);rw[e];exact aY.cons (adh s h.1.h (λb q=>hk _ _ _ (h.2 b q)));exact HO h (λH env h=>hk _ _ _ h);exact HO h (λH env h=>hk _ _ _ h);exact HO h (λH env h=>hk _ _ _ h);exact HO h (λH env h=>hk _ _ _ h);exact abL h (λH env h=>hk _ _ _ h);exact aci h (λH env h=>hk _ _ _ h);exact T7 h (λH env h=>hk _ _ _ h) d (λh=>hk _ _ _ h)
end
variable {N d j t:Nat}{q res:AV}{rs:List ResultVar}{Hin:av}{env:Env}{D:List Nat}{r:Option Nat}{P:Program}{lc:bZ}{args:List AV}
def Sj {P:Program}:List (VH P)->Prop->Prop
 |[],g=>g
 | .ev (f:=f) (args:=a) (res:=res) _::hs,g=>Ev P f a res->Sj hs g
 | .bo (f:=f) (args:=a) (res:=res) _::hs,g=>Ev P f a res->Sj hs g
 |_::hs,g=>Sj hs g
theorem eH : ∀{hs:List (VH P)} {g:Prop},Sj hs g->g
 |[],_,h=>h
 | .ev a::_,_,h=>eH (h a)
 | .bo a::_,_,h=>eH (h a)
 | .i _::hs,_,h=>eH (hs:=hs) h
 | .r _ _::hs,_,h=>eH (hs:=hs) h
 | .u _ _::hs,_,h=>eH (hs:=hs) h
 | .b _ _::hs,_,h=>eH (hs:=hs) h
 | .g _ _ _::hs,_,h=>eH (hs:=hs) h
 | .sh::hs,_,h=>eH (hs:=hs) h
 | .sT _::hs,_,h=>eH (hs:=hs) h
 | .fT _ _::hs,_,h=>eH (hs:=hs) h
 | .fA _ _ _::hs,_,h=>eH (hs:=hs) h
 | .wk _::hs,_,h=>eH (hs:=hs) h
 | .cp _::hs,_,h=>eH (hs:=hs) h
 | .fz _::hs,_,h=>eH (hs:=hs) h
 | .pk _::hs,_,h=>eH (hs:=hs) h
 | .b2 _ _::hs,_,h=>eH (hs:=hs) h
 | .mk::hs,_,h=>eH (hs:=hs) h
 | .uS _ _::hs,_,h=>eH (hs:=hs) h
 | .fM _ _ _::hs,_,h=>eH (hs:=hs) h
 | .up _ _::hs,_,h=>eH (hs:=hs) h
 | .sw::hs,_,h=>eH (hs:=hs) h
 | .ba _ _::hs,_,h=>eH (hs:=hs) h
 | .fm _ _::hs,_,h=>eH (hs:=hs) h
def Nn {P:Program}(K:Nat->List (VH P)):List (aQ×List Nat)->List (VH P)
 |[]=>[]
 |(l,_)::ls=>K (uq l)++Nn K ls
def aee:List (VH P)->Bool
 | .r _ _::_=>true
 | .u _ _::_=>true
 | .b _ _::_=>true
 | .b2 _ _::_=>true
 | .ba _ _::_=>true
 | .uS _ _::_=>true
 | .sT _::_=>true
 | .up _ _::_=>true
 | .i (.iL _)::_=>true
 | .i (.Xo _ _ _ _)::_=>true
 |_=>false
def E6 (K:Nat->List (VH P))(l:aQ):Bool:=match l.op with
 | .store _ _ _ _=>(match K (uq l) with
  | .i .bY::_=>false
  |_=>true)
 | .jH _ _ _ _ _ _=>true
 |_=>aee (K (uq l))
def fzR (ls:List (aQ×List Nat))(env:Env):Env:=match ls with
 |[]=>env
 |(l,_)::ls=>fzR ls (fzL env (zm l.op))
def fzG {P:Program}(G:List (VH P))(env:Env):Env:=match G with
 |[]=>env
 | .fz t::G=>fzG G (fz1 env (.tmp t))
 |_::G=>fzG G env
def vgs {P:Program}(G:List (VH P))(gs:List (Nat×Bool))(k:List (Nat×Bool)->Prop):Prop:=match G with
 |[]=>k gs
 | .g t e b::G=>(e=b->vgs G ((t,b)::gs) k)/\(e= !b->vgs G ((t,!b)::gs) k)
 |_::G=>vgs G gs k
def qC (o:dp)(k:Nat->Prop):Prop:=match o with
 | .arr _ _ c _=>k c
 |_=>k 0
def qBl (H:av)(k:Nat->Nat->Nat->Nat->Prop):Prop:=match H with
 |[]=>k 0 0 0 0
 |(b,o)::[]=>qC o λc=>k b c 0 0
 |(b,o)::(d,x)::_=>qC o λc=>qC x λe=>k b c d e
theorem V3 {o:dp}{k:Nat->Prop}(h:qC o k): ∃c,k c:=by unfold qC at h;split at h<;>exact⟨_,h⟩
theorem acH {k:Nat->Nat->Nat->Nat->Prop}(h:qBl H k): ∃b c d e,k b c d e:=by unfold qBl at h;split at h;exact⟨_,_,_,_,h⟩;obtain⟨_,h⟩:=V3 h;exact⟨_,_,_,_,h⟩;obtain⟨_,h⟩:=V3 h;obtain⟨_,h⟩:=V3 h;exact⟨_,_,_,_,h⟩
structure LH (P:Program) where
 n:Nat
 E:Nat->List (Nat×AV):=λ_=>[]
 I:Nat->Prop:=λ_=>True
 H:Nat->av:=λ_=>[]
 X:Nat->Nat->Nat->Nat->Nat->List (Nat×AV):=λ_ _ _ _=>E
 Y:Nat->Nat->Nat->Nat->Nat->av:=λ_ _ _ _=>H
 K:Nat->List (Nat×List (VH P)):=λ_=>[]
 L:Nat->List (Nat×LH P):=λ_=>[]
def lh {P:Program}:List (Nat×LH P)->Nat->Option (LH P)
 |[],_=>none
 |(t,l)::ks,i=>bif en i t then some l else lh ks i
def ovl (a:List (Nat×LH P))(b:Nat->Option (LH P)):Nat->Option (LH P):=λi=>match lh a i with
 |none=>b i
 |x=>x
def ov (a b:Nat->List e):Nat->List e:=λi=>match a i with
 |[]=>b i
 |l=>l
abbrev nx [Inhabited e](l:List e)(j:Nat):e:=l.getD j default
theorem mR {β:Type}[Inhabited e]{f:e->β}{l:List e}(h:j<l.length):(l.map f)[j]? =some (f (nx l j)):=by simp [nx,h]
theorem aap {β:Type}[Inhabited e]{f:e->β}{l:List e}(h:j<l.length):(l.take (j+1)).map f=(l.take j).map f++[f (nx l j)]:=by rw[cr,bm];simp [nx,h]
theorem Ek {β:Type}{f:e->β}{l:List e}(h: ¬j<l.length):(l.take j).map f=l.map f:=by rw[bx af]
theorem dh [Inhabited e]{l:List e}(h:j<l.length):nx l j∈l:=by simp [nx,h]
theorem bP [Inhabited e]{l:List e}(h:j<l.length):l[j]? =some (nx l j):=by simp [nx,h]
theorem pf (p:Prop)(h:p:=by(repeat' (with_reducible apply And.intro))<;>(first|exact True.intro|(with_reducible rfl)|(with_reducible assumption)|omega|rfl|assumption|exact fK.refl _|exact fK.nil _|exact jC.refl _|exact mg.refl _|exact List.Sublist.refl _|exact(List.nil_sublist _).cons_cons _|exact jC.po (i:=0) rfl|(with_reducible exact(aap af).symm)|(with_reducible exact mR af)|(with_reducible exact Ek af)|((fail_if_success (intro _));(fail_if_success (apply And.intro));first|(simp_all;done)|(simp_all;omega))|decide)):p:=h
def YK (p q:AV):Prop:=match q with
 | .aT T k es=>(match p with
  | .nil=>Ob (es=[])
  | .aT d c a=>Ob (d=T/\c=k/\a=es)
  | .gT d c a _ _=>Ob (d=T/\c=k/\a=es)
  |_=>False)
 | .sl k es=>(match p with
  | .nil=>Ob (es=[])
  | .aT _ c a=>Ob (c=k/\a=es)
  | .gT _ c a _ _=>Ob (c=k/\a=es)
  | .sl c a=>Ob (c=k/\a=es)
  |p=>Ob (p= .sl k es))
 | .v (.int k n)=>(match p with
  | .v (.int c f)=>Ob (c=k/\f=n)
  |p=>Ob (p= .v (.int k n)))
 | .v (.bool b)=>(match p with
  | .v (.bool e)=>Ob (e=b)
  |p=>Ob (p= .v (.bool b)))
 |q=>Ob (p=q)
def cz (env:Env):List (Nat×AV)->Env
 |[]=>env
 |(t,p)::l=>eC (cz env l) t p
def elO (env:Env):List (Nat×AV)->Prop
 |[]=>True
 |(t,p)::l=>YK (cz env l t) p/\elO env l
def Lp (id:Nat)(Q:dl):dl:=λe env H D=>match e with
 | .exit a=>bif en a id then Q .normal env H D else Q (.exit a) env H D
 |e=>Q e env H D
section
variable (P:Program) (r:Option Nat) (N:Nat)
structure VO (K:Nat->List (VH P))(ls:List aQ)(gs:List (Nat×Bool))(Q:dl)(H:av)(env:Env)(D:List Nat):Prop where
 h:aY P r N ls Q env H D
structure VW (L:Nat->Option (LH P))(c:bZ)(K:Nat->List (VH P))(i:Nat)(Q:dl)(H:av)(env:Env)(D:List Nat):Prop where
 h:aU P r N c Q env H D
structure VD (K:Nat->List (VH P))(gs:List (Nat×Bool))(H:av)(D:List Nat)(ls:List (aQ×List Nat))(env:Env)(acc:List (List Nat×List Nat))(k:Env->List (List Nat×List Nat)->Prop):Prop where
 h: ∃env' infos,wg P r N H D env ls infos [] env'/\k env' (acc.reverse++infos)
structure VS (K:Nat->List (VH P))(gs:List (Nat×Bool))(ops rest:List (aQ×List Nat))(j:Nat)(Q:dl)(H:av)(env:Env)(D:List Nat):Prop where
 h:ops.drop j=rest->gy P r N ops j Q env H D
end
def ace (P:Program)(K:Nat->List (VH P))(gs:List (Nat×Bool))(l:aQ)(H:av)(env:Env)(k:Env->List Nat×List Nat->Prop):Prop:=match PL l (Mp (K (uq l)) l.op env)with
 |(f,a)=>match CL P gs H a l (only f env)with
  |some (W,_,b)=>bif BR (bX W) f then obA b (qW l.op W λW=>k (fV env W) (f,bX W))else Fq (uq l)
  |none=>Fq (uq l)
def spl {P:Program}(K:Nat->List (VH P)):List (aQ×List Nat)->(List (aQ×List Nat)->List (aQ×List Nat)->Prop)->Prop
 |[],k=>k [] []
 |(l,c)::ls,k=>bif E6 K l then k [] ((l,c)::ls)else spl K ls λa b=>k ((l,c)::a) b
def vup (P:Program)(i:Nat)(o:Option Nat)(l:aQ)(H:av)(env:Env)(k:av->Env->Prop):Prop:=match l.op with
 | .jH _ x y z a _=>(match bG env x,H[i]?,valOf (bG env y)with
  | .mo c,some (b,.map es),some kv=>(match o with
   |none=>Ob (c=b/\(∃ks,iQ P a ks/\ks kv/\ ∀e∈es,ks e.1)/\(∀e∈es,e.1≠kv)/\(bG env z).bT=false)/\k (H.set i (b,.map (es++[(kv,bG env z)]))) (cP env l.dst .any)
   |some j=>Ob (c=b/\(∃ks,iQ P a ks/\ks kv/\ ∀e∈es,ks e.1)/\(∃q,es[j]? =some (kv,q))/\(bG env z).bT=false)/\k (H.set i (b,.map (es.set j (kv,bG env z)))) (cP env l.dst .any))
  |_,_,_=>False)
 |_=>False
theorem ab1 {o:Option Nat}{l:aQ}{k:av->Env->Prop}(h:vup P i o l H env k):aO P r N l.op l.dst env H D (λe h d=>k h e/\d=D):=by obtain⟨dst,g,op⟩:=l;unfold vup at h;split at h;rename_i T x y z s E m;subst m;split at h;rename_i t b es kv hx n hy;split at h;obtain⟨⟨rfl,⟨ks,a,c,f⟩,h4,j⟩,h⟩:=h;exact aO.jH a hx n hy c f (.none h4) zz j ⟨h,zz⟩;obtain⟨⟨rfl,⟨ks,a,c,f⟩,⟨q,p⟩,j⟩,h⟩:=h;exact aO.jH a hx n hy c f (.some p) zz j ⟨h,zz⟩;exact h.elim;exact h.elim
theorem gy.TZ (P:Program)(r:Option Nat)(N:Nat)(ops:List (aQ×List Nat))(j:Nat)(Q:dl):Kk (gy P r N ops j Q) where
 oj h k:=λarr ls e f C a w S L i hs d c g hl l=>by
  obtain⟨q,o,u,p⟩:=h C a w S L hs
  exact k arr ls e f C a w q o i p d c g hl l
 mJ n t m:=λarr ls e f C a w S L i hs d c g hl l=>by
  rcases hs.mJ n with⟨he,h⟩|⟨b,cap,h⟩
  ·exact t he arr ls e f C a w S _ i h d c g hl l
  ·exact m b cap arr ls e f C a w S _ i h d c g hl l
 ie n m:=λarr ls e f C a w S L i hs d c g hl l=>by
  obtain⟨b,h⟩:=hs.ie n
  exact m b arr ls e f C a w S _ i h d c g hl l
 Ei n m:=λarr ls e f C a w S L i hs d c g hl l=>by
  obtain⟨s,cap,o,h⟩:=hs.Ei n
  exact m s cap arr ls e f C a w S o i h d c g hl l
def aeg (P:Program)(r:Option Nat)(N:Nat)(K:Nat->List (VH P))(gs:List (Nat×Bool))(ops c:List (aQ×List Nat))(j:Nat)(Q:dl)(H:av)(env:Env)(D:List Nat):Prop:=match c with
 |[]=>O5 ((jS 0 (ops.map (·.2))&&ho ops.length j)=true)/\Q .normal env H D
 |(l,g)::c=>bif E6 K l then(match l.guard with
    |none=>O5 ((jS 0 (ops.map (·.2))&&IX (qZ [] (ops.map (·.2))) j ops.length)=true)/\mS (K (uq l)) H env λhs H env=>(match hs with
     |[]=>(match Fu P gs H (adY l.op env) l env with
      |some (W,e,_,f)=>obA f (qW l.op W λW=>qHp l.op e λe=>VS P r N K gs ops c (j+1) Q e (fV env W) D)
      |none=>Fq (uq l))
     | .i h::hs=>(match Fu P gs H (vI (P:=P) (.i h::hs)) l env with
      |some (W,e,_,f)=>obA f (qW l.op W λW=>qHp l.op e λe=>VS P r N K gs ops c (j+1) Q e (fV env W) D)
      |none=>Fq (uq l))
     | .up i o::_=>vup P i o l H env (λH env=>VS P r N K gs ops c (j+1) Q H env D)
     |h::_=>vcl h l H env (λH env=>VS P r N K gs ops c (j+1) Q H env D) (λch H env=>Q (.panic ch) env H D))
    |some _=>Fq (uq l))
  else spl K ((l,g)::c) λa b=>Sj (Nn K a) (VD P r N K gs H D a env [] λenv' d=>
   O5 ((jS 0 (ops.map (·.2))&&(Pc (qZ [] (ops.map (·.2))) (j+d.length) ops.length&&yV (qZ [] (ops.map (·.2))) j d)&&en d.length a.length)=true)/\VS P r N K gs ops b (j+d.length) Q H env' D)
def vdr (P:Program)(r:Option Nat)(N:Nat)(K:Nat->List (VH P))(ops:List (aQ×List Nat))(Q:dl)(H:av)(env:Env)(D:List Nat):Prop:=match ops with
 |[]=>Q .normal env H D
 |(l,a)::ls=>vgs (K (70000+uq l)) [] λgs=>bif ((l,a)::ls).any (λx=>E6 K x.1)then VS P r N K gs ((l,a)::ls) ((l,a)::ls) 0 Q H (fzG (K (70000+uq l)) (fzR ((l,a)::ls) env)) D
  else Sj (Nn K ((l,a)::ls)) (VD P r N K gs H D ((l,a)::ls) (fzG (K (70000+uq l)) (fzR ((l,a)::ls) env)) [] λenv' b=>O5 (rk (((l,a)::ls).map (·.2)) b=true)/\Q .normal env' H D)
def acp (P:Program)(r:Option Nat)(N:Nat)(L:Nat->Option (LH P))(c:Operand)(a b:bZ)(K:Nat->List (VH P))(i:Nat)(Q:dl)(H:av)(env:Env)(D:List Nat):Prop:=match bG env c with
 | .v (.bool e)=>(e=true->VW P r N L a K i Q H env D)/\(e=false->VW P r N L b K i Q H env D)
 |_=>False
def Vb (P:Program)(r:Option Nat)(N:Nat)(L:Nat->Option (LH P))(a:bZ)(K:Nat->List (VH P))(i:Nat)(Q:dl)(H:av)(env:Env)(D:List Nat):Prop:=match L i with
 |some h=>qBl H λb c d e=>Ob (h.I 0)/\Ob (H=h.Y b c d e 0)/\elO env (h.X b c d e 0)/\ ∀j,j<=h.n->h.I j->
  VW P r N (ovl (h.L j) L) a (ov (kh (h.K j)) K) i (kX (λenv' H' f=>Ob (f=D)/\Ob (j<h.n)/\Ob (h.I (j+1))/\Ob (H'=h.Y b c d e (j+1))/\elO env' (h.X b c d e (j+1))) Q) (h.Y b c d e j) (el (h.X b c d e j)) D
 |none=>Ob (aU P r N (.loop a) Q env H D)
section
variable {Q:dl}{K:Nat->List (VH P)}{kx:List PanicEntry->av->Env->Prop}{k:av->Env->Prop}
theorem OM: ∀(ls:List (aQ×List Nat)) {env:Env},bO env H D (fzR ls env) H D
 |[],_=>bO.refl _ _ _
 |(l,_)::ls,_=>(BZ _).trans (OM ls)
theorem G8: ∀(G:List (VH P)) {env:Env},bO env H D (fzG G env) H D
 |[],_=>bO.refl _ _ _
 |g::G,_=>by cases g with
  |fz t=>exact(H6 (.tmp t)).trans (G8 G)
  |_=>exact G8 G
theorem abR {G:List (VH P)}{k:List (Nat×Bool)->Prop}: ∀{gs:List (Nat×Bool)},vgs G gs k-> ∃a,k a:=by
 induction G with
 |nil=>exact λh=>⟨_,h⟩
 |cons g G c=>
  intro gs h;cases g with
  |g t e b=>by_cases he:e=b;exact c (h.1 he);exact c (h.2 (by cases e<;>cases b<;>simp_all))
  |_=>exact c h
theorem VO.nil (h:Q .normal env H D):VO P r N K [] gs Q H env D:=⟨aY.nil h⟩
theorem VO.cons {l:aQ}(h:Pk P K (λch H env=>Q (.panic ch) env H D) l gs H env (λgs H env=>VO P r N K ls gs Q H env D)):VO P r N K (l::ls) gs Q H env D:=
 ⟨U6 (λ_ _ _ h=>h.h) (λ_ _ _ h=>h) h⟩
theorem VD.nil {acc:List (List Nat×List Nat)}{k:Env->List (List Nat×List Nat)->Prop}(h:k env acc.reverse):VD P r N K gs H D [] env acc k:=⟨env,[],wg.nil,bD⟩
theorem VD.cons {acc:List (List Nat×List Nat)}{k:Env->List (List Nat×List Nat)->Prop}{l:aQ}{m:List Nat}{ls:List (aQ×List Nat)}
  (h:ace P K gs l H env (λenv x=>VD P r N K gs H D ls env (x::acc) k)):VD P r N K gs H D ((l,m)::ls) env acc k:=by
 unfold ace at h;obtain⟨⟨f,e⟩,d⟩: ∃q,PL l (Mp (K (uq l)) l.op env)=q:=⟨_,zz⟩;rw[d]at h;simp only at h;split at h;rename_i W g j hx;cases a:BR (bX W) f with
 |false=>rw[a]at h;exact h.elim
 |true=>rw[a]at h;obtain⟨i,h⟩:=Ie h;obtain⟨env',is,hd,hk⟩:=(IY h).h;obtain⟨c,b⟩:=pO hx i;exact⟨env',_,wg.cons f c a b hd,by rw[List.reverse_cons,bs]at hk;exact hk⟩
 exact h.elim
theorem Sx: ∀{ls:List (aQ×List Nat)} {k:List (aQ×List Nat)->List (aQ×List Nat)->Prop},spl K ls k-> ∃a b,ls=a++b/\k a b
 |[],_,h=>⟨[],[],zz,h⟩
 |(l,c)::ls,k,h=>by
  simp only[spl]at h;cases hl:E6 K l with
  |true=>rw[hl]at h;exact⟨[],_,zz,h⟩
  |false=>rw[hl]at h;obtain⟨a,b,e,h⟩:=Sx (ls:=ls) h;exact⟨_,b,by rw[e];rfl,h⟩
theorem WV {l a b:List e}(h:l.drop j=a++b):(l.drop j).take a.length=a/\l.drop (j+a.length)=b:=by rw[<-ej,h];simp
theorem VS.step {ops k:List (aQ×List Nat)}(h:aeg P r N K gs ops k j Q H env D):VS P r N K gs ops k j Q H env D:=by
 unfold aeg at h;split at h;exact⟨λ_=>gy.end h.1.h h.2⟩
 ·rename_i l X k;cases hl:E6 K l with
  |true=>
   rw[hl]at h;obtain⟨dst,g,op⟩:=l;cases g with
   |some _=>exact h.elim
   |none=>
    obtain⟨⟨i⟩,h⟩:=h;simp at i;refine⟨λf=>?_⟩;have s:ops.drop (j+1)=k:=(by rw[<-ej,f];rfl);refine iy (gy.TZ P r N ops j Q) (λhs H env h=>?_) h;split at h;split at h;rename_i W I _ V hx;obtain⟨o,h⟩:=Ie h;have E:=yj (r:=r) (N:=N) (D:=D) hx o;exact gy.op f i.1 i.2 (aO.mono E (by rintro e G d ⟨n,v,x⟩;rw[n,v,x];exact(Mc (IY h)).h s));exact h.elim;split at h;rename_i W I _ V hx;obtain⟨o,h⟩:=Ie h;have E:=yj (r:=r) (N:=N) (D:=D) hx o;exact gy.op f i.1 i.2 (aO.mono E (by rintro e G d ⟨n,v,x⟩;rw[n,v,x];exact(Mc (IY h)).h s));exact h.elim;exact gy.op f i.1 i.2 (aO.mono (ab1 h) (by rintro e G d ⟨m,rfl⟩;exact m.h s))
    ·obtain⟨T,_⟩:=Lk h;apply gy.opX f i.1 i.2;intro o a1 M O C a w S L R hs next J B U
     refine T o a1 M O C a w S L R hs next J ?_ ?_
     rintro e H d y w' u t ⟨m,n⟩ p q;exact B e H d y w' u t (by rw[n];exact m.h s) p q;rintro c e H d w' u t ⟨m,n⟩ p;exact U c e H d w' u t (by rw[n];exact m) p
  |false=>rw[hl]at h;refine⟨λf=>?_⟩;obtain⟨a,b,e,h⟩:=Sx h;rw[e]at f;obtain⟨env',F,hd,⟨i⟩,h⟩:=(eH h).h;simp only[bl]at i;have A:=dk i.2;have z:=WV f;exact gy.chain f (hd.app zz b) i.1.1 i.1.2.1 i.1.2.2 (h.h (by rw[A];exact z.2))
variable {L:Nat->Option (LH P)}
theorem VW.nj (hm:P.follows .mixedOrders=true){ops:List (aQ×List Nat)}(h:vdr P r N K ops Q H env D):VW P r N L (.nj ops) K i Q H env D:=by
 unfold vdr at h;split at h;exact⟨aU.DS hm (gy.end zz h)⟩;rename_i l b ls;obtain⟨gs,h⟩:=abR h;refine⟨aU.oj ((OM ((l,b)::ls)).trans (G8 (K (70000+uq l)))) ?_⟩;cases hl:((l,b)::ls).any (λx=>E6 K x.1)with
 |true=>rw[hl]at h;exact aU.DS hm (h.h zz)
 |false=>rw[hl]at h;obtain⟨env',a,hd,⟨c⟩,h⟩:=(eH h).h;exact aU.nj hm hd c (aY.nil h)
theorem bO.of_eq (h:env=env'):bO env H D env' H D:=h▸bO.refl _ _ _
theorem uP (h:env t=p):eC env t p=env:=by funext i;by_cases e:i=t;subst e;rw[bN,h];rw[ij _ _ e]
theorem O9 (h:YK (env t) q):bO env H D (eC env t q) H D:=by generalize a:env t=p at h;unfold YK at h;split at h;rename_i T k es;split at h;obtain⟨rfl⟩:=h;exact bO.mM T k a;obtain⟨rfl,rfl,rfl⟩:=h;exact bO.of_eq (uP a).symm;obtain⟨rfl,rfl,rfl⟩:=h;exact bO.Ms a;exact h.elim;rename_i k es;split at h;obtain⟨rfl⟩:=h;exact bO.ky k a;obtain⟨rfl,rfl⟩:=h;exact bO.gp a;obtain⟨rfl,rfl⟩:=h;exact bO.DC a;obtain⟨rfl,rfl⟩:=h;exact bO.of_eq (uP a).symm;obtain⟨rfl⟩:=h;exact bO.of_eq (uP a).symm;split at h;obtain⟨rfl,rfl⟩:=h;exact bO.of_eq (uP a).symm;obtain⟨rfl⟩:=h;exact bO.of_eq (uP a).symm;split at h;obtain⟨rfl⟩:=h;exact bO.of_eq (uP a).symm;obtain⟨rfl⟩:=h;exact bO.of_eq (uP a).symm;obtain⟨rfl⟩:=h;exact bO.of_eq (uP a).symm
theorem NM: ∀{l:List (Nat×AV)},elO env l->bO env H D (cz env l) H D
 |[],_=>bO.refl _ _ _
 |(_,_)::_,h=>(NM h.2).trans (O9 h.1)
theorem aaq: ∀{l:List (Nat×AV)} (t:Nat),el l t= .any\/el l t=cz env l t
 |[],t=>.inl zz
 |(u,p)::l,t=>by
  simp only[el,cz,eC];cases en t u with
  |true=>exact .inr zz
  |false=>exact aaq t
theorem OV {l:List (Nat×AV)}(h:elO env l):bO env H D (el l) H D:=(NM h).trans (bO.M8 aaq)
theorem VW.skip (h:Q .normal env H D):VW P r N L .skip K i Q H env D:=⟨aU.skip h⟩
theorem VW.label (h:Q .normal env H D):VW P r N L (.label n) K i Q H env D:=⟨aU.label h⟩
theorem VW.ops {l:List aQ}(h:VO P r N K l [] Q H env D):VW P r N L (.ops l) K i Q H env D:=⟨aU.ops h.h⟩
theorem VW.seq {a b:bZ}(h:VW P r N L a K i (kX (λenv H D=>VW P r N L b K i Q H env D) Q) H env D):VW P r N L (.seq a b) K i Q H env D:=⟨aU.seq (aU.mono h.h (by
 intro e env H D c
 cases e with
 |normal=>exact c.h
 |_=>exact c))⟩
theorem VW.ite {c:Operand}{a b:bZ}(h:acp P r N L c a b K i Q H env D):VW P r N L (.ite c a b) K i Q H env D:=by unfold acp at h;split at h;rename_i e he;exact⟨aU.ite he (λx=>(h.1 x).h) (λx=>(h.2 x).h)⟩;exact h.elim
theorem VW.block {id:Nat}{a:bZ}(h:VW P r N L a K id (Lp id Q) H env D):VW P r N L (.block id a) K i Q H env D:=⟨aU.block (aU.mono h.h (by
 intro e env H D b
 cases e with
 |exit d=>
  simp only[Lp]at b
  simp only[rC]
  cases c:en d id with
  |true=>rw[c]at b;rw[zy (dk c)];exact b
  |false=>rw[c]at b;rw[zj (λe=>by subst e;rw[e3]at c;cases c)];exact b
 |_=>exact b))⟩
theorem VW.exit {id:Nat}(h:Q (.exit id) env H D):VW P r N L (.exit id) K i Q H env D:=⟨aU.exit h⟩
theorem VW.ret (h:Q .ret env H D):VW P r N L .ret K i Q H env D:=⟨aU.ret h⟩
theorem VW.scope {a:bZ}(h:VW P r N L a K i (MV Q) H env D):VW P r N L (.scope a) K i Q H env D:=⟨aU.scope h.h⟩
theorem VW.loop {a:bZ}(h:Vb P r N L a K i Q H env D):VW P r N L (.loop a) K i Q H env D:=by
 unfold Vb at h;split at h;rename_i x _;obtain⟨b,c,d,e,⟨m⟩,⟨rfl⟩,o,h4⟩:=acH h;refine⟨aU.Tf (λj=>j<=x.n/\x.I j) (λj=>el (x.X b c d e j)) (x.Y b c d e) (λ_=>D) (λj=>x.n-j) 0 ⟨Nat.zero_le _,m⟩ (OV o) (λj f=>aU.mono (h4 j f.1 f.2).h ?_)⟩;intro e env' H' p g;cases e with
 |normal=>obtain⟨⟨rfl⟩,⟨k⟩,⟨b2⟩,⟨rfl⟩,l⟩:=g;exact⟨j+1,⟨k,b2⟩,af,OV l⟩
 |_=>exact g
 exact⟨h.h⟩
theorem Q1.of {l:kK}(h: ∀a:Env->av->List Nat->Prop,a (eC env d p) H D->aO P r N l (some d) env H D a):Q1 P r N l (some d) env H D [(d,p)]:=h _ dO
def MB:List ResultVar->List AV->Option (List (Nat×AV))
 |[],[]=>some []
 | .tmp t::rs,p::ps=>match MB rs ps with
  |some l=>some ((t,p)::l)
  |none=>none
 |_,_=>none
def Hz (l:List (Nat×AV)):Bool:=match l with
 |[]=>true
 |(t,_)::l=> !(l.any λx=>en x.1 t)&&Hz l
def Rd (P:Program)(env:Env)(H:av)(rs:List ResultVar)(res:AV):Prop:=match rs,res with
 |[.tmp t],q=>YK (env t) q
 |rs,.cG ps=>(match MB rs ps with
  |some l=>O5 (Hz l=true)/\Ob (rs.length≠1)/\Ob (pU ps=true)/\elO env l
  |none=>Ob (my P env H rs (.cG ps)))
 |rs,q=>Ob (my P env H rs q)
theorem NS: ∀{rs:List ResultVar} {ps:List AV} {l:List (Nat×AV)} {e:Env},MB rs ps=some l->(∀t p,(t,p)∈l->e t=p)->pU ps=true->fp (jU P e H) rs ps
 |[],[],_,_,_,_,_=>trivial
 | .tmp t::rs,p::ps,l,e,h,b,a=>by simp only[MB]at h;split at h;rename_i c hl;cases h;simp only[pU,List.all_cons,bl,cb]at a;exact⟨.tmp (b t p aF) a.1,NS hl (λt p hm=>b t p (by simp [hm])) a.2⟩;cases h
 | .cell _ _::_,_,_,_,h,_,_=>by simp [MB]at h
 |[],_::_,_,_,h,_,_=>by simp [MB]at h
 | .tmp _::_,[],_,_,h,_,_=>by simp [MB]at h
theorem Gz: ∀{l:List (Nat×AV)},Hz l=true-> ∀t p,(t,p)∈l->cz env l t=p
 |[],_,_,_,h=>by cases h
 |(u,q)::l,a,t,p,h=>by
  simp only[Hz,Bool.and_eq_true,Bool.not_eq_true',List.any_eq_false]at a;simp only[cz];rcases List.mem_cons.1 h with h2|h2
  cases h2;exact bN _ _ _;rw[ij _ _ (λe=>by have:=a.1 _ h2;rw[e,Nat.beq_refl]at this;simp at this)];exact Gz a.2 t p h2
theorem BX (h:Rd P env H rs res): ∃env',bO env H D env' H D/\my P env' H rs res:=by
 unfold Rd at h;split at h;refine⟨_,O9 h,?_⟩;cases hl:res.bT with
 |true=>exact .aT (bN _ _ _) hl
 |false=>exact .one (.tmp (bN _ _ _) hl)
 split at h;rename_i l d;obtain⟨⟨a⟩,⟨b⟩,⟨c⟩,h4⟩:=h;exact⟨_,NM h4,.many b (NS d (Gz a) c)⟩;exact⟨env,bO.refl _ _ _,h.h⟩;exact⟨env,bO.refl _ _ _,h.h⟩
def Bq (P:Program)(rs:List ResultVar)(res:AV):dl:=λe env H D=>match e with
 | .normal| .ret=>(match D with
  |[]=>Rd P env H rs res
  |D=>Ob (∃H',wM H D H'/\my P env H' rs res))
 |_=>False
def N4 (P:Program)(rs:List ResultVar)(c:Bool)(res:AV)(Ho:av)(ch:List PanicEntry)(RP:av->Prop):dl:=λe env H D=>match e with
 | .normal| .ret=>(match D with
  |[]=>Ob (c=true)/\Ob (Ho.Sublist H)/\Rd P env H rs res
  |D=>Ob (c=true)/\Ob (∃H',wM H D H'/\my P env H' rs res/\Ho.Sublist H'))
 | .panic a=>Ob (c=false)/\Ob (a=ch)/\Ob (D=[])/\Ob (∃h,RP h/\h.Sublist H)
 |_=>False
def T8 (P:Program)(rs:List ResultVar)(res:Nat->AV)(Ho:Nat->av):dl:=λe env H D=>match e with
 | .normal| .ret=>Ob (D=[])/\Ob (∃b,(Ho b).Sublist H/\Rd P env H rs (res b))
 |_=>False
theorem aU.A3 {x:bZ}{i:dl}(h:aU P r N x Q env H D)(k: ∀e env H D,Q e env H D-> ∃env' H' b,bO env H D env' H' b/\i e env' H' b):aU P r N x i env H D:=
 λc hc C a w S L q hs=>wpIn_mono (h c hc C a w S L q hs) (by
  rintro e s w' ⟨env',H',b,m,j,f,d⟩
  obtain⟨n,o,d2,p,d⟩:=k _ _ _ _ d
  obtain⟨S3,l,_,g⟩:=p C _ w' m j f
  exact⟨n,o,d2,S3,l,g,d⟩)
theorem yx {e:Exit}(h:Bq P rs res e env H D): ∃env' H' a,bO env H D env' H' a/\qn P rs res e env' H' a:=by
 have fin: ∀{D:List Nat} {e:Exit},Bq P rs res .normal env H D->(e= .normal\/e= .ret)-> ∃env' H' a,bO env H D env' H' a/\qn P rs res e env' H' a:=by
  intro D e b he;cases D with
  |nil=>obtain⟨env',c,f⟩:=BX b;exact⟨env',H,[],c,he,H,zz,f⟩
  |cons d D=>have b:Ob (∃H',wM H (d::D) H'/\my P env H' rs res):=b;exact⟨_,_,_,bO.refl _ _ _,he,b.h⟩
 cases e with
 |normal=>simp_all
 |ret=>exact fin h (.inr zz)
 |_=>exact h.elim
theorem Ev.vc (ok:sI P f N rs lc)(K:Nat->List (VH P))(L:Nat->Option (LH P))(h:VW P none N L lc K 0 (Bq P rs res) [] (jN args) []):Ev P f args res:=
 Ev.intro ok (aU.A3 h.h (λ_ _ _ _ a=>yx a))
theorem T6 {c:Bool}{Ho:av}{ch:List PanicEntry}{RP:av->Prop}{e:Exit}(h:N4 P rs c res Ho ch RP e env H D):
  ∃env' H' a,bO env H D env' H' a/\aca P rs (λo h=>(c=true/\o= .ret res/\h=Ho)\/(c=false/\o= .pan ch/\RP h)) e env' H' a:=by
 have fin: ∀{D:List Nat},N4 P rs c res Ho ch RP .normal env H D-> ∃env' H' a,bO env H D env' H' a/\aca P rs (λo h=>(c=true/\o= .ret res/\h=Ho)\/(c=false/\o= .pan ch/\RP h)) .normal env' H' a:=by
  intro D f;cases D with
  |nil=>obtain⟨⟨b⟩,⟨k⟩,f⟩:=f;obtain⟨env',m,n⟩:=BX f;exact⟨env',H,[],m,H,res,Ho,zz,n,.inl ⟨b,zz,zz⟩,k⟩
  |cons d D=>obtain⟨⟨b⟩,⟨H',i,h4,l⟩⟩:=f;exact⟨_,_,_,bO.refl _ _ _,H',res,Ho,i,h4,.inl ⟨b,zz,zz⟩,l⟩
 cases e with
 |normal=>exact fin h
 |ret=>exact fin h
 |panic j=>obtain⟨⟨b⟩,⟨rfl⟩,⟨rfl⟩,⟨g,i,h4⟩⟩:=h;exact⟨env,H,[],bO.refl _ _ _,zz,g,.inr ⟨b,zz,i⟩,h4⟩
 |_=>exact h.elim
theorem FX.vc {c:Bool}{Ho:av}{ch:List PanicEntry}{RP:av->Prop}(ok:sI P f N rs lc)(K:Nat->List (VH P))(L:Nat->Option (LH P))
  (h:VW P none N L lc K 0 (N4 P rs c res Ho ch RP) Hin (jN args) []):FX P f args Hin c res Ho ch RP:=
 EvX.intro ok (aU.A3 h.h (λ_ _ _ _ a=>T6 a))
theorem UF {res:Nat->AV}{Ho:Nat->av}{e:Exit}(h:T8 P rs res Ho e env H D): ∃env' H' a,bO env H D env' H' a/\yH P rs (λr h=> ∃b,r=res b/\h=Ho b) e env' H' a:=by
 have fin: ∀{e:Exit},T8 P rs res Ho .normal env H D->(e= .normal\/e= .ret)-> ∃env' H' a,bO env H D env' H' a/\yH P rs (λr h=> ∃b,r=res b/\h=Ho b) e env' H' a:=by rintro e ⟨⟨rfl⟩,⟨b,c,d⟩⟩ he;obtain⟨env',f,g⟩:=BX d;exact⟨env',H,[],f,he,H,_,_,zz,g,⟨b,zz,zz⟩,c⟩
 cases e with
 |normal=>simp_all
 |ret=>exact fin h (.inr zz)
 |_=>exact h.elim
def Mo (P:Program)(rs:List ResultVar)(res:Nat->Nat->AV)(Ho:Nat->Nat->av):dl:=λe env H D=>match e with
 | .normal| .ret=>Ob (D=[])/\Ob (∃b c,(Ho b c).Sublist H/\Rd P env H rs (res b c))
 |_=>False
theorem QK {res:Nat->Nat->AV}{Ho:Nat->Nat->av}{e:Exit}(h:Mo P rs res Ho e env H D): ∃env' H' a,bO env H D env' H' a/\yH P rs (λr h=> ∃b c,r=res b c/\h=Ho b c) e env' H' a:=by
 have fin: ∀{e:Exit},Mo P rs res Ho .normal env H D->(e= .normal\/e= .ret)-> ∃env' H' a,bO env H D env' H' a/\yH P rs (λr h=> ∃b c,r=res b c/\h=Ho b c) e env' H' a:=by rintro e ⟨⟨rfl⟩,⟨b,c,d,f⟩⟩ he;obtain⟨env',g,i⟩:=BX f;exact⟨env',H,[],g,he,H,_,_,zz,i,⟨b,c,zz,zz⟩,d⟩
 cases e with
 |normal=>simp_all
 |ret=>exact fin h (.inr zz)
 |_=>exact h.elim
theorem Ji.vc {res:Nat->Nat->AV}{Ho:Nat->Nat->av}(ok:sI P f N rs lc)(K:Nat->List (VH P))(L:Nat->Option (LH P))
  (h:VW P none N L lc K 0 (Mo P rs res Ho) Hin (jN args) []):Ji P f args Hin res Ho:=
 iM.intro ok (aU.A3 h.h (λ_ _ _ _ a=>QK a))
theorem B7.vc {res:Nat->AV}{Ho:Nat->av}(ok:sI P f N rs lc)(K:Nat->List (VH P))(L:Nat->Option (LH P))
  (h:VW P none N L lc K 0 (T8 P rs res Ho) Hin (jN args) []):B7 P f args Hin res Ho:=
 iM.intro ok (aU.A3 h.h (λ_ _ _ _ a=>UF a))
end
variable {Q:dl}{T:TypeId}
theorem B7.cell {res:Nat->AV}{cs a:Nat->List AV}(h:B7 P f args Hin res (λb=>[(b,.cells T (cs b))]))(hs: ∀b,fp fK (cs b) (a b)):
  B7 P f args Hin res (λb=>[(b,.cells T (a b))]):=by refine⟨h.1,λS w B k m n h4 p=>(h.2 S w B k m n h4 p).mono ?_⟩;rintro e w' ⟨v,c,g,r,Ho,rfl,⟨b,rfl,rfl⟩,q,s,t,u,x,y,z,A⟩;refine⟨v,c,g,_,_,zz,⟨b,zz,zz⟩,q,s,t,u,x,?_,z,A⟩;intro e he;rw[eP.1 he];obtain⟨d,b2,o,i,l,rfl,j,b5⟩:=y _ (eP.2 zz);exact⟨d,b2,_,i,l,zz,nJ (hs b) j,b5⟩
theorem aU.afW {x y:bZ}(h:aU P r N x (kX (λe h d=>Ob (aU P r N y Q e h d)) Q) env H D):aU P r N (.seq x y) Q env H D:=
 aU.seq (aU.mono h (by
  intro e env H D a
  cases e with
  |normal=>exact a.h
  |_=>exact a))
variable {ty:TypeId}{b kk:Nat}{cs:List AV}{x:Operand}
section
variable {dst:Option Nat}{K:Env->av->List Nat->Prop}
theorem aO.afd {es:List (Value×AV)}(hx:bG env x= .mi es)(k:K (cP env dst (.v (.int .i64 es.length))) H D):aO P r N (.NJ T ty x) dst env H D K:=by
 intro o g hd m C a w S L s hs next Q f
 have c:=hs.dM x hx zz;simp only[bf]at c;obtain⟨b,bV,l,c,h,hm,t⟩:=c;have j:=hs.sin.map _ _ h;have hl:bV.size=es.length:=by have:=hm.get.1;simpa using this.symm
 obtain⟨u,n⟩:=hs.mP (λd e=>s▸hd d e) (p:=.v (.int .i64 es.length)) (y:=.int .i64 es.length) zz (by simp only[bf]);cases m with
 |NJ i q=>refine Oper.ck (.NJ i q) aF ?_ (by rw[g];exact f _ _ _ _ _ _ _ k n (aI.Le.refl _));simp [execOp,i,resolve,invoke,builtin,Builtin.len_,underlying,q,c,goInt,getObj,j,Sem.run,hl]
theorem jC.slc {T:Nat}(g:H[i]? =some (b,.cells T cs))(k:n*kk<=cs.length)(hm:n<=maxLen):jC env H (.v (.slice (some ⟨b,0,none⟩) n n)) (.sl kk (chunk kk n cs)):=by
 intro C D a w S L hs v r;simp only[bf]at r ⊢;obtain⟨l,d,m,f⟩:=(hs.at_ g).row;have e:fY (aI.eo w) cs b 0:=og (aS.mono hs.sin.lK _ _ m) f (λj c h=>by
  show w.cell? ⟨b,0+j,none⟩=some c
  rw[Nat.zero_add,cell_of_row w b _ _ _ _ d];simpa using h)
 exact .inr ⟨b,0,n,by rw[r,gC],by rw[gC];exact fD _,hm,xb k e⟩
end
def I6:Op:=.call {callee:=.builtin .recover,args:= #[],argTypes:= #[]}
def Cv (x:Operand):Op:=.defer {callee:=.value x,args:= #[],argTypes:= #[]}
def lk:FrameMode->Value×FrameMode
 | .panicking ({v,recovered:=false,goexit:=false}::kw)=>(v,.panicking ({v,recovered:=true}::kw))
 |u=>(.nilIface,u)
def EvD (P:Program)(f:FuncId)(args:List AV)(Hin:av)(u U:FrameMode)(R:av->Prop):Prop:=
 uc P f/\ ∀(S:aI) (w:World) (a:List Value),te S w->S.In w->aS S args a->(∀e∈Hin,Own (λ_=>True) S w e.1 e.2)->(Hin.map (·.1)).Nodup->
  CallsDIn ec 0 P f a.toArray u w (λe b w'=>b=U/\MZ S w Hin (λo h=>o= .ret (.cG [])/\R h) e w')
section
theorem Kl (c0:Frame)(cs:List Frame){u:FrameMode}(a:c0.mode=u):
  (recoverD (c0::cs)=some ((lk u).1,{c0 with mode:=(lk u).2}::cs))\/(recoverD (c0::cs)=none/\lk u=(.nilIface,u)):=by
 subst a;simp only[recoverD];generalize c0.mode=m;unfold lk;match m with
 | .panicking ({v,recovered:=false,goexit:=false}::kw)=>grind
 | .panicking ({v,recovered:=true,goexit:=_}::kw)=>grind
 | .panicking ({v,recovered:=false,goexit:=true}::kw)=>grind
 | .panicking []=>grind
 | .run=>grind
 | .returning=>grind
theorem EvD.intro {t2:Nat}{u:FrameMode}{R:av->Prop}(ok:sI P f N [] (.seq (.ops [⟨some t,none,.other I6⟩,⟨some t2,none,.tJ (.tmp t)⟩]) lc))
  (h:aU P none N lc (λe _ H D=>(e= .normal\/e= .ret)/\D=[]/\ ∃j,R j/\j.Sublist H) (eC (eC (jN args) t (.v (lk u).1)) t2 (.v (lk u).1)) Hin []):EvD P f args Hin u (lk u).2 R:=by
 obtain⟨fn,hf,hn,rfl,a7,z⟩:=ok.fn;obtain⟨c,hb,z⟩:=et.1 z;refine⟨⟨fn,hf,hn,by rw[hb];rfl⟩,?_⟩;intro S w vs J K x q a3;have E:=eF z;generalize Z:bZ.seq (.ops [⟨some t,none,.other I6⟩,⟨some t2,none,.tJ (.tmp t)⟩]) lc=LL at E;cases E<;>try cases Z
 rename_i cA cR hA hR;generalize Y:bZ.ops [(⟨some t,none,.other I6⟩:aQ),⟨some t2,none,.tJ (.tmp t)⟩]=AA at hA;cases hA<;>try cases Y
 rename_i id arr hm;have T:arr.size=2:=by have:=hm.length;simpa using this.symm
 rw[T]at hm;obtain⟨l0,b3,V,m0,hm⟩:=hm;cases V;obtain⟨l1,b4,W,m1,_⟩:=hm;cases W;obtain⟨X,a4,a1,r,L,b1⟩:=m0.at_;obtain⟨U,a5,a2,F,M,b2⟩:=m1.at_;have I:X.guard=none:=bD;have s:U.guard=none:=bD;refine callsDIn_of_wpSIn hf hb zq (λc0 cs l=>wpSIn_seq (wpSIn_region ?_));rw[T];have O:X.op=I6:=by cases L;assumption
 have hop1:U.op= .move (.tmp t)\/U.op= .assign (.tmp t):=by cases M;assumption
 let C:=Qi J K q fn.ntmps;have hs:Sat C _ _ _ _ _ _ _:=Sat.init J K x q a3 fn.ntmps;generalize b0:({tmps:=vs.toArray++e6 (fn.ntmps-vs.toArray.size) undef,defers:=[]}:Act)=a0 at hs ⊢
 obtain⟨L1,a8⟩:=hs.mP (p:=.v (lk u).1) (y:=(lk u).1) (λd e=>r d e) zz (by simp [bf]);obtain⟨L2,a9⟩:=a8.mP (p:=.v (lk u).1) (y:=(lk u).1) (λd e=>F d e) zz (by simp [bf]);have k:cR.wpSIn ec 0 P (bodyPostS P fn c0 cs (λe u' w'=>u'=(lk u).2/\MZ S w Hin (λo h=>o= .ret (.cG [])/\R h) e w')) ((a0.put (some t) (lk u).1).put (some t2) (lk u).1) ({c0 with mode:=(lk u).2}::cs) w:=by
  refine wpSIn_of_wpIn zz (wpIn_mono (h cR hR _ _ w S L2 zz a9) ?_);rintro e a' w' ⟨B,H',D',S',L',i,he,rfl,j,hR,n⟩;have fin:bodyPostS P fn c0 cs (λe u' w'=>u'=(lk u).2/\MZ S w Hin (λo h=>o= .ret (.cG [])/\R h) e w') .ret a' ({c0 with mode:=(lk u).2}::cs) w':=by refine⟨i.Fl,_,zz,?_⟩;have a6:my P B H' fn.results.toList (.cG []):=(by rw[a7];exact .many aG zq);obtain⟨v,g,hv,Q,hg⟩:=a6.run i;refine⟨v,hv,zz,S',j,i.le,i.sin,i.ux,i.below,λe he=>i.heap e (n.subset he),?_,.inl ⟨v,g,_,zz,⟨zz,hR⟩,Q,?_⟩⟩;have:=i.nodup;rw[bm,cd]at this;exact rM n this.1;intro b e hm;obtain⟨t,ht⟩:=hg b e;apply i.aT t b ht;rw[bm,ey];exact .inl ((n.map _).subset hm)
  rcases he with rfl|rfl;exact fin;exact fin
 have A: ∀a:Act,(execOp a.eval X).run P w= .ok .recover w:=λa=>by simp [execOp,O,I6,resolve,invoke,builtin]
 have m: ∀(a:Act) (v:Value),(execOp (a.put (some t) v).eval U).run P w= .ok (.value ((a.put (some t) v).eval (.tmp t))) w:=λa v=>by rcases hop1 with hop1|hop1<;>simp [execOp,hop1]
 have G: ∀v,(a0.put (some t) v).eval (.tmp t)=v:=λv=>by have h1:=hs.size;have h2:t<fn.ntmps:=r t zz;exact wj (show t<a0.tmps.size from Nat.lt_of_lt_of_le h2 h1)
 simp only[gQ,e8,wpOpsSIn,a4,a5];refine⟨λ_ _=>trivial,?_⟩;rw[zy (gG I),A];have V:X.dst=some t:=a1;have W:U.dst=some t2:=a2;rcases Kl c0 cs l with e|⟨e,e2⟩
 simp only[e];refine⟨λ_ _=>trivial,?_⟩;rw[zy (gG s),V,m,G,W];exact k;simp only[e];refine⟨λ_ _=>trivial,?_⟩;rw[zy (gG s),V,m,G,W];rw[e2]at k;have:({c0 with mode:=u}:Frame)=c0:=by rw[<-l]
 simp only[this]at k;rw[e2];exact k
def L8:Exit->Option FrameMode
 | .normal| .ret=>some .returning
 | .panic ch=>some (.panicking ch)
 |_=>none
def adj (P:Program)(rs:List ResultVar)(R:AV->av->Prop)(g:FuncId)(c:List AV):dl:=λe env H D=>D=[]/\ ∃u,L8 e=some u/\ ∃d H0 f,H.Perm (d++H0)/\EvD P g c d u (lk u).2 f/\settle (lk u).2= .returning/\
 ∀b,f b-> ∃res a,my P env (b++H0) rs res/\R res a/\a.Sublist (b++H0)
def adN (P:Program)(N:Nat)(rs:List ResultVar)(R:AV->av->Prop)(a:FuncId)(t:Nat)(xs:List Operand)(lc:bZ)(env:Env)(H:av)(D:List Nat):Prop:=
 D=[]/\(xs.map (bG env)).all (λp=> !p.bT)=true/\aU P none N lc (adj P rs R a (xs.map (bG env))) (eC env t (.fn (.func a) [] (xs.map (bG env)))) H []
structure Stp (p:Prop):Prop where
 h:p
def noP:dl:=λ_ _ _ _=>False
theorem iM.defer {A B:bZ}{k:FuncId}{xs:List Operand}{R:AV->av->Prop}
  (ok:sI P f N rs (.seq A (.seq B (.seq (.ops [⟨some t,none,.yM (.func k) [] xs⟩,⟨none,none,.other (Cv (.tmp t))⟩]) lc))))
  (h:aU P none N A (kX (λenv H D=>Stp (aU P none N B (kX (λenv H D=>Stp (adN P N rs R k t xs lc env H D)) noP) env H D)) noP) (jN args) Hin []):iM P f args Hin R:=by
 obtain⟨fn,hf,hn,rfl,c6,E⟩:=ok.fn;obtain⟨c,hb,E⟩:=et.1 E;refine⟨⟨fn,hf,hn,by rw[hb];rfl⟩,?_⟩;intro S w vs V W x q c0;have K:=eF E;generalize m:bZ.seq A (.seq B (.seq (.ops [⟨some t,none,.yM (.func k) [] xs⟩,⟨none,none,.other (Cv (.tmp t))⟩]) lc))=LL at K;cases K<;>try cases m
 rename_i cA c1 hA h1;generalize m:bZ.seq B (.seq (.ops [⟨some t,none,.yM (.func k) [] xs⟩,⟨none,none,.other (Cv (.tmp t))⟩]) lc)=LL at h1;cases h1<;>try cases m
 rename_i cB c2 hB h2;generalize m:bZ.seq (.ops [⟨some t,none,.yM (.func k) [] xs⟩,⟨none,none,.other (Cv (.tmp t))⟩]) lc=LL at h2;cases h2<;>try cases m
 rename_i cD cR J hR;generalize b5:bZ.ops [(⟨some t,none,.yM (.func k) [] xs⟩:aQ),⟨none,none,.other (Cv (.tmp t))⟩]=AA at J;cases J<;>try cases b5
 rename_i id arr hm;have b2:arr.size=2:=by have:=hm.length;simpa using this.symm
 rw[b2]at hm;obtain⟨l0,d7,e0,m0,hm⟩:=hm;cases e0;obtain⟨l1,d8,e1,m1,_⟩:=hm;cases e1;obtain⟨o0,c3,b7,M,Y,d4⟩:=m0.at_;obtain⟨o1,c4,b8,d2,Z,d5⟩:=m1.at_;have T:o0.guard=none:=bD;have U:o1.guard=none:=bD;rw[<-callsIn_wide];apply callsIn_of_wp_marks hf hb zq;let C:=Qi V W q fn.ntmps;have hs:Sat C _ _ _ _ _ _ _:=Sat.init V W x q c0 fn.ntmps;generalize d3:({tmps:=vs.toArray++e6 (fn.ntmps-vs.toArray.size) undef,defers:=[]}:Act)=a0 at hs ⊢
 refine wpIn_seq (wpIn_mono (h cA hA _ _ w S _ zz hs) ?_);rintro e a1 w1 ⟨c',H1,D1,S1,L1,c7,hq⟩;cases e<;>try exact hq.elim
 refine wpIn_seq (wpIn_mono (hq.h cB hB _ a1 w1 S1 L1 zz c7) ?_);rintro e a2 w2 ⟨i,H2,D2,S2,L2,c8,a8⟩;cases e<;>try exact a8.elim
 obtain⟨rfl,X,uR⟩:=a8.h;refine wpIn_seq (wpIn_region ?_);rw[b2];have a6:o1.op=Cv (.tmp t):=by cases Z;assumption
 simp only[gQ,e8,wpOpsIn,c3,c4,gG T,gG U,if_true];have b':aO P none fn.ntmps (.yM (.func k) [] xs) (some t) i H2 [] (λe h d=>e=eC i t (.fn (.func k) [] (xs.map (bG i)))/\h=H2/\d=[]):=
  aO.plain (by simp only[lj,List.map_nil,List.all_nil,fe,X,if_true]) zz dO
 apply b' o0 b7 M Y C a2 w2 S2 L2 zz c8 _ _;rintro d0 H3 D3 y w3 S3 L3 ⟨rfl,rfl,rfl⟩ a _;have n:=a.sA (bN _ _ _) zz;simp only[bf,aS]at n;obtain⟨fs,cs,n,rfl,St⟩:=n;generalize a2.put (some t) y=I at a n ⊢;have b9:I.eval (.tmp t)= .func (.func k) #[] cs.toArray:=n;have L:o1.dst=none:=b8;refine⟨λ_ _=>trivial,?_⟩;have eD:((o1.semAt ec.round I.eval).run P w3)= .ok (.defer {target:=.fn (.func k) cs.toArray,args:= #[]}) w3:=by show ((o1.semAt none I.eval).run P w3)=_;rw[Oper.semAt_none];simp [execOp,a6,Cv,resolve,hr,b9]
 rw[eD,Oper.uponIn_defer,L];generalize hd:({target:=.fn (.func k) cs.toArray,args:= #[]}:Deferred)=d;let C2:rX:={A:=C.A,w0:=C.w0,S0:=S3,F:=C.F,N:=fn.ntmps,hA:=C.hA,hg:=C.hg.mono a.le,hgA:=C.hgA,hgI:=C.hgI,base:=[d]};have c9:Sat C2 (eC i t (AV.fn (Fn.func k) [] (List.map (bG i) xs))) H3 [] ({I with defers:=d::I.defers}:Act) w3 S3 L3:=
  {size:=a.size,Fl:=by show d::I.defers=_;rw[a.Fl];rfl,le:=aI.Le.refl _,sin:=a.sin,ux:=λ_ h=>.inl h,below:=a.below,env:=a.env,heap:=a.heap,frame:=a.frame,nodup:=a.nodup,aT:=a.aT,lL:=a.lL}
 show cR.wpIn ec 0 P _ _ _;refine wpIn_mono (uR cR hR C2 _ w3 S3 L3 zz c9) ?_;rintro e a5 w5 ⟨d1,H5,D5,S5,L5,b0,rfl,u,hu,Hd,H0,R',G,hD,b1,Q⟩;have l:=b0.Pq G;have z:a5.defers=[d]:=b0.Fl;have b3:u≠.run:=by rintro rfl;cases e<;>simp [L8]at hu
 have key:LeavesInM ec 0 P fn a5.tmps (CB S w Hin R) [d] u w5:=by
  subst hd;refine⟨b3,.inr ⟨(λh=>(by cases h)),.func k,cs.toArray,k,cs.toArray,zz,by simp [invoke,mm hD.1],λ_ _=>trivial,?_⟩⟩;have a7: ∀e∈Hd,Own (λ_=>True) S5 w5 e.1 e.2:=λe he=>(l.heap e (ey.2 (.inl he))).mF (λ_=>trivial);have a4:(Hd.map (·.1)).Nodup:=by have:=l.nodup;rw[bm,bm,cd,cd]at this;exact this.1.1
  refine(hD.2 S5 w5 cs l.gl l.sin (aS.mono l.le _ _ St) a7 a4).mono ?_;rintro e u' w6 ⟨rfl,O⟩;rcases Sat.PK (dst:=none) l (λ_ e=>by cases e) O with⟨v,res,p,S7,L7,rfl,⟨a9,c5⟩,j,d6⟩|⟨ch,p,S7,L7,rfl,⟨a9,_⟩,_⟩
  show LeavesInM ec 0 P fn a5.tmps (CB S w Hin R) [] (settle (lk u).2) w6;rw[b1];obtain⟨b4,s,r,b6,o⟩:=Q p c5;rw[<-c6]at r;obtain⟨v2,g,hv,a',hg⟩:=r.run j;refine⟨v2,hv,v2,S7,g,b4,s,zz,b6,a.le.trans j.le,j.sin,?_,j.below,a',λe he=>j.heap e (o.subset he),?_,?_⟩;intro b hb;rcases j.ux b hb with h|h
  exact a.ux b h;exact .inr h
  have:=j.nodup;rw[bm,cd]at this;exact rM o this.1;intro b e hm;obtain⟨t,ht⟩:=hg b e;refine j.aT t b ht ?_;rw[bm,ey];exact .inl ((o.map _).subset hm)
  cases a9
 cases e with
 |normal=>cases hu;show LeavesInM _ _ _ _ _ _ _ _ _;rw[z];exact key
 |ret=>cases hu;show LeavesInM _ _ _ _ _ _ _ _ _;rw[z];exact key
 |panic ch=>cases hu;show LeavesInM _ _ _ _ _ _ _ _ _;rw[z];exact key
 |_=>cases hu
end
open Go.Proofs Tryz
abbrev tm (n:Nat):Operand:=.tmp n
abbrev kc (n:Int):Operand:=.const (.int .i64 n)
abbrev ow (d:Nat)(l:kK):aQ:=⟨some d,none,l⟩
abbrev om (d x:Nat):aQ:=⟨some d,none,.tJ (.tmp x)⟩
abbrev oy (d g:Nat)(l:kK):aQ:=⟨some d,some (g,true),l⟩
abbrev oz (d g:Nat)(l:kK):aQ:=⟨some d,some (g,false),l⟩
theorem zx:an.follows .mixedOrders=true:=by kernel_rfl
theorem ofn (n:Nat):Int.ofNat n=(n:Int):=rfl
theorem ngs (n:Nat):Int.negSucc n= -(((n+1:Nat)):Int):=rfl
structure FnS (f:FuncId)(N:Nat)(rs:List ResultVar) where
 lc:bZ
 ok:sI an f N rs lc
def bg {fn:Func}(a:Tryz.prog.funcs[f]? =some fn)(b:fn.ntmps=N)(c:fn.results=rs.toArray)(lc:bZ)
 (h:fn.body.bind (cX Tryz.prog N)=some lc:=by(conv=>lhs;reduce;try dsimp only[ofn,ngs,Int.cast_ofNat_Int,Int.reduceNatCast,Nat.reduceAdd,Int.reduceNeg])) (d:(fn.name== "runtime.NumGoroutine")=false:=by kernel_rfl):FnS f N rs:=⟨lc,fn,a,d,b,by rw[c],h⟩
def S3:=bg func3 ntmps3 results3 _
def S4:=bg func4 ntmps4 results4 _
def S5:=bg func5 ntmps5 results5 _
def S6:=bg func6 ntmps6 results6 _
def S7:=bg func7 ntmps7 results7 _
def S8:=bg func8 ntmps8 results8 _
def S9:=bg func9 ntmps9 results9 _
def S10:=bg func10 ntmps10 results10 _
def S11:=bg func11 ntmps11 results11 _
def S12:=bg func12 ntmps12 results12 _
def S13:=bg func13 ntmps13 results13 _
def S14:=bg func14 ntmps14 results14 _
def S15:=bg func15 ntmps15 results15 _
def S16:=bg func16 ntmps16 results16 _
def S17:=bg func17 ntmps17 results17 _
def S18:=bg func18 ntmps18 results18 _
def S19:=bg func19 ntmps19 results19 _
def S20:=bg func20 ntmps20 results20 _
def S21:=bg func21 ntmps21 results21 _
def S22:=bg func22 ntmps22 results22 _
def S23:=bg func23 ntmps23 results23 _
def S24:=bg func24 ntmps24 results24 _
def S25:=bg func25 ntmps25 results25 _
def S26:=bg func26 ntmps26 results26 _
def S27:=bg func27 ntmps27 results27 _
def S28:=bg func28 ntmps28 results28 _
def S29:=bg func29 ntmps29 results29 _
def S30:=bg func30 ntmps30 results30 _
def S31:=bg func31 ntmps31 results31 _
def S32:=bg func32 ntmps32 results32 _
def S33:=bg func33 ntmps33 results33 _
def S34:=bg func34 ntmps34 results34 _
def S36:=bg func36 ntmps36 results36 _
def S37:=bg func37 ntmps37 results37 _
def S38:=bg func38 ntmps38 results38 _
def S39:=bg func39 ntmps39 results39 _
def S40:=bg func40 ntmps40 results40 _
def S41:=bg func41 ntmps41 results41 _
def S42:=bg func42 ntmps42 results42 _
def S43:=bg func43 ntmps43 results43 _
def S44:=bg func44 ntmps44 results44 _
def S45:=bg func45 ntmps45 results45 _
def S47:=bg func47 ntmps47 results47 _
def S48:=bg func48 ntmps48 results48 _
def S49:=bg func49 ntmps49 results49 _
def S50:=bg func50 ntmps50 results50 _
def S51:=bg func51 ntmps51 results51 _
def S52:=bg func52 ntmps52 results52 _
def S53:=bg func53 ntmps53 results53 _
def S54:=bg func54 ntmps54 results54 _
def S55:=bg func55 ntmps55 results55 _
def S56:=bg func56 ntmps56 results56 _
def S57:=bg func57 ntmps57 results57 _
def S58:=bg func58 ntmps58 results58 _
def S59:=bg func59 ntmps59 results59 _
def S60:=bg func60 ntmps60 results60 _
def S61:=bg func61 ntmps61 results61 _
def S62:=bg func62 ntmps62 results62 _
def S63:=bg func63 ntmps63 results63 _
def S64:=bg func64 ntmps64 results64 _
def S65:=bg func65 ntmps65 results65 _
def S66:=bg func66 ntmps66 results66 _
def S67:=bg func67 ntmps67 results67 _
def S68:=bg func68 ntmps68 results68 _
def S69:=bg func69 ntmps69 results69 _
def S70:=bg func70 ntmps70 results70 _
def S71:=bg func71 ntmps71 results71 _
def S72:=bg func72 ntmps72 results72 _
def S73:=bg func73 ntmps73 results73 _
def S74:=bg func74 ntmps74 results74 _
def S75:=bg func75 ntmps75 results75 _
def S76:=bg func76 ntmps76 results76 _
def S77:=bg func77 ntmps77 results77 _
def S78:=bg func78 ntmps78 results78 _
def S80:=bg func80 ntmps80 results80 _
def S81:=bg func81 ntmps81 results81 _
def S82:=bg func82 ntmps82 results82 _
def S83:=bg func83 ntmps83 results83 _
def S84:=bg func84 ntmps84 results84 _
def S85:=bg func85 ntmps85 results85 _
def S86:=bg func86 ntmps86 results86 _
def S87:=bg func87 ntmps87 results87 _
def S88:=bg func88 ntmps88 results88 _
def S89:=bg func89 ntmps89 results89 _
def S90:=bg func90 ntmps90 results90 _
def S91:=bg func91 ntmps91 results91 _
def S92:=bg func92 ntmps92 results92 _
def S93:=bg func93 ntmps93 results93 _
def S96:=bg func96 ntmps96 results96 _
def S97:=bg func97 ntmps97 results97 _
def S99:=bg func99 ntmps99 results99 _
def akT:=bg func100 ntmps100 results100 _
def alS:=bg func101 ntmps101 results101 _
def ak8:=bg func102 ntmps102 results102 _
def aj5:=bg func103 ntmps103 results103 _
def ajE:=bg func104 ntmps104 results104 _
def ahW:=bg func105 ntmps105 results105 _
def aib:=bg func106 ntmps106 results106 _
def ai7:=bg func107 ntmps107 results107 _
def aks:=bg func108 ntmps108 results108 _
def aii:=bg func109 ntmps109 results109 _
def aj2:=bg func110 ntmps110 results110 _
def ajI:=bg func111 ntmps111 results111 _
def aij:=bg func112 ntmps112 results112 _
def aiw:=bg func113 ntmps113 results113 _
def alB:=bg func114 ntmps114 results114 _
def akl:=bg func115 ntmps115 results115 _
def aj6:=bg func116 ntmps116 results116 _
def alF:=bg func117 ntmps117 results117 _
def akb:=bg func118 ntmps118 results118 _
def als:=bg func119 ntmps119 results119 _
def akM:=bg func120 ntmps120 results120 _
def akR:=bg func121 ntmps121 results121 _
def aiu:=bg func122 ntmps122 results122 _
def akP:=bg func123 ntmps123 results123 _
def amv:=bg func124 ntmps124 results124 _
def ajS:=bg func125 ntmps125 results125 _
def aiP:=bg func126 ntmps126 results126 _
def ajf:=bg func127 ntmps127 results127 _
def akH:=bg func128 ntmps128 results128 _
def al4:=bg func129 ntmps129 results129 _
def ag9:=bg func130 ntmps130 results130 _
def ahJ:=bg func131 ntmps131 results131 _
def alo:=bg func132 ntmps132 results132 _
def amf:=bg func133 ntmps133 results133 _
def akC:=bg func134 ntmps134 results134 _
def ahG:=bg func135 ntmps135 results135 _
def ajd:=bg func136 ntmps136 results136 _
def aml:=bg func137 ntmps137 results137 _
def amg:=bg func138 ntmps138 results138 _
def ajj:=bg func139 ntmps139 results139 _
def al7:=bg func140 ntmps140 results140 _
def al2:=bg func141 ntmps141 results141 _
def akA:=bg func142 ntmps142 results142 _
def alQ:=bg func143 ntmps143 results143 _
def akg:=bg func144 ntmps144 results144 _
def ajC:=bg func145 ntmps145 results145 _
def aj3:=bg func146 ntmps146 results146 _
def aiB:=bg func147 ntmps147 results147 _
def al5:=bg func148 ntmps148 results148 _
def aik:=bg func149 ntmps149 results149 _
def alv:=bg func150 ntmps150 results150 _
def aln:=bg func151 ntmps151 results151 _
def akc:=bg func152 ntmps152 results152 _
def aj7:=bg func153 ntmps153 results153 _
def aky:=bg func154 ntmps154 results154 _
def alk:=bg func155 ntmps155 results155 _
def amh:=bg func156 ntmps156 results156 _
def akZ:=bg func157 ntmps157 results157 _
def alC:=bg func158 ntmps158 results158 _
def alL:=bg func159 ntmps159 results159 _
def ahH:=bg func160 ntmps160 results160 _
def ahD:=bg func161 ntmps161 results161 _
def alZ:=bg func162 ntmps162 results162 _
def ahE:=bg func163 ntmps163 results163 _
def ajN:=bg func164 ntmps164 results164 _
def ajR:=bg func165 ntmps165 results165 _
def alE:=bg func166 ntmps166 results166 _
def akU:=bg func167 ntmps167 results167 _
def ait:=bg func168 ntmps168 results168 _
def ahL:=bg func169 ntmps169 results169 _
def ahU:=bg func171 ntmps171 results171 _
def aiq:=bg func172 ntmps172 results172 _
def amq:=bg func173 ntmps173 results173 _
def aiA:=bg func174 ntmps174 results174 _
def akF:=bg func175 ntmps175 results175 _
def akj:=bg func176 ntmps176 results176 _
def ahR:=bg func177 ntmps177 results177 _
def alW:=bg func178 ntmps178 results178 _
def aiY:=bg func179 ntmps179 results179 _
def ajQ:=bg func180 ntmps180 results180 _
def akS:=bg func181 ntmps181 results181 _
def ams:=bg func182 ntmps182 results182 _
def ak5:=bg func183 ntmps183 results183 _
def akO:=bg func184 ntmps184 results184 _
def ahw:=bg func185 ntmps185 results185 _
def akh:=bg func186 ntmps186 results186 _
def ai3:=bg func187 ntmps187 results187 _
def aiQ:=bg func188 ntmps188 results188 _
def ajy:=bg func189 ntmps189 results189 _
def ake:=bg func190 ntmps190 results190 _
def ajw:=bg func191 ntmps191 results191 _
def ak6:=bg func201 ntmps201 results201 _
def ai6:=bg func202 ntmps202 results202 _
def ajq:=bg func203 ntmps203 results203 _
def ahs:=bg func204 ntmps204 results204 _
def aje:=bg func205 ntmps205 results205 _
def alG:=bg func206 ntmps206 results206 _
def ahf:=bg func207 ntmps207 results207 _
def ajg:=bg func208 ntmps208 results208 _
def aji:=bg func209 ntmps209 results209 _
def alD:=bg func210 ntmps210 results210 _
def aiR:=bg func211 ntmps211 results211 _
def aiT:=bg func212 ntmps212 results212 _
def alc:=bg func213 ntmps213 results213 _
def alT:=bg func214 ntmps214 results214 _
def ahK:=bg func215 ntmps215 results215 _
def ahr:=bg func216 ntmps216 results216 _
def ak4:=bg func217 ntmps217 results217 _
def alp:=bg func218 ntmps218 results218 _
def alm:=bg func219 ntmps219 results219 _
def aic:=bg func220 ntmps220 results220 _
def ahy:=bg func221 ntmps221 results221 _
def aih:=bg func222 ntmps222 results222 _
def amj:=bg func223 ntmps223 results223 _
def ahc:=bg func224 ntmps224 results224 _
def ahn:=bg func225 ntmps225 results225 _
def ak3:=bg func226 ntmps226 results226 _
def alN:=bg func227 ntmps227 results227 _
def aku:=bg func228 ntmps228 results228 _
def ahm:=bg func229 ntmps229 results229 _
def akW:=bg func230 ntmps230 results230 _
def amw:=bg func231 ntmps231 results231 _
def ak1:=bg func232 ntmps232 results232 _
def aiD:=bg func233 ntmps233 results233 _
def ahz:=bg func234 ntmps234 results234 _
def ai0:=bg func235 ntmps235 results235 _
def amd:=bg func236 ntmps236 results236 _
def ajL:=bg func237 ntmps237 results237 _
def ajh:=bg func238 ntmps238 results238 _
def ajU:=bg func239 ntmps239 results239 _
def ajF:=bg func240 ntmps240 results240 _
def ahB:=bg func241 ntmps241 results241 _
def aju:=bg func242 ntmps242 results242 _
def amn:=bg func243 ntmps243 results243 _
def ajY:=bg func244 ntmps244 results244 _
def alM:=bg func245 ntmps245 results245 _
def akN:=bg func246 ntmps246 results246 _
def ahd:=bg func247 ntmps247 results247 _
def ahq:=bg func248 ntmps248 results248 _
def ajz:=bg func249 ntmps249 results249 _
def akd:=bg func250 ntmps250 results250 _
def akB:=bg func251 ntmps251 results251 _
def aiH:=bg func252 ntmps252 results252 _
def aj4:=bg func253 ntmps253 results253 _
def ajo:=bg func254 ntmps254 results254 _
def ajm:=bg func255 ntmps255 results255 _
def aj9:=bg func256 ntmps256 results256 _
def ah0:=bg func257 ntmps257 results257 _
def ahN:=bg func258 ntmps258 results258 _
def air:=bg func259 ntmps259 results259 _
def ahZ:=bg func260 ntmps260 results260 _
def alV:=bg func261 ntmps261 results261 _
def ak0:=bg func262 ntmps262 results262 _
def amb:=bg func263 ntmps263 results263 _
def aj1:=bg func264 ntmps264 results264 _
def aiO:=bg func265 ntmps265 results265 _
def amx:=bg func266 ntmps266 results266 _
def akk:=bg func267 ntmps267 results267 _
def amc:=bg func268 ntmps268 results268 _
def ahM:=bg func269 ntmps269 results269 _
def ahY:=bg func270 ntmps270 results270 _
def aiN:=bg func271 ntmps271 results271 _
def ajV:=bg func272 ntmps272 results272 _
def aly:=bg func278 ntmps278 results278 _
def ai8:=bg func279 ntmps279 results279 _
def ajM:=bg func280 ntmps280 results280 _
def ajp:=bg func281 ntmps281 results281 _
def ajJ:=bg func282 ntmps282 results282 _
def ajn:=bg func283 ntmps283 results283 _
def ae9:=bg func284 ntmps284 results284 _
def alR:=bg func285 ntmps285 results285 _
def ahh:=bg func286 ntmps286 results286 _
def al6:=bg func287 ntmps287 results287 _
def akf:=bg func288 ntmps288 results288 _
def aiG:=bg func289 ntmps289 results289 _
def ajH:=bg func290 ntmps290 results290 _
def akm:=bg func291 ntmps291 results291 _
def alx:=bg func292 ntmps292 results292 _
def ahv:=bg func293 ntmps293 results293 _
def alg:=bg func303 ntmps303 results303 _
def ag8:=bg func304 ntmps304 results304 _
def ahj:=bg func305 ntmps305 results305 _
def akI:=bg func306 ntmps306 results306 _
def aiF:=bg func307 ntmps307 results307 _
def akJ:=bg func308 ntmps308 results308 _
def ahp:=bg func309 ntmps309 results309 _
def aiI:=bg func310 ntmps310 results310 _
def akX:=bg func311 ntmps311 results311 _
def ahi:=bg func312 ntmps312 results312 _
def ali:=bg func313 ntmps313 results313 _
def aki:=bg func314 ntmps314 results314 _
def alU:=bg func315 ntmps315 results315 _
def ami:=bg func316 ntmps316 results316 _
def ajG:=bg func321 ntmps321 results321 _
def ala:=bg func322 ntmps322 results322 _
def amu:=bg func323 ntmps323 results323 _
def ah5:=bg func324 ntmps324 results324 _
def akQ:=bg func325 ntmps325 results325 _
def al0:=bg func326 ntmps326 results326 _
def ajO:=bg func327 ntmps327 results327 _
def aiK:=bg func328 ntmps328 results328 _
def amo:=bg func329 ntmps329 results329 _
def akw:=bg func330 ntmps330 results330 _
def akn:=bg func331 ntmps331 results331 _
def ajB:=bg func332 ntmps332 results332 _
def aiZ:=bg func333 ntmps333 results333 _
def aie:=bg func334 ntmps334 results334 _
def aht:=bg func335 ntmps335 results335 _
def al9:=bg func336 ntmps336 results336 _
def alY:=bg func337 ntmps337 results337 _
def akV:=bg func338 ntmps338 results338 _
def aiz:=bg func339 ntmps339 results339 _
def ahQ:=bg func340 ntmps340 results340 _
def ajZ:=bg func341 ntmps341 results341 _
def akK:=bg func343 ntmps343 results343 _
def ail:=bg func344 ntmps344 results344 _
def aid:=bg func345 ntmps345 results345 _
def akz:=bg func346 ntmps346 results346 _
def ajc:=bg func347 ntmps347 results347 _
def ah3:=bg func348 ntmps348 results348 _
def ahl:=bg func349 ntmps349 results349 _
def alH:=bg func350 ntmps350 results350 _
def ahS:=bg func351 ntmps351 results351 _
def ak9:=bg func352 ntmps352 results352 _
def aho:=bg func353 ntmps353 results353 _
def ahI:=bg func354 ntmps354 results354 _
def ahF:=bg func355 ntmps355 results355 _
def amp:=bg func356 ntmps356 results356 _
def alh:=bg func357 ntmps357 results357 _
def ai5:=bg func358 ntmps358 results358 _
def aip:=bg func359 ntmps359 results359 _
def ah9:=bg func360 ntmps360 results360 _
def ahe:=bg func361 ntmps361 results361 _
def ah4:=bg func362 ntmps362 results362 _
def ajX:=bg func363 ntmps363 results363 _
def ah7:=bg func364 ntmps364 results364 _
def amk:=bg func372 ntmps372 results372 _
def aia:=bg func373 ntmps373 results373 _
def ama:=bg func374 ntmps374 results374 _
def akr:=bg func375 ntmps375 results375 _
def ain:=bg func379 ntmps379 results379 _
def aja:=bg func380 ntmps380 results380 _
def alK:=bg func381 ntmps381 results381 _
def ahA:=bg func382 ntmps382 results382 _
def aj0:=bg func383 ntmps383 results383 _
def ajT:=bg func384 ntmps384 results384 _
def alO:=bg func385 ntmps385 results385 _
def ahb:=bg func386 ntmps386 results386 _
def aiE:=bg func387 ntmps387 results387 _
def ajl:=bg func388 ntmps388 results388 _
def alu:=bg func389 ntmps389 results389 _
def ah6:=bg func390 ntmps390 results390 _
def alt:=bg func391 ntmps391 results391 _
def ajv:=bg func393 ntmps393 results393 _
def af8:=bg func394 ntmps394 results394 _
def ajt:=bg func395 ntmps395 results395 _
def akD:=bg func396 ntmps396 results396 _
def alX:=bg func397 ntmps397 results397 _
def akp:=bg func398 ntmps398 results398 _
def alq:=bg func406 ntmps406 results406 _
def alI:=bg func409 ntmps409 results409 _
def ahg:=bg func410 ntmps410 results410 _
def akt:=bg func411 ntmps411 results411 _
def ai2:=bg func412 ntmps412 results412 _
def alw:=bg func413 ntmps413 results413 _
def ai1:=bg func414 ntmps414 results414 _
def ame:=bg func415 ntmps415 results415 _
def aka:=bg func416 ntmps416 results416 _
def akv:=bg func417 ntmps417 results417 _
def aha:=bg func418 ntmps418 results418 _
def al8:=bg func419 ntmps419 results419 _
def ahP:=bg func421 ntmps421 results421 _
def ahu:=bg func422 ntmps422 results422 _
def aj8:=bg func423 ntmps423 results423 _
def ajK:=bg func424 ntmps424 results424 _
def ahX:=bg func425 ntmps425 results425 _
def akL:=bg func426 ntmps426 results426 _
def alb:=bg func430 ntmps430 results430 _
def ahV:=bg func431 ntmps431 results431 _
def amy:=bg func432 ntmps432 results432 _
def ah2:=bg func433 ntmps433 results433 _
def ahC:=bg func437 ntmps437 results437 _
def amr:=bg func438 ntmps438 results438 _
def ajk:=bg func439 ntmps439 results439 _
def aiS:=bg func440 ntmps440 results440 _
def alJ:=bg func441 ntmps441 results441 _
def aiJ:=bg func442 ntmps442 results442 _
abbrev L34:bZ:=S34.lc
abbrev af1:bZ:=af8.lc
section
variable {x y:bZ}{l2:List aQ}{hs':List Hint}{ob:Prop}
theorem aJ (h:mD P [] H ls [] env=(env',[],hs',True))(k:aU P r N y Q env' H D):aU P r N (.seq (.ops ls) y) Q env H D:=aU.sx h trivial k
theorem Ik (h:mD P [] H ls [] env=(env',[],hs',ob))(o:ob)(k:aU P r N y Q env' H D):aU P r N (.seq (.ops ls) y) Q env H D:=aU.sx h o k
theorem bE (hs:List Hint)(h:mD P [] H ls hs env=(env',[],hs',ob))(o:ob)(k:aU P r N y Q env' H D):aU P r N (.seq (.ops ls) y) Q env H D:=aU.sx h o k
theorem vS (gs:List (Nat×Bool))(hs:List Hint)(h:mD P gs H ls hs env=(env',[],hs',ob))(o:ob)(k:aU P r N y Q env' H D):aU P r N (.seq (.ops ls) y) Q env H D:=aU.sx h o k
theorem cZ (h:mD P [] H ls [] env=(env',[],hs',True))(k:Q .normal env' H D):aU P r N (.ops ls) Q env H D:=aU.xq h trivial k
theorem fE (h:mD P [] H ls [] env=(env',[],hs',ob))(o:ob)(k:Q .normal env' H D):aU P r N (.ops ls) Q env H D:=aU.xq h o k
theorem kn (hs:List Hint)(h:mD P [] H ls hs env=(env',[],hs',ob))(o:ob)(k:Q .normal env' H D):aU P r N (.ops ls) Q env H D:=aU.xq h o k
theorem kD (gs:List (Nat×Bool))(hs:List Hint)(h:mD P gs H ls hs env=(env',[],hs',ob))(o:ob)(k:Q .normal env' H D):aU P r N (.ops ls) Q env H D:=aU.xq h o k
theorem gk (h:mD P [] H ls [] env=(env',[],hs',True))(k:Q .normal env' H D):aY P r N ls Q env H D:=aY.xd h trivial k
theorem xdA (h:mD P [] H ls [] env=(env',[],hs',ob))(o:ob)(k:Q .normal env' H D):aY P r N ls Q env H D:=aY.xd h o k
theorem VR (hs:List Hint)(h:mD P [] H ls hs env=(env',[],hs',ob))(o:ob)(k:Q .normal env' H D):aY P r N ls Q env H D:=aY.xd h o k
theorem xdG (gs:List (Nat×Bool))(hs:List Hint)(h:mD P gs H ls hs env=(env',[],hs',ob))(o:ob)(k:Q .normal env' H D):aY P r N ls Q env H D:=aY.xd h o k
theorem lY (n:Nat)(h:mD P [] H (ls.take n) [] env=(env',[],hs',True))(a:ls.drop n=l2)(k:aY P r N l2 Q env' H D):aY P r N ls Q env H D:=aY.xn n h a trivial k
theorem Rz (n:Nat)(h:mD P [] H (ls.take n) [] env=(env',[],hs',ob))(a:ls.drop n=l2)(o:ob)(k:aY P r N l2 Q env' H D):aY P r N ls Q env H D:=aY.xn n h a o k
theorem mO (hs:List Hint)(n:Nat)(h:mD P [] H (ls.take n) hs env=(env',[],hs',ob))(a:ls.drop n=l2)(o:ob)(k:aY P r N l2 Q env' H D):aY P r N ls Q env H D:=aY.xn n h a o k
theorem xnG (gs:List (Nat×Bool))(hs:List Hint)(n:Nat)(h:mD P gs H (ls.take n) hs env=(env',[],hs',ob))(a:ls.drop n=l2)(o:ob)(k:aY P r N l2 Q env' H D):aY P r N ls Q env H D:=aY.xn n h a o k
theorem nw (hs:List Hint)(h:eD P [] ls hs env H=(env',H',[],hs',ob))(o:ob)(k:aU P r N y Q env' H' D):aU P r N (.seq (.ops ls) y) Q env H D:=aU.shx h o k
theorem hxH (hs:List Hint)(h:eD P [] ls hs env H=(env',H',[],hs',ob))(o:ob)(k:Q .normal env' H' D):aU P r N (.ops ls) Q env H D:=aU.hx h o k
theorem aD (h:env t=res)(hl:res.bT=false:=by rfl):qn P [.tmp t] res .ret env H []:=gv (.inr rfl) (.one (.tmp h hl))
theorem iF (l:List (Nat×AV))(k:aU P r N x Q (el l) H D)(h:uX env l:=by(repeat' first|exact trivial|refine⟨rfl,?_⟩)):aU P r N x Q env H D:=aU.oj (bO.el h) k
theorem Ug (l:List (Nat×AV))(k:aY P r N ls Q (el l) H D)(h:uX env l:=by(repeat' first|exact trivial|refine⟨rfl,?_⟩)):aY P r N ls Q env H D:=aY.oj (bO.el h) k
theorem eL {l:List (Nat×AV)}(h:uX env l:=by(repeat' first|exact trivial|refine⟨rfl,?_⟩)):bO env H D (el l) H D:=bO.el h
theorem cj (I:Prop)(E:Env)(b:av)(a:List Nat)(h:aU P r N x (rC i (kX (λe h d=> ∃c:Unit,I/\bO e h d E b a) Q)) env H D)
 (k:Unit->I->aU P r N y Q E b a):aU P r N (.block i x) (kX (λe h d=>aU P r N y Q e h d) Q) env H D:=aU.iN (λ_:Unit=>I) (λ_=>E) (λ_=>b) (λ_=>a) h k
theorem dw (I:Prop)(E:Env)(b:av)(a:List Nat)(h:aU P r N x (rC i (kX (λe h d=> ∃c:Unit,I/\bO e h d E b a) Q)) env H D)
 (k:Unit->I->aU P r N y Q E b a):aU P r N (.seq (.block i x) y) Q env H D:=aU.sH (λ_:Unit=>I) (λ_=>E) (λ_=>b) (λ_=>a) h k
theorem eZ (I:Prop)(E:Env)(b:av)(a:List Nat)(h:aU P r N x (kX (λe h d=> ∃c:Unit,I/\bO e h d E b a) Q) env H D)
 (k:Unit->I->aU P r N y Q E b a):aU P r N (.seq x y) Q env H D:=aU.G2 (λ_:Unit=>I) (λ_=>E) (λ_=>b) (λ_=>a) h k
theorem gf (I:Nat->Prop)(E:Nat->Env)(m:Nat->Nat)(c:Nat)(a:I c)(e:bO env H D (E c) [] [])
 (f: ∀i,I i->aU P r N x (kX (λenv' H' d=> ∃b,I b/\m b<m i/\bO env' H' d (E b) [] []) Q) (E i) [] []):aU P r N (.loop x) Q env H D:=aU.Tf I E (λ_=>[]) (λ_=>[]) m c a e f
end
section
variable {y:bZ}{ops rest:List (aQ×List Nat)}{hs':List Hint}{ob:Prop}{infos:List (List Nat×List Nat)}
theorem xe (gs:List (Nat×Bool))(hs:List Hint)(h:BK Tryz.prog gs H ops hs env=(env',infos,[],hs',ob))(o:ob)(k:aU Tryz.prog r N y Q env' H D)(a:rk (ops.map (·.2)) infos=true:=by kernel_rfl):aU Tryz.prog r N (.seq (.nj ops) y) Q env H D:=aU.sd zx h a o k
theorem tI (gs:List (Nat×Bool))(hs:List Hint)(h:BK Tryz.prog gs H ops hs env=(env',infos,[],hs',ob))(o:ob)(k:Q .normal env' H D)(a:rk (ops.map (·.2)) infos=true:=by kernel_rfl):aU Tryz.prog r N (.nj ops) Q env H D:=aU.dd zx h a o k
theorem zg (gs:List (Nat×Bool))(hs:List Hint)(h:BK Tryz.prog gs H ops hs env=(env',infos,rest,hs',ob))(o:ob)(k:aY Tryz.prog r N (rest.map (·.1)) Q env' H D)(a:rk (ops.map (·.2)) infos=true:=by kernel_rfl):aU Tryz.prog r N (.nj ops) Q env H D:=aU.dq zx h a o k
end
theorem nL:(∀(p:Prop) [Decidable p],(decide p=true)=p)/\(∀(p:Prop) [Decidable p],(decide p=false)= ¬p)/\(∀b:Bool,((!b)=true)=(b=false))/\(∀b:Bool,((!b)=false)=(b=true))/\(∀(α:Type) [BEq α] [LawfulBEq α] (a b:α),((a !=b)=true)=(a≠b))/\(∀(α:Type) [BEq α] [LawfulBEq α] (a b:α),((a !=b)=false)=(a=b))/\(∀(α:Type) (a b:α),(a≠b)= ¬(a=b))/\(∀(α:Type) [BEq α] [LawfulBEq α] (a b:α),((a==b)=true)=(a=b))/\(∀(α:Type) [BEq α] [LawfulBEq α] (a b:α),((a==b)=false)=(a≠b))/\(∀a b:Nat,((a:Int)<b)=(a<b))/\(∀a b:Nat,((a:Int)<=b)=(a<=b))/\(∀(α β:Type) (f:α->β) (l:List α),(l.map f).length=l.length)/\(∀(α:Type) [LT α] (a b:α),(a>b)=(b<a))/\(∀(α:Type) [LE α] (a b:α),(a>=b)=(b<=a)):=
 ⟨λ_ _=>decide_eq_true_eq,λ_ _=>aF,λ_=>aF,λ_=>aF,λ_ _ _ _ _=>aF,λ_ _ _ _ _=>aF,λ_ _ _=>rfl,λ_ _ _ _ _=>aF,λ_ _ _ _ _=>aF,λ_ _=>aF,λ_ _=>aF,λ_ _ _ _=>aF,λ_ _ _ _=>rfl,λ_ _ _ _=>rfl⟩
section
variable {K:Nat->List (VH an)}{L:Nat->Option (LH an)}
def vwS (r:Option Nat)(N:Nat)(L:Nat->Option (LH an))(c:bZ)(K:Nat->List (VH an))(i:Nat)(Q:dl)(H:av)(env:Env)(D:List Nat):Prop:=match c with
 | .seq a b=>VW an r N L a K i (kX (λenv H D=>VW an r N L b K i Q H env D) Q) H env D
 | .ops l=>VO an r N K l [] Q H env D
 | .nj l=>vdr an r N K l Q H env D
 | .ite c a b=>acp an r N L c a b K i Q H env D
 | .block id a=>VW an r N L a K id (Lp id Q) H env D
 | .exit id=>Q (.exit id) env H D
 | .ret=>Q .ret env H D
 | .skip=>Q .normal env H D
 | .label _=>Q .normal env H D
 | .scope a=>VW an r N L a K i (MV Q) H env D
 | .loop a=>Vb an r N L a K i Q H env D
 |_=>False
theorem VW.st {c:bZ}(h:vwS r N L c K i Q H env D):VW an r N L c K i Q H env D:=by
 cases c with
 |seq a b=>exact VW.seq h
 |ops l=>exact VW.ops h
 |nj l=>exact VW.nj zx h
 |ite c a b=>exact VW.ite h
 |block id a=>exact VW.block h
 |exit id=>exact VW.exit h
 |ret=>exact VW.ret h
 |skip=>exact VW.skip h
 |label _=>exact VW.label h
 |scope a=>exact VW.scope h
 |loop a=>exact VW.loop h
 |_=>exact h.elim
theorem VO.st {l:List aQ}(h:match l with|[]=>Q .normal env H D|l::ls=>Pk an K (λch H env=>Q (.panic ch) env H D) l gs H env (λgs H env=>VO an r N K ls gs Q H env D)):VO an r N K l gs Q H env D:=by
 cases l with
 |nil=>exact VO.nil h
 |cons _ _=>exact VO.cons h
theorem VD.st {acc:List (List Nat×List Nat)}{k:Env->List (List Nat×List Nat)->Prop}{l:List (aQ×List Nat)}(h:match l with|[]=>k env acc.reverse|(l,_)::ls=>ace an K gs l H env (λenv x=>VD an r N K gs H D ls env (x::acc) k)):VD an r N K gs H D l env acc k:=by
 cases l with
 |nil=>exact VD.nil h
 |cons _ _=>exact VD.cons h
end
theorem zk (p:Prop)(h:p:=by first|(with_reducible exact trivial)|(with_reducible rfl)|(with_reducible assumption)|((with_reducible apply isB);first|exact rfl|exact beq_self_eq_true _)|omega):p:=h
theorem zt (p:Prop)(h:p:=by first|(with_reducible exact trivial)|(with_reducible rfl)|(with_reducible assumption)|((with_reducible apply isB);first|exact rfl|exact beq_self_eq_true _)):p:=h
theorem fi (p:Prop)(h:p:=by first|exact trivial|(refine O5.mk ?_;kernel_rfl)|(refine Ob.mk ?_;exact pf _)):p:=h
theorem fo (p:Prop)(h:p:=by first|exact trivial|(refine O5.mk ?_;kernel_rfl)):p:=h
section
theorem VW.hh (K:List (Nat×List (VH an)))(L:List (Nat×LH an))(h:VW an r N (lh L) lc (kh K) 0 Q H env D):aU an r N lc Q env H D:=h.h
theorem VW.go (K:List (Nat×List (VH Tryz.prog)))(L:List (Nat×LH Tryz.prog))(h:VW Tryz.prog r N (lh L) lc (kh K) 0 Q H env D:=by(repeat' first|apply VW.st|apply VO.st|apply VD.st|apply VS.step|apply And.intro|(intro a;(try simp only[nL]at a);(try contradiction)));all_goals exact fi _):aU Tryz.prog r N lc Q env H D:=h.h
theorem Ev.go (ok:sI Tryz.prog f N rs lc)(K:List (Nat×List (VH Tryz.prog)))(L:List (Nat×LH Tryz.prog))(h:VW Tryz.prog none N (lh L) lc (kh K) 0 (Bq Tryz.prog rs res) [] (jN args) []:=by(repeat' first|apply VW.st|apply VO.st|apply VD.st|apply VS.step|apply And.intro|(intro a;(try simp only[nL]at a);(try contradiction)));all_goals exact fi _):Ev Tryz.prog f args res:=Ev.vc ok _ _ h
theorem FX.go {c:Bool}{Ho:av}{ch:List PanicEntry}{RP:av->Prop}(ok:sI Tryz.prog f N rs lc)(K:List (Nat×List (VH Tryz.prog)))(L:List (Nat×LH Tryz.prog))(h:VW Tryz.prog none N (lh L) lc (kh K) 0 (N4 Tryz.prog rs c res Ho ch RP) Hin (jN args) []:=by(repeat' first|apply VW.st|apply VO.st|apply VD.st|apply VS.step|apply And.intro|(intro a;(try simp only[nL]at a);(try contradiction)));all_goals exact fi _):FX Tryz.prog f args Hin c res Ho ch RP:=FX.vc ok _ _ h
end
theorem fJ {u:Nat}{a b:AV}(h:env t=a)(g:env u=b)(hl:a.bT=false:=by rfl)(gl:b.bT=false:=by rfl):qn P [.tmp t,.tmp u] (.cG [a,b]) .ret env H []:=gv (.inr rfl) (.many aF ⟨.tmp h hl,.tmp g gl,trivial⟩)
abbrev aa:= @aU.seq
abbrev ab:= @aU.ret
abbrev ar:= @Ev.intro
abbrev ai:= @bO.trans
abbrev ak:= @aU.skip
abbrev aj:= @aU.ite
abbrev ag:= @aU.oj
abbrev ah:= @aY.cons
abbrev au:= @bO.el
abbrev ax:= @VS.step
abbrev ay:= @aU.block
abbrev aA:= @aU.ops
abbrev qT:= @aI.Le.refl
abbrev aE:= @aU.exit
abbrev aw:= @bO.ofH
abbrev aN:= @VW.st
abbrev aM:= @VO.st
abbrev aL:= @VD.st
abbrev aC:= @aU.itt
abbrev aW:= @mg.refl
abbrev bj:= @fK.refl
abbrev aH:= @aU.its
abbrev cM:= @bO.perm
abbrev bH:= @iM.intro
abbrev aq:= @bO.jL
abbrev bF:= @aY.nil
abbrev aR:= @aY.oj
abbrev fc:= @VW.hh
abbrev cV:= @FX.vc
abbrev di:= @Ev.vc
abbrev bJ:= @aU.Tf
abbrev bz:= @aO.G6
abbrev eB:= @Ev.freeze
abbrev iG:= @Ev.go
abbrev cC:= @aO.aew
abbrev cq:= @aO.aa7
abbrev dm:= @aU.itf
abbrev nW:= @aU.mono
abbrev fl:= @aU.afW
abbrev bW:= @aU.ie
abbrev iP:= @fK.nil
abbrev cW:= @bO.xI
abbrev gn:= @aU.aal
abbrev dW:= @bO.LQ
open Go.ChangeShapes Go.WideShapes Go.ChangeAt Go.RowKit
/-- From a contract to a row that lists variables. -/
theorem LJ {H : Type}{ao : TypeId × Value -> H}{C : Checked}{os : Os}{fn : Func}{s : ChangeSpec}{a : List PathCond}{laid : List (String × DataW Unit)}
    (own : ownKnob C.prog.godebug = none) (b : os.Started) (d : C.prog.inits.idxOf? f = none) (E : C.prog.funcs[f]? = some fn)
    (c : ∃ (w : World) (tape : Tape) (i : Input), w.os = os /\ (w.forCall tape i).Shaped C.prog /\ i.vars = [] /\ Input.okWide C.prog (w.forCall tape i) .any w.heap.size f i /\
      ((s.pre ao C.prog fn a false (w.forCall tape i).memory i.args /\ laidMetH C.prog laid (w.forCall tape i).memory) /\ sizedMet ao C.prog fn (OpenSpec.ofChange s) false (w.forCall tape i).memory i.args) /\ ({} : Assume).holds C.prog (lone (Frame.enter C.prog f i.args .normal) [] (w.forCall tape i)))
    (hl : laidOutB C.prog = true) (ss : List Sh) (L : kO C.prog ss fn.params.toList = true) (N : TypeId) (T : fn.resultTypes = #[N]) (Q : C.prog.underlying N = some .bool)
    (M : s.vars = []) (l : ∀ m : List (DataW H), m.length = fn.params.toList.length -> s.fn H m = { results := [.lit (.bool true)], args := m })
    (F : ∀ W : World, W.ShapedOpen C.prog -> laidMetH C.prog laid W -> te (aI.eo W) W) (ev : ∀ zs, Fe ss zs -> Ev C.prog f zs (.v (.bool true))) :
    ReturnsInHanded {} C os f .any (λw args => (s.pre ao C.prog fn a false w args /\ laidMetH C.prog laid w) /\ sizedMet ao C.prog fn (OpenSpec.ofChange s) false w args) (s.post ao C.prog fn false true false false) := by
  refine returnsInHanded_of_calls own b d c ?_
  intro w tape i _ x _ G r _
  obtain ⟨_, _, _, z, n, _, _, _, _, mC⟩ := G
  have e : z = fn := Option.some.inj (n.symm.trans E)
  subst e
  obtain ⟨⟨⟨m, gs, y, U, hc⟩, hx⟩, Y⟩ := r
  have A := DataW.Whole.of_heap (w' := w.forCall tape i) (by rfl) U
  have hx : laidMetH C.prog laid (w.forCall tape i) := hx.of_heap (by rfl)
  generalize w.forCall tape i = W at x mC A hx
  have B := A
  obtain ⟨p, q, hA, K, rfl, R, S⟩ := A
  rw [M] at K
  obtain ⟨rfl, rfl⟩ := trodVars_none K
  obtain ⟨zs, I, D, o⟩ := NY L (λj t v O P => mC j t v (by simpa using O) (by simpa using P)) hA
  have hc := (ev zs D).2 (aI.eo W) W i.args.toList (F W x hx) (aI.Cx W) I
  rw [Array.toArray_toList] at hc
  refine Calls.mono hc ?_
  rintro e X ⟨v, V, g, rfl, _, _, _, J, u⟩
  simp only [cH, bf] at u
  have k := l (m ++ []) (by simpa using o)
  refine ChangeSpec.post_blind ⟨m, [], p ++ [], [], p, [], B, ?_, ?_, ?_, J.frame _, λh => by cases h⟩
  · rw [k, T]
    obtain ⟨_, rfl⟩ := u
    exact trodAll_mk1 (shut_bool Q _)
  · rw [k, List.append_nil]
    exact Fi hl J L hA
  · rw [k, M]
    rfl
/-- What a listed table of numbers holds. -/
theorem RZ {k : IntKind}{t e : TypeId}{cs : List Value}{zs : List Int}{p : List MemPlace}(n : P.underlying t = some (.array N e))(he : P.underlying e = some (.int k))(j : P.cellsOf e = 1)(o : P.cellsOf t = N)
    (h : eM (λ_ => ()) P w 0 (λ_ => true) false a t cs = some (.agg (zs.map λz => .lit (.int k z)), p)) : cs = zs.map (.int k) := by
  obtain ⟨xs, m, _, ex, hc, hl, c⟩ := DataW.trod_array n h
  simp only [Prod.mk.injEq, hz] at ex
  apply List.ext_getElem?
  intro r
  have q : zs.length = xs.length := by have := congrArg List.length ex.1; simpa using this
  by_cases l : r < N
  · have d := c r l
    rw [j, Nat.mul_one, bk (by omega)] at d
    obtain ⟨z, f, g, _⟩ := DataW.trod_int he d
    have b : (zs.map λz => (DataW.lit (.int k z) : DataW Unit))[r]? = (xs.map (·.1))[r]? := by rw [ex.1]
    rw [bA, bA, bk (by omega : r < xs.length), bk (by omega : r < zs.length), g] at b
    simp only [e9, bt, hC, Lit.int.injEq, true_and] at b
    have i : ((cs.drop r).take 1)[0]? = some (.int k z) := by rw [f]; rfl
    rw [bA, bk (by omega : r < zs.length)]
    simp only [e9, b]
    simpa using i
  · rw [cy (by omega), cy (by rw [e7]; omega)]
/-- A listed interface that holds something. -/
theorem D8 {t : TypeId}{ms : Array (String × TypeId)}{cs : List Value}{n : String}{d : DataW Unit}{p : List MemPlace}(b : P.underlying t = some (.interface ms))
    (h : eM (λ_ => ()) P w 0 (λ_ => true) false a t cs = some (.iface n d, p)) : ∃ u v, cs = [.iface u v] := by
  cases a with
  | zero => simp [eM] at h
  | succ m =>
    unfold eM at h
    rw [b] at h
    split at h <;> simp_all
theorem drop_cons {l:List e}{k:Nat}{x:e}(h:l[k]? =some x):l.drop k=x::l.drop (k+1):=by obtain⟨hk,rfl⟩:=ap.1 h;exact ek hk
theorem drop_nil {l:List e}{k:Nat}(h: ¬k<l.length):l.drop k=[]:=eu af
theorem bq {l:List e}{k:Nat}(h:k<l.length): ∃x,l[k]? =some x:=⟨l[k],by simp [h]⟩
def eO:List Int->List Int->Bool
 |_,[]=>false
 |[],_::_=>true
 |a::x,b::y=>if a=b then eO x y else decide (a<b)
theorem Hk (a b:List Int):Ev an 68 [ints a,ints b] (B (eO a b)):=by
 refine ar S68.ok<|gn 0 zz λha=>gn 1 zz λm=>?_;simp at ha m;refine aJ zz<|aJ zz<|aU.sH (λk:Nat=>k<=a.length/\k<=b.length/\eO a b=eO (a.drop k) (b.drop k)/\ ∀x y,a[k]? =some x->b[k]? =some y->x≠y) (λk=>el [(0,ints a),(1,ints b),(5,I k)]) (λ_=>[]) (λ_=>[]) ?_ ?_
 refine gf (λk:Nat=>k<=a.length/\k<=b.length/\eO a b=eO (a.drop k) (b.drop k)) (λk=>el [(0,ints a),(1,ints b),(5,I k)]) (λk=>a.length-k) 0 ⟨af,af,zz⟩
  eL ?_
 rintro k ⟨h,i,e⟩;by_cases c:k<a.length;by_cases d:k<b.length;have hx:a[k]? =some a[k]:=aF;have hy:b[k]? =some b[k]:=aF;refine aa (aa ?_);refine tI [(10,true),(16,true)] [.cells [I a[k]],.cells [I b[k]]] zz (by simp [c,d])<|aj zz (λhc=>?_) (λhc=>?_)
 simp at hc;refine ak<|ay<|fE zz bL ?_;refine⟨k+1,⟨af,af,?_⟩,af,eL⟩;rw[e,drop_cons hx,drop_cons hy,eO,zy hc]
 simp at hc;refine aE ⟨k,⟨h,i,e,λu v f g=>?_⟩,eL⟩;rw[hx]at f;rw[hy]at g;cases f;cases g;exact hc
 refine aa (aa ?_);refine tI [(10,true),(16,false)] [] zz (by simp [c,d])<|aj zz (λhc=>by cases hc) (λhc=>?_);refine aE ⟨k,⟨h,i,e,λu v f g=>?_⟩,eL⟩;exact absurd (ap.1 g).1 d
 refine aa (aa ?_);refine tI [(10,false),(16,false)] [] zz (by simp [c])<|aj zz (λhc=>by cases hc) (λhc=>?_);refine aE ⟨k,⟨h,i,e,λu v f g=>?_⟩,eL⟩;exact absurd (ap.1 f).1 c
 rintro k ⟨h,i,e,h4⟩;refine aa<|aJ zz<|aj zz (λhc=>?_) (λhc=>?_);simp at hc;refine aJ zz<|ab (aD ?_);rw[e,drop_nil (l:=b) af];cases a.drop k<;>rfl;simp at hc;have d:k<b.length:=af;obtain⟨y,hy⟩:=bq d;apply ak;by_cases c:k<a.length;obtain⟨x,hx⟩:=bq c;have j: ¬((k:Int)=a.length):=af;refine xe [(37,false)] [.cells [I x],.cells [I y]] zz (by simp [j,hx,hy])<|ab (aD ?_);show B _=B _;rw[e,drop_cons hx,drop_cons hy,eO,zj (h4 x y hx hy)]
 have he:((k:Int)=a.length):=af;refine xe [(37,true)] [] zz (by simp [he])<|ab (aD ?_);rw[e,drop_nil c,drop_cons hy];rfl
def rq (a b:List Int):Bool:=decide (a.length=b.length)&&(!eO a b&& !eO b a)
theorem wN: ∀a:List Int,eO a a=false
 |[]=>rfl
 |x::a=>by simp [eO,wN a]
theorem Es: ∀{a b:List Int},rq a b=true↔a=b
 |[],[]=>by simp [rq,eO]
 |[],y::b=>by simp [rq]
 |x::a,[]=>by simp [rq]
 |x::a,y::b=>by have c:=Es (a:=a) (b:=b);simp only[rq,bl,decide_eq_true_eq,cb,dn,eO]at c ⊢;by_cases h:x=y;subst h;simp;exact⟨λh=>c.1 ⟨af,h.2⟩,λh=>⟨by rw[h],(c.2 h).2⟩⟩;have d: ¬y=x:=λe=>h e.symm;simp only[h,d,if_false,decide_eq_false_iff_not,hF,false_and,iff_false];omega
theorem ZT (a b:List Int):Ev an 23 [ints a,ints b] (B (rq a b)):=by
 refine ar S23.ok<|aJ zz ?_;by_cases h:a.length=b.length
 cases c:eO a b with
 |true=>refine vS [(10,true),(16,false)] [.ret (B true)] zz (by simp [h,<-c];exact Hk a b)<|ab (aD ?_);show B _=B _;simp [rq,h,c]
 |false=>refine vS [(10,true),(16,true)] [.ret (B false),.ret (B (eO b a))] zz (by simp [h];exact⟨by rw[<-c];exact Hk a b,Hk b a⟩)<|ab (aD ?_);show B _=B _;simp [rq,h,c]
 have d: ¬((a.length:Int)=b.length):=af;refine vS [(10,false),(16,false)] [] zz (by simp;exact d)<|ab (aD ?_);show B _=B _;simp [rq,h]
def Hf (a b:List Int):Bool:=if a.length=b.length then eO a b else decide (a.length<b.length)
def AB (bits k:Int):Bool:=decide (bits/2^k.toNat%2=1)
abbrev SL (l:List Bool):AV:=.sl 1 (l.map λx=>[B x])
def bM {α:Type}(p:α->Bool):List α->Int->Int
 |[],_=> -1
 |x::l,k=>if p x=true then k else bM p l (k+1)
abbrev dt (c:List Nat):List Int:=c.map λ(n:Nat)=>(n:Int)
def aP (p:List Nat)(i:Nat):Nat:=(p[i]?).getD 0
theorem km {p:List Nat}(h:i<p.length):p[i]? =some (aP p i):=by unfold aP;rw[bk h];rfl
theorem rI (p:List Nat){k:Nat}(h:k<p.length):((dt p).map λx=>[I x])[k]? =some [I ((aP p k:Nat):Int)]:=by rw[bA];unfold dt;rw[bA,km h];rfl
theorem gi (p:Prop)(h:p:=by first|exact fi _|exact⟨af,mR af⟩|exact⟨af,rI _ af⟩|exact⟨zh _ af⟩|exact⟨zh _ _ af⟩|(refine Ob.mk ?_;grind)):p:=h
theorem Ev.gg (ok:sI Tryz.prog f N rs lc)(K:List (Nat×List (VH Tryz.prog)))(L:List (Nat×LH Tryz.prog))(h:VW Tryz.prog none N (lh L) lc (kh K) 0 (Bq Tryz.prog rs res) [] (jN args) []:=by(repeat' first|apply VW.st|apply VO.st|apply VD.st|apply VS.step|apply And.intro|(intro a;(try simp only[nL]at a);(try contradiction)));all_goals exact gi _):Ev Tryz.prog f args res:=Ev.vc ok _ _ h
theorem Ev.gl (t:Nat){k:Nat}(d:jN args t= .sl k es)(ok:sI Tryz.prog f N rs lc)(K:List (Nat×List (VH Tryz.prog)))(L:List (Nat×LH Tryz.prog))(h:es.length<=9223372036854775807->VW Tryz.prog none N (lh L) lc (kh K) 0 (Bq Tryz.prog rs res) [] (jN args) []:=by(intro c;simp only[List.length_map]at c;repeat' first|apply VW.st|apply VO.st|apply VD.st|apply VS.step|apply And.intro|(intro a;(try simp only[nL]at a);(try contradiction)));all_goals exact gi _):Ev Tryz.prog f args res:=Ev.intro ok (aU.aal t d λb=>aU.A3 (h b).h (λ_ _ _ _ a=>yx a))
theorem gE (K:List (Nat×List (VH an)))(L:List (Nat×LH an))(h:VW an none N (lh L) lc (kh K) 0 (Bq an rs res) H env []):aU an none N lc (qn an rs res) env H []:=aU.A3 h.h (λ_ _ _ _ a=>yx a)
theorem VT [Inhabited e]{f:e->Bool}{l:List e}{k:Nat}(h:k<l.length):(l.take (k+1)).all f=((l.take k).all f&&f (nx l k)):=by rw[cr,bP h,List.all_append];simp
theorem ud [Inhabited e](f:e->Bool)(l:List e): ∃A:Nat->Bool,A 0=true/\(∀k,k<=l.length-> ¬k<l.length->A k=l.all f)/\ ∀k,k<l.length->A (k+1)=(A k&&f (nx l k)):=⟨λk=>(l.take k).all f,zz,λk _ h=>by show (l.take k).all f=_;rw[bx af],λ_=>VT⟩
theorem WD [Inhabited e](f:e->Bool)(l:List e): ∃A:Nat->Bool,A 0=false/\(∀k,k<=l.length-> ¬k<l.length->A k=l.any f)/\ ∀k,k<l.length->A (k+1)=(A k||f (nx l k)):=⟨λk=>(l.take k).any f,zz,λk _ h=>by show (l.take k).any f=_;rw[bx af],λk h=>by show (l.take (k+1)).any f=_;rw[cr,bP h,List.any_append];simp⟩
theorem jz [Inhabited e]{l:List e}{p:e->Prop}(h: ∀x∈l,p x)(hd:p default)(k:Nat):p (nx l k):=by by_cases hk:k<l.length;exact h _ (dh hk);rw[show nx l k=default by simp [nx,List.getD,cy (Nat.not_lt.1 hk)]];exact hd
theorem xM {α β:Type}{f:α->List β}{b:Nat}: ∀{l:List α},(∀x∈l,(f x).length<=b)->(l.flatMap f).length<=b*l.length
 |[],_=>by simp
 |x::l,h=>by have:=xM (l:=l) λy hy=>h y (by simp [hy]);have:=h x (by simp);simp only[List.flatMap_cons,List.length_append,dn,Nat.mul_add];omega
theorem abw {β:Type}[Inhabited e]{f:e->List β}{l:List e}{k:Nat}(h:k<l.length):(l.take (k+1)).flatMap f=(l.take k).flatMap f++f (nx l k):=by rw[cr,bP h,List.flatMap_append];simp
structure bc where
 c:Int
 s:Int
 q:Bool
 deriving DecidableEq
abbrev bh (l:List UInt8):AV:=.v (.string ⟨l.toArray⟩)
abbrev bc.ao (x:bc):List AV:=[U x.c,I x.s,B x.q]
structure iB where
 name:List UInt8
 ls:List bc
 deriving DecidableEq
abbrev lr (l:List bc):AV:=.sl 3 (l.map bc.ao)
abbrev iB.ao (x:iB):List AV:=[bh x.name,lr x.ls]
structure cL where
 a:Int
 t:List UInt8
 deriving DecidableEq
abbrev cL.ao (x:cL):List AV:=[I x.a,bh x.t]
structure dy where
 n:Int
 al:List iB
 ss:List cL
 deriving DecidableEq
abbrev aaX (l:List iB):AV:=.sl 2 (l.map iB.ao)
abbrev abS (l:List cL):AV:=.sl 2 (l.map cL.ao)
abbrev dy.ao (b:dy):List AV:=[I b.n,aaX b.al,abS b.ss]
theorem uG [Inhabited e](p:e->Bool)(l:List e): ∃Z:Nat->Prop,Z 0/\(∀k,k<l.length->Z k->p (nx l k)=false->Z (k+1))/\(∀k,k<l.length->Z k->p (nx l k)=true->bM p l 0=(k:Int))/\ ∀k,k<=l.length-> ¬k<l.length->Z k->bM p l 0= -1:=
 ⟨λk=>bM p l 0=bM p (l.drop k) k,zz,λk h z g=>by
   show _=bM p (l.drop (k+1)) _;rw[z,drop_cons (bP h),bM,g];rfl,λk h z g=>by rw[z,drop_cons (bP h),bM,g];rfl,λk h g z=>by rw[z,drop_nil g];rfl⟩
instance:Inhabited bc:=⟨⟨0,0,false⟩⟩
instance:Inhabited iB:=⟨⟨[],[]⟩⟩
instance:Inhabited cL:=⟨⟨0,[]⟩⟩
theorem Qg (l:List Int)(g:Nat)(e:List AV)(p:Int->Bool)(h: ∀x∈l,Ev an g (I x::e) (B (p x))):Ev an 303 [.sl 1 (l.map (λx=>[I x])),.fn (.func g) [] e] (I (bM p l 0)):=by
 obtain⟨Z,a,b,c,d⟩:=uG p l;generalize bM p l 0=r at *;have zh:=λk (hk:k<l.length)=>h _ (dh hk)
 exact Ev.gl 0 zz alg.ok [] [(0,{n:=l.length,E:=λk=>[(0,.sl 1 (l.map (λx=>[I x]))),(1,.fn (.func g) [] e),(7,I l.length),(8,I k)],I:=Z,K:=λk=>[(14,[.i (.cells [I (nx l k)])]),(16,[.i (.ret (B (p (nx l k))))])]})]
theorem QY (l:List bc)(g:Nat)(e:List AV)(p:bc->Bool)(h: ∀x∈l,Ev an g (.agg x.ao::e) (B (p x))):Ev an 312 [.sl 3 (l.map bc.ao),.fn (.func g) [] e] (I (bM p l 0)):=by
 obtain⟨Z,a,b,c,d⟩:=uG p l;generalize bM p l 0=r at *;have zh:=λk (hk:k<l.length)=>h _ (dh hk)
 exact Ev.gl 0 zz ahi.ok [] [(0,{n:=l.length,E:=λk=>[(0,.sl 3 (l.map bc.ao)),(1,.fn (.func g) [] e),(7,I l.length),(8,I k)],I:=Z,K:=λk=>[(14,[.i (.cells (nx l k).ao)]),(16,[.i (.ret (B (p (nx l k))))])]})]
theorem Rx (l:List iB)(g:Nat)(e:List AV)(p:iB->Bool)(h: ∀x∈l,Ev an g (.agg x.ao::e) (B (p x))):Ev an 307 [.sl 2 (l.map iB.ao),.fn (.func g) [] e] (I (bM p l 0)):=by
 obtain⟨Z,a,b,c,d⟩:=uG p l;generalize bM p l 0=r at *;have zh:=λk (hk:k<l.length)=>h _ (dh hk)
 exact Ev.gl 0 zz aiF.ok [] [(0,{n:=l.length,E:=λk=>[(0,.sl 2 (l.map iB.ao)),(1,.fn (.func g) [] e),(7,I l.length),(8,I k)],I:=Z,K:=λk=>[(14,[.i (.cells (nx l k).ao)]),(16,[.i (.ret (B (p (nx l k))))])]})]
theorem yr {α:Type}(p:α->Bool): ∀(l:List α) (k:Int),0<=k->(0<=bM p l k↔l.any p=true)
 |[],k,h=>by simp [bM]
 |x::l,k,h=>by
  have b:=yr p l (k+1) af;cases a:p x with
  |true=>have:bM p (x::l) k=k:=(by simp only[bM,a,if_true]);rw[this];simp [a,h]
  |false=>have:bM p (x::l) k=bM p l (k+1):=(by simp only[bM,a,if_false,Bool.false_eq_true]);rw[this,b];simp [a]
theorem qz (p:e->Bool)(l:List e)(k:Int)(h:0<=k):(decide (bM p l k>=0))=l.any p:=
 ew.2 (by rw[decide_eq_true_iff];exact yr p l k h)
theorem jY (l:List Int)(g:Nat)(a:List AV)(p:Int->Bool)(h: ∀x∈l,Ev an g (I x::a) (B (p x))):Ev an 201 [.sl 1 (l.map (λx=>[I x])),.fn (.func g) [] a] (B (l.any p)):=by refine ar ak6.ok<|aJ zz<|bE [.ret (I (bM p l 0))] zz ⟨Qg l g a p h,zq⟩<|ab (aD ?_);show B _=B _;rw[qz p l 0 af]
theorem HJ (l:List iB)(g:Nat)(a:List AV)(p:iB->Bool)(h: ∀x∈l,Ev an g (.agg x.ao::a) (B (p x))):Ev an 208 [.sl 2 (l.map iB.ao),.fn (.func g) [] a] (B (l.any p)):=by refine ar ajg.ok<|aJ zz<|bE [.ret (I (bM p l 0))] zz ⟨Rx l g a p h,zq⟩<|ab (aD ?_);show B _=B _;rw[qz p l 0 af]
def aB (f:Nat->Int):Nat->Nat->Int×Int
 |0,_=>(0,0)
 |m+1,k=>if f k=0 then aB f m (k+1)else((k:Int),f k)
theorem fO (f:Nat->Int)(n:Nat): ∃A:Nat->Prop,A 0/\(∀k,k<n->A k->f k=0->A (k+1))/\(∀k,k<n->A k->f k≠0->aB f n 0=((k:Int),f k))/\ ∀k,k<=n-> ¬k<n->A k->aB f n 0=(0,0):=by
 have s: ∀k,k<n->aB f (n-k) k=if f k=0 then aB f (n-(k+1)) (k+1) else((k:Int),f k):=λk h=>by rw[show n-k=(n-(k+1))+1 by omega];rfl
 exact⟨λk=>aB f n 0=aB f (n-k) k,zz,λk h a b=>by dsimp only at *;rw[a,s k h,zy b],λk h a b=>by dsimp only at *;rw[a,s k h,zj b],λk h g a=>by dsimp only at *;rw[a,show n-k=0 by omega];rfl⟩
theorem IL (l:List iB)(g:Nat)(e:List AV)(f:Nat->Int)(h: ∀(i:Nat) (x:iB),l[i]? =some x->Ev an g (I i::.agg x.ao::e) (I (f i))):
  Ev an 206 [.sl 2 (l.map iB.ao),.fn (.func g) [] e] (.cG [I (aB f l.length 0).1,I (aB f l.length 0).2]):=by
 obtain⟨A,a,b,c,d⟩:=fO f l.length;generalize aB f l.length 0=r at *;have zh:=λk (hk:k<l.length)=>h k _ (bP hk)
 exact Ev.gl 0 zz alG.ok [] [(0,{n:=l.length,E:=λk=>[(1,.fn (.func g) [] e),(9,.sl 2 (l.map iB.ao)),(10,I l.length),(11,I k)],I:=A,K:=λk=>[(14,[.i (.cells (nx l k).ao)]),(16,[.fz 7]),(19,[.i (.ret (I (f k)))])]})]
theorem JG (l:List bc)(g:Nat)(e:List AV)(f:Nat->Int)(h: ∀(i:Nat) (x:bc),l[i]? =some x->Ev an g (I i::.agg x.ao::e) (I (f i))):
  Ev an 210 [.sl 3 (l.map bc.ao),.fn (.func g) [] e] (.cG [I (aB f l.length 0).1,I (aB f l.length 0).2]):=by
 obtain⟨A,a,b,c,d⟩:=fO f l.length;generalize aB f l.length 0=r at *;have zh:=λk (hk:k<l.length)=>h k _ (bP hk)
 exact Ev.gl 0 zz alD.ok [] [(0,{n:=l.length,E:=λk=>[(1,.fn (.func g) [] e),(9,.sl 3 (l.map bc.ao)),(10,I l.length),(11,I k)],I:=A,K:=λk=>[(14,[.i (.cells (nx l k).ao)]),(16,[.fz 7]),(19,[.i (.ret (I (f k)))])]})]
theorem Ir (l:List cL)(g:Nat)(e:List AV)(f:Nat->Int)(h: ∀(i:Nat) (x:cL),l[i]? =some x->Ev an g (I i::.agg x.ao::e) (I (f i))):
  Ev an 213 [.sl 2 (l.map cL.ao),.fn (.func g) [] e] (.cG [I (aB f l.length 0).1,I (aB f l.length 0).2]):=by
 obtain⟨A,a,b,c,d⟩:=fO f l.length;generalize aB f l.length 0=r at *;have zh:=λk (hk:k<l.length)=>h k _ (bP hk)
 exact Ev.gl 0 zz alc.ok [] [(0,{n:=l.length,E:=λk=>[(1,.fn (.func g) [] e),(9,.sl 2 (l.map cL.ao)),(10,I l.length),(11,I k)],I:=A,K:=λk=>[(14,[.i (.cells (nx l k).ao)]),(16,[.fz 7]),(19,[.i (.ret (I (f k)))])]})]
theorem Ln (n lo hi:Int):Ev an 304 [I n,.pi [I lo],.pi [I hi]] (B (decide (n<lo)||decide (n>hi))):=by
 refine ar ag8.ok<|aJ zz ?_;by_cases h:n<lo
 refine vS [(8,true)] [] zz (by simp [h])<|ab (aD ?_);show B _=B _;simp [h]
 refine vS [(8,false)] [] zz (by simp [h])<|ab (aD ?_);show B _=B _;simp [h]
def ae (lo hi:Int)(l:List Int):Bool:=l.any λn=>decide (n<lo)||decide (n>hi)
theorem jX (lo hi:Int)(l:List Int):Ev an 203 [I lo,I hi,ints l] (B (ae lo hi l)):=by refine ar ajq.ok<|bE [.bY,.bY] zz eE<|bE [.ret (B (ae lo hi l))] zz ⟨jY l _ _ _ (λn _=>Ln n lo hi),zq⟩<|ab (aD ?_);rfl
theorem Sk (x:bc)(c:Int):Ev an 313 [.agg x.ao,.pi [U c]] (B (x.c==c)):=by refine ar ali.ok<|bE [.bY] zz aK<|aJ zz<|ab (aD ?_);rfl
def cT (l:List bc)(c:Int):Int:=bM (λx=>x.c==c) l 0
theorem yy (l:List bc)(c:Int):Ev an 215 [lr l,U c] (I (cT l c)):=by refine ar ahK.ok<|bE [.bY] zz aK<|bE [.ret (I (cT l c))] zz ⟨QY l _ _ _ (λx _=>Sk x c),zq⟩<|ab (aD ?_);rfl
def da (s k:Int):Bool:=((((s/2^k.toNat).toNat &&& (1:Int).toNat:Nat):Int)==1)
theorem SM (x:bc)(k:Int)(a:0<=x.s)(e:x.s<9223372036854775808)(hk:0<=k)(b:k<64):Ev an 442 [.agg x.ao,I k] (B (da x.s k)):=by have c:0<=x.s/2^k.toNat:=Int.ediv_nonneg a (Int.le_of_lt (Int.pow_pos af));have d:x.s/2^k.toNat<=x.s:=Int.ediv_le_self _ a;refine ar aiJ.ok<|bE [.bY] zz aK<|Ik zz ⟨⟨a,hk,b⟩,⟨⟨c,af⟩,af,af⟩,zq⟩<|ab (aD ?_);rfl
end Go.Px
namespace Go.Proofs
open Go.Shelf
theorem Tryz.sO (g:Nat)(e:g=1)(w:World)(h:w.ShapedOpen an): ∃m,w.cell? ⟨g,0,none⟩=some (.int .i64 m):=by subst e;exact cell_of_shapedOpen_int (zero:= #[.int .i64 0]) h (of_decide_eq_true (by kernel_rfl)) (by kernel_rfl) rfl (by kernel_rfl) (by kernel_rfl) e5
def Tryz.HY:cc:=⟨λ|171=>35|243=>79|246=>170|283=>274|284=>275|285=>276|286=>277|129=>368|317=>367|318=>369|319=>370|320=>371|337=>404|338=>405|n=>n,λ|3=>3|9=>9|2=>2|4=>4|171=>357|0=>0|53=>358|37=>180|5=>5|173=>361|212=>451|51=>452|20=>20|213=>453|46=>377|232=>525|233=>526|n=>n,λ|17=>0|18=>6|19=>7|n=>n⟩
theorem Tryz.JC:fx an Tryz.HY:=by repeat' first|kernel_rfl|(intro;kernel_rfl)|exact Tryz.sO _ rfl|decide|constructor
def Tryz.EM:cc:=⟨λ|146=>46|221=>98|268=>198|138=>199|143=>200|195=>300|197=>301|218=>302|219=>294|260=>378|217=>376|225=>298|224=>297|267=>377|266=>407|314=>408|n=>n,λ|9=>9|31=>25|3=>3|4=>4|0=>0|105=>381|21=>21|5=>5|46=>377|119=>498|139=>501|138=>500|146=>496|51=>452|n=>n,λ|1=>1|3=>2|4=>3|n=>n⟩
theorem Tryz.GA:fv an Tryz.EM:=by repeat' first|kernel_rfl|(intro;kernel_rfl)|exact Tryz.sO _ rfl|decide|constructor
def Tryz.J7:cc:=⟨λ|145=>94|220=>192|219=>294|217=>376|225=>298|224=>297|267=>377|266=>407|314=>408|n=>n,λ|9=>9|4=>4|59=>176|3=>3|5=>5|46=>377|146=>496|51=>452|n=>n,λ|1=>1|n=>n⟩
theorem Tryz.Y6:fu an Tryz.J7:=by repeat' first|kernel_rfl|(intro;kernel_rfl)|exact Tryz.sO _ rfl|decide|constructor
def Tryz.AO:cc:=⟨λ|153=>95|152=>193|226=>194|227=>195|228=>196|137=>295|119=>296|224=>297|225=>298|217=>376|266=>407|n=>n,λ|9=>9|3=>3|4=>4|5=>5|21=>21|117=>278|116=>277|0=>0|46=>377|124=>378|n=>n,λ|n=>n⟩
theorem Tryz.GP:gx an Tryz.AO:=by repeat' first|kernel_rfl|(intro;kernel_rfl)|exact Tryz.sO _ rfl|decide|constructor
def Tryz.ya:cc:=⟨λ|156=>342|165=>392|166=>96|169=>97|240=>197|241=>420|276=>299|277=>434|n=>n,λ|31=>25|9=>9|3=>3|4=>4|0=>0|20=>20|72=>182|76=>185|70=>179|37=>180|75=>184|127=>281|164=>379|5=>5|80=>187|n=>n,λ|n=>n⟩
theorem Tryz.Cf:gM an Tryz.ya:=by repeat' first|kernel_rfl|(intro;kernel_rfl)|exact Tryz.sO _ rfl|decide|constructor
def Tryz.xQ:cc:=⟨λ|172=>273|244=>365|245=>366|247=>399|279=>400|280=>401|281=>402|282=>403|287=>427|316=>428|171=>35|205=>429|321=>435|322=>436|243=>79|246=>170|283=>274|284=>275|285=>276|286=>277|129=>368|317=>367|318=>369|319=>370|320=>371|337=>404|338=>405|n=>n,λ|9=>9|3=>3|75=>184|76=>185|4=>4|5=>5|167=>488|37=>180|0=>0|85=>489|2=>2|168=>491|53=>358|175=>519|46=>377|210=>523|127=>281|145=>536|143=>534|21=>21|171=>357|173=>361|212=>451|51=>452|20=>20|213=>453|232=>525|233=>526|80=>187|n=>n,λ|15=>4|16=>5|17=>0|18=>6|19=>7|n=>n⟩
theorem Tryz.Cq:fr an Tryz.xQ:=by repeat' first|kernel_rfl|(intro;kernel_rfl)|exact Tryz.sO _ rfl|decide|constructor
theorem Tryz.Wt:Builder.Extra an Tryz.ya:=by repeat' first|kernel_rfl|(intro;kernel_rfl)|decide|constructor
end Go.Proofs
namespace Go.Px
variable {a:Nat}{e:Type}{m:List PanicEntry->av->Env->Prop}{w:World}{h:Env->av->List Nat->Prop}{v:AV->Prop}
open Go.Proofs
theorem ML {k:Nat}{os:Array Obj}:fj w.heap.size w (Sort.grow (w.drewN k) os):=by refine⟨zz,zz,zz,?_,?_⟩;simp;intro b a;exact Array.getElem?_append_left a
theorem Ev.of {P:Program}{f:FuncId}{args:List AV}{res:AV}(ok:uc P f)(hl:res.bT=false)
  (h: ∀(S:aI) (w:World) (c:List Value),te S w->S.In w->aS S args c->Calls P f c.toArray w (λe w'=> ∃v,e= .returned v/\fj w.heap.size w w'/\bf S res v)):Ev P f args res:=by refine⟨ok,λS w c hg a g=>(h S w c hg a g).mono ?_⟩;rintro e w' ⟨v,rfl,d,i⟩;exact⟨v,S,none,zz,qT _,a.uw (λb hs=>d.block b (a.lt hs)),λb hs=>.inl hs,d,cH.gW hl i⟩
theorem Xj {S:aI}(h:te S w):Lib.TabIs an w "internal/strconv.uint64pow10" .u64 Lib.pow10Tab:=by obtain⟨-,-,⟨t,k,e⟩,-⟩:=h;show w.var? _ _=_;unfold gR;rw[show an.globalNamed "internal/strconv.uint64pow10" =some 0 from Tryz.JC.m17];simp;simp only at e;rw[e];rfl
theorem zK {S:aI}{b:Nat}{v:Value}(h:Kq [v] w.heap[b]?):w.cell? ⟨b,0,none⟩=some v:=by obtain⟨t,k,e⟩:=h;rw[Lib.cell_of_heap e];rfl
theorem Ix {S:aI}(h:te S w): ∃m,w.cell? ⟨1,0,none⟩=some (.int .i64 m):=by obtain⟨-,⟨m,e⟩,-⟩:=h;exact⟨m,zK (S:=S) e⟩
theorem vK (n:Int)(d: -9223372036854775808<=n)(f:n<=9223372036854775807):Ev an 35 [I n] (bh (Lib.itoa n)):=by refine Ev.of ⟨_,Tryz.func35,aX,aX⟩ zz λS w h hg g a=>?_;simp only[aS,bf]at a;obtain⟨c,b,rfl,rfl,rfl⟩:=a;refine(Any.strconv_Itoa Tryz.JC n d f w (Xj hg)).mono ?_;rintro e w' ⟨rfl,k,os,rfl⟩;exact⟨_,zz,ML,by simp only[bf]⟩
abbrev YX:Nat:=Tryz.xQ.t 168
def IJ (s:List UInt8):AV:=match fy s with
 | .ok v=>.cG [I v,.v .nilIface]
 |_=>.cG [.any,.Zk YX .any]
theorem Yb (s:List UInt8)(hs:s.length<=1000000):Ev an 273 [bh s] (IJ s):=by
 have b:(IJ s).bT=false:=by unfold IJ;split<;>rfl
 refine Ev.of ⟨_,Tryz.func273,aX,aX⟩ b λS w n hg k f=>?_;simp only[aS,bf]at f;obtain⟨c,g,rfl,rfl,rfl⟩:=f;have a:(⟨s.toArray⟩:ByteArray).size=s.length:=by simp [ea]
 obtain⟨-,-,-,⟨t4,m,i⟩,⟨t5,p5,j⟩⟩:=hg;unfold IJ;rcases h:fy s with v|_|_;refine(Any.strconv_Atoi_ok Tryz.Cq ⟨s.toArray⟩ (by rw[a];omega) v h w).mono ?_;rintro e w' ⟨rfl,l⟩;refine⟨_,zz,?_,by simp;exact⟨[_,_],zz,_,_,zz,zz,_,_,zz,zz,zz⟩⟩;rcases l with rfl|⟨t,rfl⟩
 exact hp _ _;exact Lib.bytesWorld_below _ _ _
 refine(Any.strconv_Atoi_syntax Tryz.Cq ⟨s.toArray⟩ (by rw[a];omega) h _ w (zK (S:=S) i) (.inr ⟨_,_,zz⟩)).mono ?_;rintro e w' ⟨N,rfl,-,-,d⟩;exact⟨_,zz,d,by simp;exact⟨[_,_],zz,_,_,zz,zq,_,_,zz,⟨_,zz,zq⟩,zz⟩⟩;refine(Any.strconv_Atoi_range Tryz.Cq ⟨s.toArray⟩ (by rw[a];omega) h _ w (zK (S:=S) j) (.inr ⟨_,_,zz⟩)).mono ?_;rintro e w' ⟨N,rfl,-,-,d⟩;exact⟨_,zz,d,by simp;exact⟨[_,_],zz,_,_,zz,zq,_,_,zz,⟨_,zz,zq⟩,zz⟩⟩
theorem ac2 (s a:List UInt8)(hs:s.length<=1000000):Ev an 94 [bh s,bh a] (.cG [bh (gX s a).1,bh (gX s a).2.1,B (gX s a).2.2]):=by
 refine Ev.of ⟨_,Tryz.func94,aX,aX⟩ zz λS w j hg h d=>?_;simp only[aS,bf]at d;obtain⟨c,f,rfl,rfl,i,g,rfl,rfl,rfl⟩:=d;have b:(⟨s.toArray⟩:ByteArray).size=s.length:=by simp [ea]
 obtain⟨m,hm⟩:=Ix hg;refine(Any.strings_Cut {Tryz.Y6 with} ⟨s.toArray⟩ ⟨a.toArray⟩ m w (by rw[b];omega) hm).mono ?_;rintro e w' ⟨rfl,n,rfl⟩;refine⟨_,zz,⟨zz,zz,zz,fD _,λ_ _=>rfl⟩,?_⟩;simp;exact⟨[_,_,_],zz,_,_,zz,zz,_,_,zz,zz,_,_,zz,zz,zz⟩
open Go.Proofs.YtbpalbakembgiaaGreatDoor
open Go.ChangeShapes Go.WideShapes Go.ChangeAt Go.RowKit
theorem own:ownKnob an.godebug=none:=aX
theorem laid:laidOutB an=true:=aX
theorem HI {W:World}{n:String}{g:Nat}{cs:Array Value}(hg:an.globalNamed n=some g)(h:W.var? an n=some cs):Kq cs.toList W.heap[g]? :=by unfold gR at h;rw[hg]at h;simp at h;split at h;rename_i c t f e;cases h;exact⟨t,f,af⟩;cases h
theorem ZB {W:World}(hs:W.ShapedOpen an): ∃m,Kq [.int .i64 m] W.heap[1]? :=by
 have c:((begin an (λ_ _=>0) default).world.heap[1]?).bind Obj.row? =some (#[.int .i64 0],3):=aX;have hg:1<an.globals.size:=by rw[show an.globals.size=8 from aX];decide
 obtain⟨m,hm⟩:=cell_of_shapedOpen_int hs hg c zz aX aX e5;obtain⟨cs,hh,d,_⟩:=hs.1 1 _ _ hg c;refine⟨m,3,(0,0),?_⟩;rw[hh];have e:0<cs.size:=by rw[d];decide
 have:cs= #[.int .i64 m]:=by apply Array.ext;rw[d];rfl;intro i a b;have:i=0:=(by simp at b;omega);subst this;simp [ga,hh,e]at hm;simpa using hm
 rw[this]
theorem YC {W:World}(hs:W.ShapedOpen an)(h:laidMetH an Rows.clerkPartedRow.laid W):te (aI.eo W) W:=by
 obtain⟨m,z⟩:=ZB hs;rw[fb _ _ _ aX]at h;obtain⟨ps,⟨_,_,_,_,_,_,_,_,_,_,⟨_,_,_,_,_,_,_,_,_,_,⟨g2,t2,E,f2,_,_,a,j,p,f,⟨_,_,_,_,_,_,_,_,_,_,⟨G,t4,c4,f4,_,_,c,n,q,g,⟨H,t5,F,f5,_,_,d,o,r,i,_,_⟩,_⟩,_⟩,_⟩,_⟩,_⟩,_,_⟩:=h;obtain rfl:=bn ((show an.globalNamed "internal/strconv.uint64pow10" =some 0 from aX).symm.trans a);obtain rfl:=bn ((show (an.globals[0]?).map (·.type)=some 451 from aX).symm.trans j);have s:=HI a p;rw[RZ (zs:=[1,10,100,1000,10000,100000,1000000,10000000,100000000,1000000000,10000000000,100000000000,1000000000000,10000000000000,100000000000000,1000000000000000,10000000000000000,100000000000000000,1000000000000000000,10000000000000000000]) Tryz.underlying451 Tryz.underlying358 aX aX f]at s;obtain rfl:=bn ((show an.globalNamed "strconv.ErrRange" =some 5 from aX).symm.trans c);obtain rfl:=bn ((show (an.globals[5]?).map (·.type)=some 184 from aX).symm.trans n);obtain rfl:=bn ((show an.globalNamed "strconv.ErrSyntax" =some 4 from aX).symm.trans d);obtain rfl:=bn ((show (an.globals[4]?).map (·.type)=some 184 from aX).symm.trans o);have w:=HI c q;have r4:=HI d r;obtain⟨u,v,C⟩:=D8 eT g;obtain⟨x,y,B⟩:=D8 eT i;rw[C]at w;rw[B]at r4;have D:CI λb=>W.heap[b]? :=⟨⟨m,z⟩,s,⟨x,y,r4⟩,⟨u,v,w⟩⟩;have has: ∀{b:Nat} {v:Value} {l:List Value},Kq (v::l) W.heap[b]? ->(aI.eo W).has b:=by rintro b v l ⟨t,k,e⟩;exact .inl ⟨0,v,by simp [aI.eo,ga,e]⟩
 refine⟨λb A=>?_,D⟩;simp only[QN,ff,List.not_mem_nil,or_false]at A;rcases A with rfl|rfl|rfl|rfl
 exact has s;exact has z;exact has r4;exact has w
theorem zT (s:ByteArray)(p:Nat)(h:128<=(s.get! p).toNat):128<=(bI s p).1:=by
 unfold bI;simp;rw[zj af];repeat' split
 all_goals simp_all [Utf8.runeError]
 all_goals omega
theorem AD (s:ByteArray)(p:Nat)(h:(s.get! p).toNat<128):bI s p=((s.get! p).toNat,1):=by unfold bI;simp only[Nat.add_zero];rw[zy af]
def Lf (i:Nat)(c:Nat):Bool:=(decide (97<=c)&&decide (c<=122))||(decide (0<i)&&(c==46||(decide (48<=c)&&decide (c<=57))))
def xS:List UInt8->Nat->Bool
 |[],_=>true
 |c::l,i=>Lf i c.toNat&&xS l (i+1)
def eI (l:List UInt8):Bool:=xS l 0&&(decide (1<=l.length)&&decide (l.length<=16))
theorem vM (l:List UInt8)(hl:l.length<=9223372036854775807):Ev an 100 [bh l] (B (eI l)):=by
 refine ar akT.ok<|aJ zz<|aa (aa (aA ?_));refine aY.xq (gs:=[]) (hs:=[]) zz zq<|ah (aO.xD zz (λb=>?_));refine gk zz<|cj (xS l 0=true) (el [(0,bh l)]) [] [] ?_ ?_
 refine bJ (λk:Nat=>k<=l.length/\xS l 0=xS (l.drop k) k) (λk=>el [(0,bh l),(7,.po b 0)]) (λk=>[(b,.raw (.stringIter ⟨l.toArray⟩ k))]) (λ_=>[]) (λk=>l.length-k) 0 nN
  eL ?_
 rintro k ⟨hk,hi⟩;refine aa (aA (ah (aO.TO (i:=0) zz zz (λg=>?_) (λg=>?_))));simp only[eU,ea]at g;obtain⟨c,hc⟩:=bq g;have hg:(hI l.toArray).get! k=c:=(by have o:=(ap.1 hc).2;show l.toArray[k]! =c;rw[getElem!_pos l.toArray k (by simpa using g)];simpa using o);rw[drop_cons hc,xS]at hi;have d:128<=c.toNat->128<=(bI ⟨l.toArray⟩ k).1:=λh=>zT _ _ (by rw[hg];exact h);have j:c.toNat<128->bI ⟨l.toArray⟩ k=(c.toNat,1):=λh=>(by rw[AD _ _ (by rw[hg];exact h),hg]);generalize r:bI ⟨l.toArray⟩ k=q at d j;obtain⟨u,p⟩:=q;simp only at d;refine gk zz<|aa (aj zz (λ_=>ak ?_) (λh=>by cases h));refine ay<|aJ zz<|eZ True (el [(0,bh l),(7,.po b 0),(3,I k),(4,.v (.int .i32 u)),(5,B (decide (97<=u)&&decide (u<=122)))]) [(b,.raw (.stringIter ⟨l.toArray⟩ (k+p)))] [] ?_ ?_
 by_cases f:97<=u;refine kD [(14,true)] [] zz (by simp;omega) ?_;exact⟨(),zq,au ⟨zz,zz,zz,zz,by show B _=B _;simp [f];omega,zq⟩⟩;refine kD [(14,false)] [] zz (by simp;omega) ?_;exact⟨(),zq,au ⟨zz,zz,zz,zz,by show B _=B _;simp [f],zq⟩⟩;intro _ _;refine eZ True (el [(0,bh l),(7,.po b 0),(35,B (!Lf k u))]) [(b,.raw (.stringIter ⟨l.toArray⟩ (k+p)))] [] ?_ ?_;cases a:(decide (97<=u)&&decide (u<=122))with
 |true=>refine kD [(20,false)] [] zz aF ?_;exact⟨(),zq,au ⟨zz,zz,by show B _=B _;simp [Lf,a],zq⟩⟩
 |false=>by_cases n:k=0;refine kD [(20,true),(23,true)] [] zz (by simp [n]) ?_;exact⟨(),zq,au ⟨zz,zz,by show B _=B _;simp [Lf,a,n],zq⟩⟩;by_cases f:u=46;refine kD [(20,true),(23,false),(26,false)] [] zz (by simp [n,f]) ?_;exact⟨(),zq,au ⟨zz,zz,by show B _=B _;simp [Lf,f];omega,zq⟩⟩;by_cases o:u<48;refine kD [(20,true),(23,false),(26,true),(29,true)] [] zz (by simp [n];omega) ?_;exact⟨(),zq,au ⟨zz,zz,by show B _=B _;simp [Lf,a,f];omega,zq⟩⟩;refine kD [(20,true),(23,false),(26,true),(29,false)] [] zz (by simp [n];omega) ?_;have e:decide ((u:Int)>57)= !Lf k u:=(by rw[ew];simp [Lf,a,f];omega);exact⟨(),zq,au ⟨zz,zz,by rw[<-e];rfl,zq⟩⟩
 intro _ _;refine aj zz (λm=>?_) (λm=>?_);simp only[cb]at m;refine aJ zz<|ab (aD ?_);show B _=B _
 have:Lf k c.toNat=false:=(by by_cases a:c.toNat<128;have:=j a;cases this;exact m;have:=d af;simp [Lf];omega);simp [eI,hi,this]
 simp only[Bool.not_eq_false']at m;have s:u<128:=(by simp only[Lf,Bool.or_eq_true,bl,decide_eq_true_eq,beq_iff_eq]at m;omega);have a:c.toNat<128:=by rcases Nat.lt_or_ge c.toNat 128 with h|h;exact h;have:=d h;omega
 have:=j a;cases this;refine ak ⟨k+1,⟨g,by rw[hi,m,fe]⟩,af,eL⟩
 simp only[eU,ea]at g;refine gk zz<|aa (aj (b:=false) zz (λh=>by cases h) (λ_=>aE ⟨(),?_,?_⟩))
 rw[hi,drop_nil g];rfl;exact ai (bO.Kb 0) eL
 intro _ h;refine bE [.bY,.ret (B (ae 1 16 [(l.length:Int)]))] zz ⟨zz,jX 1 16 [(l.length:Int)],zq⟩<|ab (aD ?_);have:(!ae 1 16 [(l.length:Int)])=eI l:=by rw[ew];simp [eI,h,ae];omega
 rw[<-this];rfl
end Go.Px
