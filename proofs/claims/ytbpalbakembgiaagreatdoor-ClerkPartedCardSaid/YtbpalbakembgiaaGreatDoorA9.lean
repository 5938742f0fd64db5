/- Part 9 of the proof of a statement of this seat (a logic of pure contracts; the functions; their contracts). No conditions. -/
import Derived.Test.YtbpalbakembgiaaGreatDoorA8
import Derived.Lib.AtoiAllCases
set_option linter.all false
open And renaming intro->az
open BitVec renaming ofNat->b1
open Bool renaming eq_iff_iff->cb,or_eq_true->c8,not_eq_true->e9,false_or->gQ,true_or->hb
open ByteArray renaming size->fD
open Classical renaming not_not->ds
open Decidable renaming byContradiction->gM
open Function renaming comp_def->hB
open Go.IntKind renaming i64->ej
open Go.Lib renaming itoa->e6,atoiAll->fj
open Go.Lit renaming int->hn
open Go.Op renaming intArith->hr
open Go.Program renaming keyLits->fx
open Go.Proofs.Tryz renaming prog->ad,underlying100->e3,underlying117->e4
open Go.Sem renaming run_pure->ho
open Go.Value renaming formed->hq,cells->ht
open Go.Value.int renaming injEq->fy
open Iff renaming rfl->hD
open Int renaming toNat_natCast->an,eq_ofNat_of_zero_le->bx,natCast_nonneg->cD,ediv_le_self->eu,ediv_nonneg->ey,le_of_lt->e5,pow_pos->ff,natCast_inj->fk
open List renaming nil_sublist->a7,getElem?_eq_some_iff->a8,length_map->bk,range->bs,length_cons->bA,getElem?_map->bI,range_succ->b6,mem_iff_getElem?->b7,mem_of_getElem?->b8,mem_range->b9,append_nil->cc,length_nil->cd,drop_eq_nil_of_le->cr,all_eq_true->cx,getElem?_eq_none_iff->cy,foldl_append->cA,map_append->cR,sublist_cons_self->ec,length_append->ek,mem_singleton->en,any_eq_false->er,length_range->et,take_length->ew,perm_append_comm->eM,count_le_length->eP,mem_of_mem_take->eS,map_take->eT,getElem?_take->eU,append_assoc->e7,drop_length->fb,length_drop->fe,foldl_cons->fs,mem_append->fu,nil_append->fv,foldl_nil->gm,tail_drop->gx,any_cons->gR,Sublist->hf,mem_map->hj
open List.Perm renaming swap->ea,refl->ga
open List.Sublist renaming refl->ap,append->hv
open List.cons renaming injEq->fr
open Nat renaming pow_lt_pow_right->bl,pow_le_pow_right->bt,le_refl->b0,or_lt_two_pow->cB,lt_succ_iff_lt_or_eq->c7,two_pow_pos->de,zero_le->dk,lt_of_lt_of_le->e0,le_trans->e8
open Option.some renaming injEq->hC
open Prod.mk renaming injEq->gX
open UInt8 renaming ofNat->dn
set_option maxRecDepth 20000
set_option maxHeartbeats 4000000
namespace Go.Px
variable {k m z:Nat}{p:List Nat}{c:mh}{e o:List Wd}{v:Int}{g:List (List Nat)}{h:List Int}{i:Nat->Int}{q:Nat×Nat}{j:Type}{s:Wd}{t:ln}{u:pC}
open Go.Proofs
theorem QG (F S:List Wd):iM ad 224 [strs F,strs S] [] (λr Ho=> ∃bm,r=fP F S bm/\Ho=[(bm,.map [])]):=by refine bH ahc.ok<|aJ zz<|aa (aA ?_);refine lY 2 zz zz<|ah (aO.vY (λbm=>?_));refine VR [.bY] zz aK ?_;exact ab ⟨.inr zz,_,_,_,zz,.one (.tmp zz zz),⟨bm,zz,zz⟩,ap _⟩
abbrev mN (p:Nat×Nat):Value:=.agg #[.int .i64 p.1,.int .i64 p.2]
def tt (F S:List Wd)(p:Nat×Nat):Nat:=oG (F.drop p.1) (S.drop p.2)
abbrev uQ (F S:List Wd)(ks:List (Nat×Nat)):List (Value×AV):=ks.map λp=>(mN p,I (tt F S p))
def KS (F S:List Wd)(ks:List (Nat×Nat)):Prop:= ∀p∈ks,p.1<=F.length/\p.2<=S.length
theorem A2 {F S:List Wd}(hF:F.length<=1000)(hS:S.length<=1000){p:Nat×Nat}(h:p.1<=F.length/\p.2<=S.length):bS ad 3 305 (mN p):=
 Mq (wf_i64 af af) (wf_i64 af af)
theorem Ih {F S:List Wd}(hF:F.length<=1000)(hS:S.length<=1000){ks:List (Nat×Nat)}(h:KS F S ks): ∀e∈uQ F S ks,bS ad 3 305 e.1:=by intro e he;obtain⟨p,a,rfl⟩:=hj.1 he;exact A2 hF hS (h p a)
theorem Mb {p:Nat×Nat}(h:mN p=mN q):p=q:=bD
theorem Pz (F S:List Wd)(ks:List (Nat×Nat))(p:Nat×Nat):(p ∉ ks/\CC (uQ F S ks) (mN p) none)\/(∃j,ks[j]? =some p/\CC (uQ F S ks) (mN p) (some (j,I (tt F S p)))):=by by_cases h:p∈ks;right;obtain⟨j,b⟩:=b7.1 h;exact⟨j,b,.some bD⟩;left;refine⟨h,.none ?_⟩;intro e he a;obtain⟨q,c,rfl⟩:=hj.1 he;have:=Mb a;subst this;exact h c
theorem ac4 (F S:List Wd):oG F S<=F.length+S.length:=by
 induction F with
 |nil=>simp [oG]
 |cons w F a=>have:=TB w F S;simp;omega
section
variable (F S:List Wd) (bm:Nat)
abbrev ur (ks:List (Nat×Nat)):av:=[(bm,.map (uQ F S ks))]
def Dl (a b:Nat):Prop:= ∀ks,KS F S ks->iM ad 226 [fP F S bm,sF a b] (ur F S bm ks) (λr Ho=>r=I (tt F S (a,b))/\ ∃c,KS F S c/\Ho=ur F S bm c)
def HB (a b:Nat):Prop:= ∀ks,KS F S ks->iM ad 225 [fP F S bm,sF a b] (ur F S bm ks) (λr Ho=>r= .cG [I (tt F S (a,b)),I (gI (F.drop a) (S.drop b))]/\ ∃c,KS F S c/\Ho=ur F S bm c)
variable {F S bm} (hF:F.length<=1000) (hS:S.length<=1000)
include hF hS
theorem Pr {a b:Nat}(ha:a<=F.length)(y:b<=S.length)(hl:HB F S bm a b):Dl F S bm a b:=by
 intro ks h;have k:=A2 hF hS (p:=(a,b)) ⟨ha,y⟩;refine bH ak3.ok<|bE [.bY] zz aK ?_;have z:(ad.info? 3).bind (·.zero)=some (.int .i64 0):=aX
 rcases Pz F S ks (a,b)with⟨A,d⟩|⟨j,u,d⟩;refine aa (aa ?_);have l: ∀(env0:Env),env0 13= .mo bm->valOf (env0 14)=some (mN (a,b))-> ∀(r:Option Nat) (N:Nat) (D:List Nat),Q1 ad r N (.lookup 388 (tm 13) (tm 14) true 305 3 [.int .i64 0]) (some 15) env0 (ur F S bm ks) D [(15,.cG [I 0,B false])]:=by exact λenv0 s t r N D=>aO.oS (n:=0) Md z s zz t k (Ih hF hS h) d dO
 refine tI [] [.op (.cG [I 0,B false])] zz (by refine⟨l _ zz zz,zq⟩)<|aa<|cZ zz<|aH zz zz<|aa (aA ?_);refine lY 2 zz zz<|ah (cC (H0:=[]) (hl ks h) zz zz (aW _) aF ?_);rintro res x ⟨rfl,c,f,rfl⟩;refine gk zz<|ag (aw (H':=ur F S bm c) aF) ?_
 have m: ∃o,CC (uQ F S c) (mN (a,b)) o/\ ∃g,KS F S g/\mA (uQ F S c) (mN (a,b)) (I (tt F S (a,b))) o=uQ F S g:=by
  rcases Pz F S c (a,b)with⟨A,d⟩|⟨j,u,d⟩;refine⟨_,d,c++[(a,b)],?_,?_⟩;intro p hp;rcases fu.1 hp with hp|hp
  exact f p hp;rw[en]at hp;subst hp;exact⟨ha,y⟩
  simp [mA,uQ]
  refine⟨_,d,c,f,?_⟩;show (uQ F S c).set j _=_;apply List.ext_getElem?;intro i;rw[List.getElem?_set];split;rename_i e;subst e;have w:=(a8.1 u).1;rw[zy (by simpa using w)];unfold uQ;rw[bI,u];rfl;rfl
 obtain⟨o,C,g,v,q⟩:=m;refine aa (zg [] [] zz zq ?_);refine ah (aO.jH (n:=0) Md zz zz zz k (Ih hF hS f) C zz zz ?_);refine aR (aw (H':=ur F S bm g) ?_) ?_;show [(bm,dp.map (mA (uQ F S c) (mN (a,b)) (I (tt F S (a,b))) o))]=_;rw[q];refine bF<|aJ zz ?_;exact ab ⟨.inr zz,_,_,_,zz,.one (.tmp zz zz),⟨zz,g,v,zz⟩,ap _⟩
 refine aa (aa ?_);have l: ∀(env0:Env),env0 13= .mo bm->valOf (env0 14)=some (mN (a,b))-> ∀(r:Option Nat) (N:Nat) (D:List Nat),Q1 ad r N (.lookup 388 (tm 13) (tm 14) true 305 3 [.int .i64 0]) (some 15) env0 (ur F S bm ks) D [(15,.cG [I (tt F S (a,b)),B true])]:=by intro env0 s t r N D;exact aO.oS (n:=0) Md z s zz t k (Ih hF hS h) d dO
 refine tI [] [.op (.cG [I (tt F S (a,b)),B true])] zz (by refine⟨l _ zz zz,zq⟩)<|aa<|cZ zz<|aC zz zz<|aJ zz ?_;exact ab ⟨.inr zz,_,_,_,zz,.one (.tmp zz zz),⟨zz,ks,h,zz⟩,ap _⟩
end
theorem JN {F S:List Wd}{a b:Nat}(ha:a<=F.length)(d:b<=S.length):(cE F S k a b).1<=F.length/\(cE F S k a b).2.1<=S.length/\(cE F S k a b).2.2<=1/\(0<=(cE F S k a b).2.2->a+b<(cE F S k a b).1+(cE F S k a b).2.1):=by
 have e: ∀w,F[a]? =some w->a+1<=F.length:=λw h=>(a8.1 h).1;have f: ∀s,S[b]? =some s->b+1<=S.length:=λs h=>(a8.1 h).1;have c:(a,b,(-1:Int)).1<=F.length/\(a,b,(-1:Int)).2.1<=S.length/\(a,b,(-1:Int)).2.2<=1/\(0<=(a,b,(-1:Int)).2.2->a+b<(a,b,(-1:Int)).1+(a,b,(-1:Int)).2.1):=
  ⟨ha,d,bD,λh=>absurd h bD⟩
 unfold cE;split;grind;grind;grind;grind;exact c
section
variable {F S:List Wd} {bm:Nat} (hF:F.length<=1000) (hS:S.length<=1000)
include hF hS
theorem UJ {a b:Nat}(hk:k<=3)(ha:a<=F.length)(o:b<=S.length)(hc: ∀e f,e<=F.length->f<=S.length->a+b<e+f->Dl F S bm e f)(ks:List (Nat×Nat))(i:KS F S ks):
  iM ad 315 [I k,.pi [fP F S bm],.pi [I a,I b]] (ur F S bm ks) (λr Ho=>r=I (jK F S a b k)/\ ∃d,KS F S d/\Ho=ur F S bm d):=by
 have g:=PH F S bm k a b hk ha o hF hS;obtain⟨l1,l2,l3,l⟩:=JN ha o;have p:jK F S a b k=if (cE F S k a b).2.2<0 then -1 else(cE F S k a b).2.2+(tt F S ((cE F S k a b).1,(cE F S k a b).2.1):Nat):=rfl
 rw[p];generalize (cE F S k a b).1=e at g l1 l;generalize (cE F S k a b).2.1=f at g l2 l;generalize (cE F S k a b).2.2=c at g l3 l;refine bH alU.ok<|aJ zz<|bE [.ret (.cG [sF e f,I c]),.aT] zz ⟨g,zz,⟨zz,zz,zz,bD⟩,zq⟩<|ag (aq (t:=5) zz)<|aa (aa ?_)
 apply cZ zz;by_cases h:c<0;rw[zy h];refine aj (by exact congrArg B (decide_eq_true h)) (λ_=>?_) (λh=>by cases h);apply aJ zz;exact ab ⟨.inr zz,_,_,_,zz,.one (.tmp zz zz),⟨zz,ks,i,zz⟩,ap _⟩;rw[zj h];have q:=ac4 (F.drop e) (S.drop f);rw[fe,fe]at q;have m:=hc e f l1 l2 (l af) ks i;have s:tt F S (e,f)=oG (F.drop e) (S.drop f):=rfl;refine aj (by exact congrArg B (decide_eq_false h)) (λh=>by cases h) (λ_=>ak ?_);refine aa (aA ?_);refine lY 3 zz zz<|ah (cC (H0:=[]) m zz zz (aW _) aF ?_)
 rintro res n ⟨rfl,d,j,rfl⟩;refine aR (aw (H':=ur F S bm d) aF)<|xdA zz bL ?_;exact ab ⟨.inr zz,_,_,_,zz,.one (.tmp zz zz),⟨zz,d,j,zz⟩,ap _⟩
theorem O0 {a b:Nat}(ha:a<=F.length)(A:b<=S.length)(hc: ∀n o,n<=F.length->o<=S.length->a+b<n+o->Dl F S bm n o):HB F S bm a b:=by
 intro ks l;have p:(F.map λs=>[bh s]).length=F.length:=bk _;have q:(S.map λs=>[bh s]).length=S.length:=bk _;have m:=λ{x y:Operand} {env:Env} {H:av} {t:Nat}=>UI (a:=a) (b:=b) (c:=((F.map λs=>[bh s]).length:Nat)) (d:=((S.map λs=>[bh s]).length:Nat)) (wf_i64 af af) (wf_i64 af af) (wf_i64 af af) (wf_i64 af af) (x:=x) (y:=y) (env:=env) (H:=H) (t:=t);refine bH ahn.ok<|bE [.bY,.bY] zz eE<|aa (aa ?_);generalize j:(decide ((a:Int)=((F.map λs=>[bh s]).length:Nat)/\(b:Int)=((S.map λs=>[bh s]).length:Nat)))=bb at m;refine tI [] [.op (B bb)] zz (by refine⟨m zz zz,zq⟩)<|aj zz (λh=>?_) (λh=>ak ?_)
 rw[h,decide_eq_true_iff]at j;have C:F.drop a=[]:=cr af;have D:S.drop b=[]:=cr af;refine aJ zz<|ab ⟨.inr zz,_,.cG [I 0,I 4],ur F S bm ks,zz,.many aG ⟨.tmp zz zz,.tmp zz zz,zq⟩,⟨?_,ks,l,zz⟩,ap _⟩;unfold tt;rw[C,D];rfl
 rw[h,decide_eq_false_iff_not]at j;have v: ¬(a=F.length/\b=S.length):=λe=>j ⟨by rw[p];omega,by rw[q];omega⟩;have w:=M0 ha A v;refine aJ zz<|aa (aA ?_);refine mO [.bY] 2 zz zz cI ?_
 have u:=QT (X:={ks:List (Nat×Nat)//KS F S ks}) (λx=>ur F S bm x.1) [0,1,2,3] 315 [.pi [fP F S bm],.pi [I a,I b]] (λk=>jK F S a b k.toNat) (by
  rintro⟨x,hx⟩ i hi
  obtain⟨k,rfl,hk⟩: ∃k:Nat,i=k/\k<=3:=by
   simp only[List.mem_cons,List.not_mem_nil,or_false]at hi
   rcases hi with rfl|rfl|rfl|rfl
   ·exact⟨0,zz,aG⟩
   ·exact⟨1,zz,aG⟩
   ·exact⟨2,zz,aG⟩
   ·exact⟨3,zz,aG⟩
  refine(UJ hF hS hk ha A hc x hx).mono ?_
  rintro r Ho ⟨rfl,g,f,rfl⟩
  exact⟨by rw[an],⟨g,f⟩,zz⟩) ⟨ks,l⟩
 refine ah (cC (Hin:=ur F S bm ks) (H0:=[]) u zz zz (aW _) aF ?_);rintro res z ⟨rfl,⟨g,f⟩,rfl⟩;refine aR (aw (H':=ur F S bm g) aF) ?_;rw[w];refine gk zz<|aJ zz<|ab ⟨.inr zz,_,.cG [I (tt F S (a,b)),I (gI (F.drop a) (S.drop b))],ur F S bm g,zz,.many aG ⟨.tmp zz zz,.tmp zz zz,zq⟩,⟨zz,g,f,zz⟩,ap _⟩
theorem Kr: ∀(n a b:Nat),a<=F.length->b<=S.length->F.length+S.length<=n+(a+b)->Dl F S bm a b/\HB F S bm a b:=by
 intro n;induction n with
 |zero=>intro a b ha c i;have hl:=O0 hF hS (bm:=bm) ha c (λd e f g h=>af);exact⟨Pr hF hS ha c hl,hl⟩
 |succ n j=>intro a b ha c i;have hl:=O0 hF hS ha c (λd e f g h=>(j d e f g af).1);exact⟨Pr hF hS ha c hl,hl⟩
theorem YD {a b:Nat}(ha:a<=F.length)(c:b<=S.length):Dl F S bm a b:=(Kr hF hS (F.length+S.length) a b ha c af).1
theorem left_at {a b:Nat}(ha:a<=F.length)(c:b<=S.length):HB F S bm a b:=(Kr hF hS (F.length+S.length) a b ha c af).2
end
abbrev A6 (g:Nat):AV:=.fn (.func g) [] []
abbrev J8:List AV:=[B true,B false,A6 317,B true,B true,A6 318,B true,B false,A6 319,B false,B true,A6 320]
theorem XV:Ev ad 227 [] (.agg J8):=by refine ar alN.ok<|aa (aA (ah (aO.alloc zz (λb=>?_))));refine bF<|aa (aA ?_);refine Rz 2 zz zz ⟨⟨aG,aG⟩,zq⟩<|ah (bz (i:=0) zz zz zz zz zz zz bD ?_);refine bF<|aa (aA ?_);refine Rz 2 zz zz ⟨⟨aG,aG⟩,zq⟩<|ah (bz (i:=0) zz zz zz zz zz zz (by show 6<=12;decide) ?_);refine bF<|aa (aA ?_);refine Rz 2 zz zz ⟨⟨aG,aG⟩,zq⟩<|ah (bz (i:=0) zz zz zz zz zz zz (by show 9<=12;decide) ?_);refine bF<|aa (aA ?_);refine Rz 2 zz zz ⟨⟨aG,aG⟩,zq⟩<|ah (bz (i:=0) zz zz zz zz zz zz (by show 12<=12;decide) ?_);refine bF<|aa (aA ?_);refine aR (ai (aw zz) (au (l:=[(0,.po b 0)]) cI))<|mO [.at 0] 1 zz zz cI<|ah (bz (i:=0) zz zz zz zz zz zz (by show 12<=12;decide) ?_);refine bF<|ab (gv (.inr zz) (.one ?_));exact .dY (i:=0) (n:=some 12) zz zz aX zz
theorem M5 {F S:List Wd}{a b:Nat}(ha:a<=F.length)(f:b<=S.length):(gI (F.drop a) (S.drop b)=4/\a=F.length/\b=S.length)\/
  (gI (F.drop a) (S.drop b)<=3/\0<=(cE F S (gI (F.drop a) (S.drop b)) a b).2.2/\ ¬(a=F.length/\b=S.length)):=by
 by_cases h:a=F.length/\b=S.length;left;rw[h.1,h.2,fb,fb];exact⟨zz,zz,zz⟩;right;cases c:F[a]? with
 |none=>have hd:F.drop a=[]:=cr (cy.1 c);obtain⟨s,d⟩:=bq (l:=S) (k:=b) (by have:=cy.1 c;omega);have hk:gI (F.drop a) (S.drop b)=3:=(by rw[hd,drop_cons d];rfl);rw[hk];exact⟨aG,by simp [cE,d],h⟩
 |some w=>
  cases d:S[b]? with
  |none=>have hd:S.drop b=[]:=cr (cy.1 d);have hk:gI (F.drop a) (S.drop b)=2:=(by rw[hd,drop_cons c];rfl);rw[hk];exact⟨aG,by simp [cE,c],h⟩
  |some s=>rw[drop_cons c,drop_cons d];simp only[gI];by_cases e:ra s w=true;rw[zy e];split;exact⟨aG,by simp [cE,c,d,e],h⟩;split;exact⟨aG,by simp [cE,c],h⟩;exact⟨aG,by simp [cE,d],h⟩;rw[zj e];split;exact⟨aG,by simp [cE,c,d,e],h⟩;split;exact⟨aG,by simp [cE,c],h⟩;exact⟨aG,by simp [cE,d],h⟩
def AM (S:List Wd)(k b:Nat):Mark:=⟨k,if k=1\/k=3 then(S[b]?).getD []else[]⟩
theorem KA {F S:List Wd}{a b f:Nat}(hk:gI (F.drop a) (S.drop b)<=3)(l:0<=(cE F S (gI (F.drop a) (S.drop b)) a b).2.2):
  ny (f+1) (F.drop a) (S.drop b)=AM S (gI (F.drop a) (S.drop b)) b::ny f (F.drop (cE F S (gI (F.drop a) (S.drop b)) a b).1) (S.drop (cE F S (gI (F.drop a) (S.drop b)) a b).2.1):=by
 have i:(F.drop a).tail=F.drop (a+1):=by rw[gx]
 have j:(S.drop b).tail=S.drop (b+1):=by rw[gx]
 have hh:(S.drop b).headD []=(S[b]?).getD []:=by
  cases d:S[b]? with
  |none=>rw[cr (cy.1 d)];rfl
  |some s=>rw[drop_cons d];rfl
 simp only[ny];generalize gI (F.drop a) (S.drop b)=k at hk l;have m: ∀{x y:Nat},¬(0<=(x,y,(-1:Int)).2.2):=λh=>absurd h bD;have e: ∀(p:Nat) (n o:Nat) (c:Int),cE F S k a b=(a,b,-1)\/cE F S k a b=(n,o,c)->cE F S k a b=(n,o,c):=bD;match k,hk with
 |0,_=>
  have:cE F S 0 a b=(a+1,b+1,0):=e 0 _ _ _ (by
   cases g:F[a]? <;>cases d:S[b]? <;>simp only[cE,g,d]<;>first|(split<;>simp)|simp)
  rw[this,zy zz,i,j];rfl
 |1,_=>
  have:cE F S 1 a b=(a+1,b+1,1):=e 1 _ _ _ (by
   cases g:F[a]? <;>cases d:S[b]? <;>simp only[cE,g,d]<;>first|(split<;>simp)|simp)
  rw[this,zj aG,zy zz,i,j,hh];rfl
 |2,_=>
  have:cE F S 2 a b=(a+1,b,1):=e 2 _ _ _ (by
   cases g:F[a]? <;>cases d:S[b]? <;>simp only[cE,g,d]<;>first|(split<;>simp)|simp)
  rw[this,zj aG,zj aG,zy zz,i];rfl
 |3,_=>
  have:cE F S 3 a b=(a,b+1,1):=e 3 _ _ _ (by
   cases g:F[a]? <;>cases d:S[b]? <;>simp only[cE,g,d]<;>first|(split<;>simp)|simp)
  rw[this,zj aG,zj aG,zj aG,zy zz,j,hh];rfl
theorem Ku (f:Nat){F S:List Wd}(h:gI F S=4):ny f F S=[]:=by
 cases f with
 |zero=>rfl
 |succ f=>simp [ny,h]
theorem RM {F S:List Wd}{a b:Nat}(hk:k=1\/k=3)(h:0<=(cE F S k a b).2.2): ∃s,S[b]? =some s:=by rcases hk with rfl|rfl;cases c:F[a]? <;>cases d:S[b]? <;>simp [cE,c,d]at h ⊢;cases c:F[a]? <;>cases d:S[b]? <;>simp [cE,c,d]at h ⊢
theorem RD (A C:List Wd):Ev ad 136 [strs A,strs C] (.cG [M4 (jD A C).1,I (jD A C).2.1,I (jD A C).2.2]):=by
 have N:=uL A;have O:=uL C;have G: ∀{env:Env} {H:av} {e:Int},lB A C=e->e≠0->env 4= .sl 2 []->env 5=I 0->env 6=I e->qn ad [.tmp 4,.tmp 5,.tmp 6] (.cG [M4 (jD A C).1,I (jD A C).2.1,I (jD A C).2.2]) .ret env H []:=by
  intro env H e R h2 h4 h5 h6;have:jD A C=([],0,e):=by unfold jD;rw[R,zj h2]
  rw[this];exact gv (.inr zz) (.many aG ⟨.tmp h4 zz,.tmp h5 zz,.tmp h6 zz,zq⟩)
 refine ar ajd.ok<|aJ zz<|aa (aa ?_);refine kn [.bY] zz cI<|cj (lB A C=0) (el [(0,strs A),(1,strs C),(4,.nil)]) [] [] ?_ ?_
 refine gf (λk:Nat=>k<=2/\(0<k->cJ A=0)/\(1<k->cJ C=0)) (λk=>el [(0,strs A),(1,strs C),(4,.nil),(16,.sl 1 [[strs A],[strs C]]),(17,I 2),(18,I k)]) (λk=>2-k) 0 ⟨af,af,af⟩
  eL ?_
 rintro k ⟨hk,Y,R⟩;refine aJ zz<|aa (aj zz (λhe=>?_) (λhe=>?_));simp at he;refine ak (aa (ay ?_));have:k=0\/k=1:=af;rcases this with rfl|rfl
 refine bE [.cells [strs A]] zz ⟨⟨aG,zz⟩,zq⟩ ?_;obtain⟨e,D⟩: ∃e,cJ A=e:=⟨_,zz⟩;rw[D]at N;refine bE [.ret (I e)] zz ⟨N,zq⟩<|aa<|cZ zz<|aj zz (λo=>?_) (λo=>ak ?_)
 have o:e≠0:=(by simpa using o);have K:lB A C=e:=(by unfold lB;rw[D,zj o]);refine aJ zz<|ag (bO.ky (t:=4) 2 zz) ?_;exact ab (G K o zz zz zz)
 have o:e=0:=(by simpa using o);refine fE zz bL ?_;exact⟨1,⟨af,λ_=>D.trans o,af⟩,af,eL⟩
 have u:=Y af;refine bE [.cells [strs C]] zz ⟨⟨aG,zz⟩,zq⟩ ?_;obtain⟨e,D⟩: ∃e,cJ C=e:=⟨_,zz⟩;rw[D]at O;refine bE [.ret (I e)] zz ⟨O,zq⟩<|aa<|cZ zz<|aj zz (λo=>?_) (λo=>ak ?_)
 have o:e≠0:=(by simpa using o);have K:lB A C=e:=(by unfold lB;rw[zy u,D]);refine aJ zz<|ag (bO.ky (t:=4) 2 zz) ?_;exact ab (G K o zz zz zz)
 have o:e=0:=(by simpa using o);refine fE zz bL ?_;exact⟨2,⟨af,λ_=>u,λ_=>D.trans o⟩,af,eL⟩
 simp at he;have:k=2:=af;subst this;exact aE ⟨(),oQ.2 ⟨Y af,R af⟩,eL⟩
 intro _ hz;obtain⟨u,U⟩:=oQ.1 hz;have a1:=(lX.1 u).1;have a2:=(lX.1 U).1;have Z:(C.map λs=>[bh s]).length=C.length:=bk _;have hR:jD A C=(ny (A.length+C.length) A C,((oG A C:Nat):Int),0):=by unfold jD;rw[zy hz]
 rw[hR];refine aa (aA ?_);refine lY 2 zz zz<|ah (cC (QG A C) zz zz (aW _) zz ?_);rintro res w ⟨bm,rfl,rfl⟩;refine gk zz<|aa (aA (ah (aO.alloc zz (λd=>?_))));refine bF<|ag (bO.mM (t:=4) 310 2 zz) ?_;have a5: ∀{env:Env},env 4= .aT 310 2 []->True:=λ_=>trivial;refine ay<|bJ (λx=>x.1<=A.length/\x.2.1<=C.length/\x.2.2.1.length<=x.1+x.2.1/\KS A C x.2.2.2/\ ∃f,A.length+C.length<=f+(x.1+x.2.1)/\ny (A.length+C.length) A C=x.2.2.1++ny f (A.drop x.1) (C.drop x.2.1))
  (λx=>el [(1,strs C),(4,.aT 310 2 (x.2.2.1.map Mark.ao)),(9,fP A C bm),(10,.po d 0)]) (λx=>[(d,.cells 305 [I x.1,I x.2.1]),(bm,.map (uQ A C x.2.2.2))]) (λ_=>[]) (λx=>(A.length-x.1)+(C.length-x.2.1)) (0,0,[],[]) ⟨dk _,dk _,aF,(λp hp=>by cases hp),A.length+C.length,aF,zz⟩
  (ai (aw zz) eL) ?_
 rintro⟨a,b,ms,ks⟩ ⟨ha,J,V,M,f,K,g⟩;simp only at ha J V M K g;have z:(ms.map Mark.ao).length=ms.length:=bk _;refine iF [(1,strs C),(4,.aT 310 2 (ms.map Mark.ao)),(9,fP A C bm),(10,.po d 0)]<|ay<|aa (aA ?_);refine mO [.at 0] 2 zz zz cI<|aR (cM (ea _ _ _))<|ah (cC (left_at af af ha J ks M) zz zz (aW _) zz ?_);rintro res w ⟨rfl,n,y,rfl⟩;refine aR (cM (ea _ _ _))<|gk zz<|ag (ai (aw zz) (au (l:=[(1,strs C),(4,.aT 310 2 (ms.map Mark.ao)),(9,fP A C bm),(10,.po d 0),(12,I (gI (A.drop a) (C.drop b):Nat))]) jt)) ?_;rcases M5 ha J with⟨h4,e1,e2⟩|⟨T,E,a4⟩;rw[Ku f h4,cc]at g;rw[h4];refine aa (aa ?_);refine cZ zz<|aC zz zz<|ag (bO.gp (t:=4) zz)<|aa (aA ?_);refine lY 3 zz zz<|aR (cM (ea _ _ _))<|ah (cC (Hin:=ur A C bm n) (H0:=[(d,.cells 305 [I a,I b])]) (YD af af (dk _) (dk _) n y) zz zz (aW _) zz ?_);rintro res w ⟨rfl,a6,a0,rfl⟩;refine gk zz ?_;rw[g];exact ab (gv (.inr zz) (.many aG ⟨.tmp zz zz,.tmp zz zz,.tmp zz zz,zq⟩));obtain⟨Q,rfl⟩: ∃Q,f=Q+1:=⟨f-1,af⟩;rw[KA T E]at g;have m:=PH A C bm (gI (A.drop a) (C.drop b)) a b T ha J af af;obtain⟨l1,l2,l3,l4⟩:=JN (F:=A) (S:=C) (k:=gI (A.drop a) (C.drop b)) ha J;have l5:=l4 E;have r:=λh=>RM (F:=A) (S:=C) (k:=gI (A.drop a) (C.drop b)) (a:=a) (b:=b) h E;have v:=XV;have L:gI (A.drop a) (C.drop b)=1\/gI (A.drop a) (C.drop b)=3\/gI (A.drop a) (C.drop b)=0\/gI (A.drop a) (C.drop b)=2:=af;generalize gI (A.drop a) (C.drop b)=k at T g m l1 l2 l3 l5 r L;generalize (cE A C k a b).1=W at g m l1 l5;generalize (cE A C k a b).2.1=X at g m l2 l5;generalize (cE A C k a b).2.2=c at m;refine aa (aa ?_);refine cZ zz<|aj (b:=false) (by show B _=B _;exact congrArg B (by rw[beq_eq_false_iff_ne];omega)) (λh=>by cases h) (λ_=>ak ?_);refine aa (aA ?_);refine mO [.aT] 4 zz zz ⟨zz,⟨zz,zz,zz,bD⟩,zq⟩<|aY.ie (t:=13) zz (λj=>?_);refine bF<|ag (ai (aw (H':=[(j,.cells 310 [I k,bh []]),(d,.cells 305 [I a,I b]),(bm,.map (uQ A C n))]) zz) (au (l:=[(1,strs C),(4,.aT 310 2 (ms.map Mark.ao)),(9,fP A C bm),(10,.po d 0),(12,I k),(13,.po j 0)]) lO))<|eZ True (el [(1,strs C),(4,.aT 310 2 (ms.map Mark.ao)),(9,fP A C bm),(10,.po d 0),(12,I k),(13,.po j 0)]) [(j,.cells 310 (AM C k b).ao),(d,.cells 305 [I a,I b]),(bm,.map (uQ A C n))] [] ?_ ?_;refine aa ?_;have wr: ∀(env:Env),(∃s,C[b]? =some s)->(k=1\/k=3)->uX env [(1,strs C),(4,.aT 310 2 (ms.map Mark.ao)),(9,fP A C bm),(10,.po d 0),(12,I k),(13,.po j 0)]->aU ad none 66 (.ops [⟨some 49,none,.tJ (tm 1)⟩,⟨some 50,none,.rG 305 (tm 10) 1 1⟩,⟨some 51,none,.load 3 (tm 50) none⟩,⟨some 52,none,.qx 25 (tm 49) (tm 51) 1⟩,⟨some 53,none,.load 9 (tm 52) none⟩,⟨some 54,none,.rG 310 (tm 13) 1 1⟩,⟨none,none,.store 9 (tm 54) (tm 53) 1⟩])
   (λe q H' P=>e= .normal/\bO q H' P (el [(1,strs C),(4,.aT 310 2 (ms.map Mark.ao)),(9,fP A C bm),(10,.po d 0),(12,I k),(13,.po j 0)]) [(j,.cells 310 (AM C k b).ao),(d,.cells 305 [I a,I b]),(bm,.map (uQ A C n))] []) env [(j,.cells 310 [I k,bh []]),(d,.cells 305 [I a,I b]),(bm,.map (uQ A C n))] []:=by
  rintro env ⟨s,hs⟩ hk he
  refine ag (au he)<|aA<|mO [.at 1,.cells [bh s]] 6 zz zz ⟨zz,⟨af,by simp [hs]⟩,zq⟩<|ah (bz (i:=0) zz zz zz zz zz zz (by show 2<=2;decide) ?_)
  refine bF ⟨zz,ai (aw ?_) eL⟩
  have:(AM C k b).ao=[I k,bh s]:=by simp only[AM,Mark.ao];rw[zy hk,hs];rfl
  rw[this];rfl
 rcases L with rfl|rfl|rfl|rfl;refine kn [.ret (.agg J8),.op (.agg [B true,B true,A6 318])] zz ⟨v,λ_ _ _=>aO.kH 1 zz zz zz aG zz zz dO,zq⟩<|aC zz zz<|nW (wr _ (r (.inl zz)) (.inl zz) lO) ?_;rintro e q H' P ⟨rfl,h⟩;exact⟨(),zq,h⟩;refine kn [.ret (.agg J8),.op (.agg [B false,B true,A6 320])] zz ⟨v,λ_ _ _=>aO.kH 3 zz zz zz aG zz zz dO,zq⟩<|aC zz zz<|nW (wr _ (r (.inr zz)) (.inr zz) lO) ?_;rintro e q H' P ⟨rfl,h⟩;exact⟨(),zq,h⟩;refine kn [.ret (.agg J8),.op (.agg [B true,B false,A6 317])] zz ⟨v,λ_ _ _=>aO.kH 0 zz zz zz aG zz zz dO,zq⟩<|aH zz zz ?_;exact⟨(),zq,eL⟩;refine kn [.ret (.agg J8),.op (.agg [B true,B false,A6 319])] zz ⟨v,λ_ _ _=>aO.kH 2 zz zz zz aG zz zz dO,zq⟩<|aH zz zz ?_;exact⟨(),zq,eL⟩
 intro _ _;generalize a3:AM C k b=mk at g;refine bE [.at 0,.bY] zz ⟨zz,zz,⟨by show (_+1)*24<=_;rw[z];omega,by show _+1<=_;rw[z];omega⟩,zq⟩<|aA<|mO [.at 1] 3 zz zz cI<|ah (aO.call m zz zz (aW _) ?_);refine lY 3 zz zz<|ah (bz (i:=1) zz zz zz zz zz zz bD ?_);refine bF ?_;refine⟨(W,X,ms++[mk],n),⟨l1,l2,by simp;omega,y,Q,bD,by rw[g];simp⟩,bD,ai (dW (H':=[(d,.cells 305 [I W,I X]),(bm,.map (uQ A C n))]) ?_) (au ⟨zz,?_,zz,zz,zq⟩)⟩
 exact ec _ _;show AV.aT _ _ _=_;rw[cR];rfl
def BI (f:Nat->Bool)(n:Nat):Nat:=(bs n).foldl (λs i=>if f i=true then s ||| 2^i else s) 0
theorem GL (f:Nat->Bool)(n:Nat):BI f (n+1)=if f n=true then BI f n ||| 2^n else BI f n:=by unfold BI;rw[b6,cA];rfl
theorem Pe (f:Nat->Bool): ∀n:Nat,BI f n<2^n
 |0=>by show 0<1;decide
 |n+1=>by have b:=Pe f n;have a:(2:Nat)^n<=2^(n+1):=bt af af;rw[GL];split;exact cB af (bl af af);omega
theorem Uo (f:Nat->Bool)(h:k<5):lm none (k*1) (b5 f)=some (B (f k)):=
 b5c (C:=λk=>lm none (k*1) (b5 f)=some (B (f k))) zz zz zz zz zz h
theorem Lv (f:Nat->Bool):Ev ad 245 [.agg (b5 f)] (I (BI f 5:Nat)):=by
 refine ar alM.ok<|bE [.bY] zz aK<|aa (aa ?_);refine cZ zz<|cj True (el [(2,I (BI f 5:Nat))]) [] [] ?_ ?_
 ·refine gf (λk:Nat=>k<=5) (λk=>el [(2,I (BI f k:Nat)),(5,.agg (b5 f)),(6,I k)]) (λk=>5-k) 0 af eL ?_;refine λk hk=>aJ zz<|aa (aj zz (λhc=>?_) (λhc=>?_))
  ·simp at hc;have a:=GL f k;have i:=Pe f k;have h:=Uo f (k:=k) af;refine ak (aa (ay ?_));refine bE [.idx (B (f k))] zz ⟨⟨fR,h⟩,zq⟩<|aa<|cZ zz ?_;cases g:f k with
   |false=>rw[g,zj aG]at a;refine aH zz zz<|fE zz bL ?_;exact⟨k+1,af,af,au ⟨by rw[a];rfl,zz,zz,zq⟩⟩
   |true=>rw[g,zy zz]at a;have j:(2:Nat)^k<2^60:=bl af af;have b:(1:Int)*2^((k:Nat):Int).toNat=((2^k:Nat):Int):=aF;have c:(0:Int)<=1*2^((k:Nat):Int).toNat:=(by rw[b];exact cD _);have d:(1:Int)*2^((k:Nat):Int).toNat<9223372036854775808:=(by rw[b];omega);refine aC zz zz<|fE zz (by(and_intros);(all_goals first|exact zk _|((first|exact c|exact d))))<|fE zz ⟨af,zq⟩ ?_;refine⟨k+1,af,af,au ⟨?_,zz,zz,zq⟩⟩;show I _=I _;rw[a,b,an,an]
  simp at hc;have e:k=5:=af;subst e;exact aE ⟨(),zq,eL⟩
 refine λ_ _=>aJ zz<|ab (aD ?_);rfl
theorem Km (l:List Wd):Ev ad 58 [strs l] (I (cJ l)):=by
 have c:(jD l []).2.2=cJ l:=by unfold jD;by_cases h:cJ l=0;rw[zy (oQ.2 ⟨h,zz⟩),h];have b:lB l []≠0:=λe=>h (oQ.1 e).1;rw[zj b];unfold lB;rw[zj h]
 have a:=RD l [];rw[c]at a;generalize (jD l []).1=d at a;generalize (jD l []).2.1=f at a;refine ar S58.ok<|aJ zz<|bE [.yt [strs l,strs []] (.cG [M4 d,I f,I (cJ l)])] zz ⟨⟨a,.cons (.ky (.refl _))⟩,zq⟩<|aJ zz<|ab (aD ?_);rfl
abbrev DA (l:List (List Wd)):AV:=.sl 1 (l.map λx=>[strs x])
abbrev cQ.ao (a:cQ):List AV:=a.sh.ao++(strs a.ix::(a.tw.ao++(a.dr.ao++(a.li.ao++(a.ch.ao++[DA a.le,I a.ca])))))
def dgs (s:Wd):Bool:=match fj s with
 | .ok v=>v==(Yu s:Int)&&e6 v==s&&decide ((Yu s:Int)<=999)
 |_=>false
theorem agb:((bs 10).all λa=>dgs [dn (48+a)])=true:=aX
theorem age:((bs 10).all λa=>a==0||(bs 10).all λb=>dgs [dn (48+a),dn (48+b)])=true:=aX
theorem afS:((bs 10).all λa=>a==0||(bs 10).all λb=>(bs 10).all λc=>dgs [dn (48+a),dn (48+b),dn (48+c)])=true:=aX
theorem agJ:((bs 1000).all λv=>tM (e6 (v:Int))==(v:Int))=true:=aX
theorem zM {c:UInt8}(h:Xa c=true): ∃a,a<10/\c=dn (48+a):=by unfold Xa at h;simp at h;have b:48<=c.toNat:=h.1;have d:c.toNat<=57:=h.2;exact⟨c.toNat-48,af,by simp_all⟩
theorem GQ (h:0<=tM s):dgs s=true/\tM s=(Yu s:Int):=by
 unfold tM at h ⊢;split at h;rename_i hc;rw[zy hc];refine⟨?_,zz⟩;obtain⟨f,d,e,h4⟩:=hc;match s,f,d,e,h4 with
 |[a],_,d,_,_=>simp at d;obtain⟨x,hx,rfl⟩:=zM d;exact cx.1 agb x (b9.2 hx)
 |[a,b],_,d,e,_=>
  simp at d;obtain⟨x,hx,rfl⟩:=zM d.1;obtain⟨y,hy,rfl⟩:=zM d.2;have h:=cx.1 age x (b9.2 hx);simp only[c8,beq_iff_eq]at h;rcases h with rfl|h
  simp at e;exact cx.1 h y (b9.2 hy)
 |[a,b,c],_,d,e,_=>
  simp at d;obtain⟨x,hx,rfl⟩:=zM d.1;obtain⟨y,hy,rfl⟩:=zM d.2.1;obtain⟨z,g,rfl⟩:=zM d.2.2;have h:=cx.1 afS x (b9.2 hx);simp only[c8,beq_iff_eq]at h;rcases h with rfl|h
  simp at e;exact cx.1 (cx.1 h y (b9.2 hy)) z (b9.2 g)
 |_::_::_::_::_,_,_,_,h4=>simp at h4
 omega
theorem sP (s:Wd):tM s= -1\/0<=tM s:=by unfold tM;split<;>omega
theorem Sg (a:0<=v)(b:v<=999):tM (e6 v)=v:=by have:=cx.1 agJ v.toNat (b9.2 af);rw[beq_iff_eq,show ((v.toNat:Nat):Int)=v from af]at this;exact this
theorem XM (h:fj s= .ok v):tM s=if v<0\/999<v\/e6 v≠s then -1 else v:=by
 split;rename_i hc;rcases sP s with h1|h1
 exact h1;obtain⟨a,c⟩:=GQ h1;unfold dgs at a;rw[h]at a;simp at a;obtain⟨⟨rfl,b⟩,d⟩:=a;rcases hc with h7|h7|h7;omega;omega;exact absurd b h7
 rename_i hc;have:e6 v=s:=gM λe=>hc (.inr (.inr e));rw[<-this];exact Sg af af
theorem Tx (h: ∀v,fj s≠.ok v):tM s= -1:=by rcases sP s with h1|h1;exact h1;obtain⟨a,_⟩:=GQ h1;unfold dgs at a;split at a;grind;cases a
theorem P9 (s:Wd)(hs:s.length<=1000000):Ev ad 167 [bh s] (I (tM s)):=by
 have ha:=Yb s hs;unfold IJ at ha;split at ha
 ·rename_i v a;have c:=Lib.atoiAll_bounds a;rw[XM a];refine di akU.ok (kh [(7,[.ev ha]),(22,[.ev (vK v c.1 c.2)])]) (lh []) ?_;repeat' first|apply aN|apply aM|apply aL|apply ax|apply az|(intro b;(try simp at b);(try contradiction))
  all_goals try exact fi _
 rename_i a;rw[Tx a];refine di akU.ok (kh [(7,[.ev ha])]) (lh []) ?_;repeat' first|apply aN|apply aM|apply aL|apply ax|apply az|(intro b;(try simp at b);(try contradiction))
 all_goals try exact fi _
theorem UL (s:Wd):Ev ad 31 [bh s] (B (!dC s)):=iG S31.ok [(4,[.ev (kZ s)])] []
theorem Mu (c:mh)(f:c.wf)(i:Nat)(x:List UInt8)(hx:c.pe[i]? =some x):Ev ad 131 [I i,bh x,.pi c.ao] (I (dT c.pe i)):=by
 have j:=(a8.1 hx).1;have g:=f.pn;have a:dT c.pe i=if eI x=false then 6 else if (c.pe.take i).contains x=true then 5 else 0:=by unfold dT;rw[hx]
 have d:=vM x (f.pe x (b8 hx));have b:=nG (c.pe.take i) x;generalize eI x=e at a d;generalize (c.pe.take i).contains x=b2 at a b;refine ar ahJ.ok<|aJ zz<|dw (dT c.pe i=0) (el []) [] [] ?_ ?_
 refine bE [.ret (B e)] zz ⟨d,zq⟩ ?_;cases e with
 |false=>rw[zy zz]at a;refine aC zz zz<|aJ zz<|ab (aD ?_);rw[a];rfl
 |true=>
  rw[zj aG]at a;refine dm zz zz<|bE [.yt [.sl 1 ((c.pe.take i).map λs=>[bh s]),bh x] (B b2)] zz ⟨⟨⟨zq,af⟩,aF,by simp;omega⟩,⟨b,gN (by rw[eT];rfl)⟩,zq⟩ ?_;cases b2 with
  |true=>rw[zy zz]at a;refine aC zz zz<|aJ zz<|ab (aD ?_);rw[a];rfl
  |false=>rw[zj aG]at a;exact aH zz zz ⟨(),a,au zq⟩
 refine λ_ h=>aJ zz<|ab (aD ?_);rw[h];rfl
theorem MA (c:mh)(s:c.wf){W F P:Int}(p:W=2^c.wo.toNat)(g:F=2^c.fa.toNat)(o:P=2^c.pe.length)(b:(1<=W/\W<=64)/\(1<=F/\F<=64)/\(1<=P/\P<=64))(i:Nat)(x:pC)(hx:c.co[i]? =some x):
  Ev ad 133 [I i,.agg x.ao,.pi c.ao,.pi [I W],.pi [I F],.pi [I P]] (I (tF c i)):=by
 have r:=(a8.1 hx).1;have q:=s.cn;have a:tF c i=if ae 1 c.la [x.nu]=true then 7
  else if (decide (0<i)&&(match c.co[i-1]? with|some y=>decide (x.nu<=y.nu)|none=>false))=true then 2
  else if (ae 0 (W-1) [x.wo]||ae 0 (F-1) [x.fa]||ae 0 (P-1) [x.ma])=true then 4 else 0:=by
  unfold tF;rw[hx,p,g,o];rfl
 have n:=mG 1 c.la [x.nu];have d:=mG 0 (W-1) [x.wo];have f:=mG 0 (F-1) [x.fa];have h4:=mG 0 (P-1) [x.ma];generalize ae 1 c.la [x.nu]=j at n a;generalize ae 0 (W-1) [x.wo]=b2 at d a;generalize ae 0 (F-1) [x.fa]=b3 at f a;generalize ae 0 (P-1) [x.ma]=b4 at h4 a;let E:List (Nat×AV):=[(0,I i),(2,.pi c.ao),(3,.pi [I W]),(4,.pi [I F]),(5,.pi [I P]),(7,.pi x.ao)];refine ar amf.ok<|bE [.bY] zz aK<|dw (tF c i=0) (el []) [] [] ?_ ?_
 ·refine bE [.bY,.ret (B j)] zz ⟨zz,n,zq⟩ ?_;cases j with
  |true=>
   rw[zy zz]at a;refine aC zz zz<|aJ zz<|ab (aD ?_)
   rw[a];rfl
  |false=>
  rw[zj aG]at a;refine dm zz zz<|eZ True (el ((16,B (decide (0<i)&&(match c.co[i-1]? with|some y=>decide (x.nu<=y.nu)|none=>false)))::E)) [] [] ?_ ?_
  ·by_cases m:0<i
   ·obtain⟨y,hy⟩:=bq (l:=c.co) (k:=i-1) af;have e:decide (((i:Nat):Int)>0)=true:=(by rw[decide_eq_true_iff];omega);refine tI [(19,true)] [.cells y.ao] zz (by(and_intros);(all_goals first|exact zk _|((first|exact e|(rw[bI,show (((i:Nat):Int)-1).toNat=i-1 from af,hy];rfl)|(simp;done)|(simp;omega))))) ?_;refine⟨(),zq,au ⟨?_,zz,zz,zz,zz,zz,zz,zq⟩⟩;rw[hy,decide_eq_true m];rfl
   have e:decide (((i:Nat):Int)>0)=false:=(by rw[decide_eq_false_iff_not];omega);refine tI [(19,false)] [] zz (by(and_intros);(all_goals first|exact zk _|((exact e)))) ?_;refine⟨(),zq,au ⟨?_,zz,zz,zz,zz,zz,zz,zq⟩⟩;rw[decide_eq_false m];rfl
  intro _ _;generalize (decide (0<i)&&(match c.co[i-1]? with|some y=>decide (x.nu<=y.nu)|none=>false))=bo at a;cases bo with
  |true=>
   rw[zy zz]at a;refine aC zz zz<|aJ zz<|ab (aD ?_)
   rw[a];rfl
  |false=>
  rw[zj aG]at a;refine dm zz zz<|eZ True (el [(31,B (b2||b3||b4))]) [] [] ?_ ?_
  ·cases b2 with
   |true=>refine kD [(38,true),(46,true)] [.bY,.ret (B true)] zz (by(repeat' (with_reducible apply az));(all_goals first|exact zk _|((first|exact d|rfl)))) ?_;exact⟨(),zq,eL⟩
   |false=>
   cases b3 with
   |true=>refine kD [(38,false),(46,true)] [.bY,.ret (B false),.bY,.ret (B true)] zz (by(repeat' (with_reducible apply az));(all_goals first|exact zk _|((first|exact d|exact f|rfl)))) ?_;exact⟨(),zq,eL⟩
   |false=>refine kD [(38,false),(46,false)] [.bY,.ret (B false),.bY,.ret (B false),.bY,.ret (B b4)] zz (by(repeat' (with_reducible apply az));(all_goals first|exact zk _|((first|exact d|exact f|exact h4|rfl)))) ?_;exact⟨(),zq,eL⟩
  intro _ _;generalize (b2||b3||b4)=bb at a;cases bb with
  |true=>
   rw[zy zz]at a;refine aC zz zz<|aJ zz<|ab (aD ?_)
   rw[a];rfl
  |false=>rw[zj aG]at a;exact aH zz zz ⟨(),a,au zq⟩
 refine λ_ h=>aJ zz<|ab (aD ?_)
 rw[h];rfl
theorem ME (c:mh){F:Int}(g:F=2^c.fa.toNat)(b:(1<=F/\F<=64)/\1<=c.fa/\c.fa<=6)(i:Nat)(x:Ss)(hx:c.ru[i]? =some x):Ev ad 135 [I i,.agg x.ao,.pi [I F],.pi c.ao] (I (tG c i)):=by
 have a:tG c i=if (ae 0 (F-1) [x.Li]||ae 0 (c.fa-1) [x.th])=true then 4 else if x.Li=0 then 2 else 0:=by unfold tG;rw[hx,g]
 have f:=mG 0 (F-1) [x.Li];have j:=mG 0 (c.fa-1) [x.th];generalize ae 0 (F-1) [x.Li]=d at f a;generalize ae 0 (c.fa-1) [x.th]=b2 at j a;refine ar ahG.ok<|bE [.bY] zz aK<|dw (tG c i=0) (el []) [] [] ?_ ?_
 ·refine eZ True (el [(5,.pi x.ao),(7,B (d||b2))]) [] [] ?_ ?_
  ·cases d with
   |true=>refine kD [(14,true)] [.bY,.ret (B true)] zz (by(repeat' (with_reducible apply az));(all_goals first|exact zk _|((first|exact f|rfl)))) ?_;exact⟨(),zq,eL⟩
   |false=>refine kD [(14,false)] [.bY,.ret (B false),.bY,.ret (B b2)] zz (by(repeat' (with_reducible apply az));(all_goals first|exact zk _|((first|exact f|exact j|rfl)))) ?_;exact⟨(),zq,eL⟩
  intro _ _;generalize (d||b2)=bb at a;cases bb with
  |true=>rw[zy zz]at a;refine aC zz zz<|aJ zz<|ab (aD ?_);rw[a];rfl
  |false=>
  rw[zj aG]at a;refine dm zz zz<|aJ zz ?_;by_cases e:x.Li=0
  rw[zy e]at a;refine aC zz (by rw[beq_iff_eq];exact e)<|aJ zz<|ab (aD ?_);rw[a];rfl
  rw[zj e]at a;exact aH zz (by rw[beq_eq_false_iff_ne];exact e) ⟨(),a,au zq⟩
 refine λ_ h=>aJ zz<|ab (aD ?_);rw[h];rfl
theorem mu {n:Nat}(h:n<=m):(1:Int)*2^((n:Nat):Int).toNat=2^n/\(1:Int)<=2^n/\(2:Int)^n<=2^m:=by have a:=bt (n:=2) af h;have b:(1:Nat)<=2^n:=Nat.one_le_two_pow;refine⟨aF,?_,?_⟩;grind;grind
theorem Gc (c:mh)(g:c.wf):Ev ad 56 [.agg c.ao] (.cG [I (eK c).1,I (eK c).2.1,I (eK c).2.2]):=by
 have u:((c.pe.map λs=>[bh s]).length:Int)=c.pe.length:=aF;have res: ∀{Q:dl} {env:Env} {H:av} {x y r:Int},(∀env H,qn ad [.tmp 2,.tmp 3,.tmp 4] (.cG [I (eK c).1,I (eK c).2.1,I (eK c).2.2]) .ret env H []->Q .ret env H [])->eK c=(x,y,r)->env 2=I x->env 3=I y->env 4=I r->Q .ret env H []:=by intro Q env H x y r L h l f h4;refine L _ _ ?_;rw[h];exact gv (.inr zz) (.many aG ⟨.tmp l zz,.tmp f zz,.tmp h4 zz,zq⟩)
 have a:=eK.eq_1 c;have k:=mG 1 5 [c.wo];have p:=mG 1 6 [c.fa];have w:=mG 0 30 [c.la];have e:(ae 1 5 [c.wo]||ae 1 6 [c.fa]||ae 0 30 [c.la])=false->(1<=c.wo/\c.wo<=5)/\1<=c.fa/\c.fa<=6:=by intro h;simp at h;have d:=mt dc.2 (by rw[h.1.1];decide: ¬ae 1 5 [c.wo]=true);have l:=mt dc.2 (by rw[h.1.2];decide: ¬ae 1 6 [c.fa]=true);omega
 have f1:=R3 c.pe 131 [.pi c.ao] (dT c.pe) g.pn (λi x hx=>Mu c g i x hx);have f2:=λ(W F P:Int) (M:W=2^c.wo.toNat) (q:F=2^c.fa.toNat) (K:P=2^c.pe.length) b=>TP c.co 133 [.pi c.ao,.pi [I W],.pi [I F],.pi [I P]] (tF c) g.cn (λi x hx=>MA c g M q K b i x hx);have f3:=λ(F:Int) (q:F=2^c.fa.toNat) b=>SZ c.ru 135 [.pi [I F],.pi c.ao] (tG c) g.rn (λi x hx=>ME c q b i x hx);generalize ae 1 5 [c.wo]=j at k a e;generalize ae 1 6 [c.fa]=b2 at p a e;generalize ae 0 30 [c.la]=b3 at w a e;generalize (aB (dT c.pe) c.pe.length 0).1=S at f1 a;generalize (aB (dT c.pe) c.pe.length 0).2=v at f1 a;generalize (aB (tF c) c.co.length 0).1=c1 at f2 a;generalize (aB (tF c) c.co.length 0).2=o at f2 a;generalize (aB (tG c) c.ru.length 0).1=T at f3 a;generalize (aB (tG c) c.ru.length 0).2=E at f3 a;refine ar S56.ok<|bE [.bY] zz aK<|dw ((j||b2||b3)=false/\c.pe.length<=3) (el [(1,.pi c.ao)]) [] [] ?_ ?_
 ·refine eZ True (el [(1,.pi c.ao),(8,B (j||b2||b3))]) [] [] ?_ ?_
  ·cases j with
   |true=>refine kD [(13,true),(19,true)] [.bY,.ret (B true)] zz (by(repeat' (with_reducible apply az));(all_goals first|exact zk _|((first|rfl|exact k)))) ?_;exact⟨(),zq,eL⟩
   |false=>
    cases b2 with
    |true=>refine kD [(13,false),(19,true)] [.bY,.ret (B false),.bY,.ret (B true)] zz (by(repeat' (with_reducible apply az));(all_goals first|exact zk _|((first|rfl|exact k|exact p)))) ?_;exact⟨(),zq,eL⟩
    |false=>refine kD [(13,false),(19,false)] [.bY,.ret (B false),.bY,.ret (B false),.bY,.ret (B b3)] zz (by(repeat' (with_reducible apply az));(all_goals first|exact zk _|((first|rfl|exact k|exact p|exact w)))) ?_;exact⟨(),zq,eL⟩
  intro _ _;generalize (j||b2||b3)=bb at a;cases bb with
  |true=>rw[zy zz]at a;refine aC zz zz<|aJ zz ?_;exact ab (res (λ_ _ h=>h) a zz zz zz)
  |false=>
   rw[zj aG]at a;refine dm zz zz<|aJ zz ?_;by_cases h4:3<c.pe.length
   rw[zy h4]at a;refine aC zz (by rw[decide_eq_true_iff];omega)<|aJ zz ?_;exact ab (res (λ_ _ h=>h) a zz zz zz)
   exact aH zz (by rw[decide_eq_false_iff_not];omega) ⟨(),⟨zz,af⟩,eL⟩
 rintro _ ⟨A,O⟩;obtain⟨⟨w1,U⟩,G,J⟩:=e A;rw[A,zj aG,zj af]at a;refine bE [.ret (.cG [I S,I v])] zz ⟨f1,zq⟩<|dw (v=0/\c.co.length<=6) (el [(1,.pi c.ao)]) [] [] ?_ ?_
 ·apply aJ zz;by_cases d:v=0;case neg=>rw[zy d]at a;refine aC zz (by rw[bne_iff_ne];exact d)<|aJ zz ?_;exact ab (res (λ_ _ h=>h) a zz zz zz)
  rw[zj (by simp [d])]at a;refine dm zz (by rw[d];rfl)<|aJ zz ?_;by_cases h4:6<c.co.length
  rw[zy h4]at a;refine aC zz (by rw[decide_eq_true_iff];simp;omega)<|aJ zz ?_;exact ab (res (λ_ _ h=>h) a zz zz zz)
  exact aH zz (by rw[decide_eq_false_iff_not];simp;omega) ⟨(),⟨d,af⟩,eL⟩
 rintro _ ⟨d,N⟩;rw[zj (by simp [d]),zj af]at a;have D:=mu (n:=c.wo.toNat) (m:=6) af;have pf:=mu (n:=c.fa.toNat) (m:=6) af;have C:=mu (n:=c.pe.length) af;rw[an]at D pf C;have z:(1:Int)*2^(((c.pe.map λs=>[bh s]).length:Int)).toNat=2^c.pe.length:=by rw[u];exact C.1
 have f2:=f2 _ _ _ D.1 pf.1 z af;have f3:=f3 _ pf.1 af;refine xe [] [.aT,.aT,.aT] zz (by(and_intros);(all_goals first|exact zk _|((first|(rw[z];omega)|rfl|exact b0 1))))<|ag (aq (t:=5) zz)<|ag (aq (t:=6) zz)<|ag (aq (t:=7) zz)<|iF [(1,.pi c.ao),(5,.pi [I (1*2^c.wo.toNat)]),(6,.pi [I (1*2^c.fa.toNat)]),(7,.pi [I (1*2^(((c.pe.map λs=>[bh s]).length:Int)).toNat)])]<|bE [.ret (.cG [I c1,I o])] zz ⟨f2,zq⟩<|dw (o=0/\c.ru.length<=4) (el [(1,.pi c.ao),(6,.pi [I (1*2^c.fa.toNat)])]) [] [] ?_ ?_
 ·refine aJ zz ?_;by_cases d:o=0;case neg=>rw[zy d]at a;refine aC zz (by rw[bne_iff_ne];exact d)<|aJ zz ?_;exact ab (res (λ_ _ h=>h) a zz zz zz)
  rw[zj (by simp [d])]at a;refine dm zz (by rw[d];rfl)<|aJ zz ?_;by_cases h4:4<c.ru.length
  rw[zy h4]at a;refine aC zz (by rw[decide_eq_true_iff];simp;omega)<|aJ zz ?_;exact ab (res (λ_ _ h=>h) a zz zz zz)
  exact aH zz (by rw[decide_eq_false_iff_not];simp;omega) ⟨(),⟨d,af⟩,eL⟩
 rintro _ ⟨l,R⟩;rw[zj (by simp [l]),zj af]at a;refine bE [.ret (.cG [I T,I E])] zz ⟨f3,zq⟩<|aa (aa ?_);refine cZ zz ?_;by_cases f:E=0;case neg=>rw[zy f]at a;refine aC zz (by rw[bne_iff_ne];exact f)<|aJ zz ?_;exact ab (res (λ_ _ h=>h) a zz zz zz)
 rw[zj (by simp [f])]at a;refine aH zz (by rw[f];rfl)<|aJ zz ?_;exact ab (res (λ_ _ h=>h) a zz zz zz)
open Go.MapKept
structure mh.OK (c:mh):Prop where
 wf:c.wf
 wo:1<=c.wo/\c.wo<=5
 fa:1<=c.fa/\c.fa<=6
 la:0<=c.la/\c.la<=30
 p3:c.pe.length<=3
 c6:c.co.length<=6
 r4:c.ru.length<=4
 co: ∀x∈c.co,(1<=x.nu/\x.nu<=c.la)/\(0<=x.wo/\x.wo<2^c.wo.toNat)/\(0<=x.fa/\x.fa<2^c.fa.toNat)/\0<=x.ma/\x.ma<2^c.pe.length
 up: ∀(i:Nat) x y,c.co[i]? =some x->c.co[i+1]? =some y->x.nu<y.nu
theorem EE (n:c.wf)(h:(eK c).2.2=0):c.OK:=by
 unfold eK at h;by_cases e:(ae 1 5 [c.wo]||ae 1 6 [c.fa]||ae 0 30 [c.la])=true;grind;rw[zj e]at h;by_cases m:3<c.pe.length;grind;rw[zj m]at h;by_cases l:(aB (dT c.pe) c.pe.length 0).2≠0;grind;rw[zj l]at h;by_cases hc:6<c.co.length;grind;rw[zj hc]at h;by_cases g:(aB (tF c) c.co.length 0).2≠0;grind;rw[zj g]at h;by_cases p:4<c.ru.length;grind;have f2:=eN.1 (ds.1 g);simp at e;have a1:=qU e.1.1;have j:=qU e.1.2;have k:=qU e.2;have key: ∀(i:Nat) x,c.co[i]? =some x->ae 1 c.la [x.nu]=false/\((decide (0<i)&&(match c.co[i-1]? with|some y=>decide (x.nu<=y.nu)|none=>false))=false)/\(ae 0 (2^c.wo.toNat-1) [x.wo]||ae 0 (2^c.fa.toNat-1) [x.fa]||ae 0 (2^c.pe.length-1) [x.ma])=false:=by intro i x hx;have:=f2 i (a8.1 hx).1;unfold tF at this;rw[hx]at this;change (if ae 1 c.la [x.nu]=true then(7:Int)else if (decide (0<i)&&(match c.co[i-1]? with|some y=>decide (x.nu<=y.nu)|none=>false))=true then 2 else if (ae 0 (2^c.wo.toNat-1) [x.wo]||ae 0 (2^c.fa.toNat-1) [x.fa]||ae 0 (2^c.pe.length-1) [x.ma])=true then 4 else 0)=0 at this;by_cases a:ae 1 c.la [x.nu]=true;grind;rw[zj a]at this;by_cases b:(decide (0<i)&&(match c.co[i-1]? with|some y=>decide (x.nu<=y.nu)|none=>false))=true;grind;rw[zj b]at this;by_cases d:(ae 0 (2^c.wo.toNat-1) [x.wo]||ae 0 (2^c.fa.toNat-1) [x.fa]||ae 0 (2^c.pe.length-1) [x.ma])=true;grind;exact⟨by simpa using a,by simpa using b,by simpa using d⟩
 refine⟨n,a1,j,k,af,af,af,?_,?_⟩;intro x hx;obtain⟨i,hi⟩:=b7.1 hx;obtain⟨o,-,f⟩:=key i x hi;simp at f;have:=qU o;have:=qU f.1.1;have:=qU f.1.2;have:=qU f.2;omega;grind
abbrev vw3 (f:Nat->Nat):List AV:=[I (f 0:Nat),I (f 1:Nat),I (f 2:Nat)]
theorem lt3 {C:Nat->Prop}(a:C 0)(b:C 1)(c:C 2)(h:k<3):C k:=by
 match k,h with
 |0,_=>exact a
 |1,_=>exact b
 |2,_=>exact c
abbrev kF (c:mh)(t:AV)(f:Nat->Nat):List AV:=c.ao++(vw3 f++[t])
theorem Xe (c:mh)(t:AV)(f:Nat->Nat)(h:k<3):gw none ((kF c t f).drop (6+k*1))=some (I (f k:Nat)):=
 lt3 (C:=λk=>gw none ((kF c t f).drop (6+k*1))=some (I (f k:Nat))) zz zz zz h
theorem Jm (c:mh)(t:AV)(f:Nat->Nat)(h:k<3):[I (f k:Nat)]<+:((kF c t f).drop 6).drop (k*1):=
 lt3 (C:=λk=>[I (f k:Nat)]<+:((kF c t f).drop 6).drop (k*1)) ⟨_,zz⟩ ⟨_,zz⟩ ⟨_,zz⟩ h
theorem Uz (c:mh)(t:AV)(f:Nat->Nat)(v:Nat)(h:k<3):bU (kF c t f) (6+k*1) [I (v:Nat)]=kF c t (λj=>if j=k then v else f j):=
 lt3 (C:=λk=>bU (kF c t f) (6+k*1) [I (v:Nat)]=kF c t (λj=>if j=k then v else f j)) zz zz zz h
def oD (c:mh)(p n:Nat):Nat:=(bs n).foldl (λs i=>match c.co[i]? with|some x=>if x.ma.toNat.testBit p=true then s ||| 2^i else s|none=>s) 0
theorem NF {p n:Nat}{x:pC}(h:c.co[n]? =some x):oD c p (n+1)=if x.ma.toNat.testBit p=true then oD c p n ||| 2^n else oD c p n:=by unfold oD;rw[b6,cA,fs,gm,h]
theorem yk (c:mh)(p:Nat): ∀n:Nat,n<=6->oD c p n<2^6
 |0,_=>de 6
 |n+1,h=>by have a:=yk c p n af;unfold oD at a ⊢;rw[b6,cA,fs,gm];split;split;exact cB a (bl af af);exact a;exact a
def kP (c:mh)(n p:Nat):Nat:=if p<c.pe.length then oD c p n else 0
abbrev OG (c:mh):AV:=.pi (kF c (.mi []) (kP c c.co.length))
theorem Wc (ok:c.OK):iM ad 390 [.agg c.ao] [] (λr _=>r=OG c):=by
 have p3:=ok.p3;have c6:=ok.c6;have C:((c.pe.map λs=>[bh s]).length:Int)=c.pe.length:=aF;have B:((c.co.map pC.ao).length:Int)=c.co.length:=aF;refine bH ah6.ok<|bE [.bY] zz aK<|aa (aA ?_);refine lY 1 zz zz<|ah (aO.vY (λg=>?_));refine mO [.aT] 2 zz zz aK<|aY.ie (t:=10) zz (λb=>?_);refine gk zz<|ag (aw (H':=[(b,.cells 428 (kF c (.mo g) (kP c 0))),(g,.map [])]) ?_) ?_
 have:kP c 0=λ_=>0:=by funext p;unfold kP oD;split<;>rfl
 rw[this];rfl
 refine aa (aa ?_);refine cZ zz<|cj True (el [(3,.po b 0)]) [(b,.cells 428 (kF c (.mo g) (kP c c.co.length))),(g,.map [])] [] ?_ ?_
 ·refine bJ (λk:Nat=>k<=c.co.length) (λk=>el [(1,.pi c.ao),(3,.po b 0),(12,lQ c.co),(13,I c.co.length),(14,I k)]) (λk=>[(b,.cells 428 (kF c (.mo g) (kP c k))),(g,.map [])]) (λ_=>[]) (λk=>c.co.length-k) 0 af
   (au ⟨zz,zz,zz,by show I _=I _;rw[B],zz,zq⟩) ?_
  refine λk hk=>aJ zz<|aa (aj zz (λhc=>?_) (λhc=>?_))
  ·simp at hc;obtain⟨x,hx⟩:=bq hc;obtain⟨-,-,-,D,O⟩:=ok.co x (b8 hx);have hm:x.ma<8:=(by have:=(mu p3).2.2;omega);let d:Nat->Nat->Nat:=λq p=>if p<q then kP c (k+1) p else kP c k p
   refine ak<|dw True (el [(1,.pi c.ao),(3,.po b 0),(12,lQ c.co),(13,I c.co.length),(14,I k)]) [(b,.cells 428 (kF c (.mo g) (kP c (k+1)))),(g,.map [])] [] ?_ ?_
   ·refine bE [.cells x.ao,.aT] zz ⟨⟨af,by simp [hx]⟩,zz,ef,zq⟩<|ag (aq (t:=5) zz)<|aJ zz<|ay ?_;let E:List (Nat×AV):=[(1,.pi c.ao),(3,.po b 0),(12,lQ c.co),(13,I c.co.length),(14,I k)]
    refine bJ (λq:Nat=>q<=c.pe.length) (λq=>el ((4,I k)::(5,.pi x.ao)::(21,I c.pe.length)::(22,I q)::E)) (λq=>[(b,.cells 428 (kF c (.mo g) (d q))),(g,.map [])]) (λ_=>[]) (λq=>c.pe.length-q) 0 af
     (au ⟨zz,zz,by show I _=I _;rw[C],zz,zz,zz,zz,zz,zz,zq⟩) ?_
    refine λq N=>aJ zz<|aa (aj zz (λa=>?_) (λa=>?_))
    ·simp at a;have h:=ng x.ma q D;have K:(0:Int)<=x.ma/2^((q:Nat):Int).toNat:=ey D (e5 (ff af));have L:x.ma/2^((q:Nat):Int).toNat<=x.ma:=eu _ D;have f:=NF (p:=q) hx;have H:=yk c q k af;have y:d q q=oD c q k:=(by show (if q<q then _ else kP c k q)=_;rw[zj af];unfold kP;rw[zy a]);have uR: ∀v:Nat,v=oD c q (k+1)->(λj=>if j=q then v else d q j)=d (q+1):=by
      intro v M;funext j;show _=if j<q+1 then _ else _
      by_cases e:j=q;subst e;rw[zy zz,zy af,M];unfold kP;rw[zy a];rw[zj e];show (if j<q then _ else _)=_;by_cases o:j<q;rw[zy o,zy af];rw[zj o,zj af]
     refine ak (aa (ay ?_));refine aJ zz<|aa<|fE zz (by(and_intros);(all_goals first|exact zk _|((omega))))<|aj (b:=da x.ma q) zz (λw=>?_) (λw=>?_)
     ·rw[h]at w;rw[zy w]at f;have J:(2:Nat)^k<=32:=(by have:=bt (n:=2) af (show k<=5 from af);omega);have u:(1:Int)*2^((k:Nat):Int).toNat=((2^k:Nat):Int):=aF;have z:(0:Int)<=1*2^((k:Nat):Int).toNat:=(by rw[u];exact cD _);have A:(1:Int)*2^((k:Nat):Int).toNat<9223372036854775808:=(by rw[u];omega);have m:=Xe c (.mo g) (d q) (k:=q) af;rw[y]at m;refine zg [] [.RY 0 (I (oD c q k:Nat))] zz (by(and_intros);(all_goals first|exact zk _|((first|exact z|exact A|exact m))))<|aY.hd (gs:=[]) (hs:=[.iL 0]) zz ⟨⟨zz,zz,zz,zz,by show 6+((q:Nat):Int).toNat*1+1<=10;omega⟩,zq⟩<|fE zz bL ?_;refine⟨q+1,a,af,ai (aw ?_) eL⟩;have G:((((oD c q k:Nat):Int).toNat ||| ((1:Int)*2^((k:Nat):Int).toNat).toNat:Nat):Int)=((oD c q (k+1):Nat):Int):=by rw[u,an,an,f]
      show [(b,dp.cells _ (bU (kF c (.mo g) (d q)) (6+q*1) [I ((((oD c q k:Nat):Int).toNat ||| ((1:Int)*2^((k:Nat):Int).toNat).toNat:Nat):Int)])),_]=_;rw[G,Uz _ _ _ _ af,uR _ zz]
     rw[h,<-e9]at w;rw[zj w]at f;refine ak<|fE zz bL ?_;refine⟨q+1,a,af,ai (aw ?_) eL⟩;rw[<-uR (oD c q k) f.symm]
     have:(λj=>if j=q then oD c q k else d q j)=d q:=(by funext j;by_cases e:j=q;subst e;rw[zy zz,y];rw[zj e]);rw[this]
    simp only[nL]at a;have e:q=c.pe.length:=af;subst e;have F:d c.pe.length=kP c (k+1):=(by funext j;show (if j<c.pe.length then _ else _)=_;by_cases o:j<c.pe.length;rw[zy o];rw[zj o];unfold kP;rw[zj o,zj o]);refine aE ⟨(),zq,ai (aw (by rw[F])) eL⟩
   intro _ _;refine fE zz bL ?_;exact⟨k+1,af,af,eL⟩
  simp only[nL]at hc;have e:k=c.co.length:=af;subst e;exact aE ⟨(),zq,eL⟩
 intro _ _;refine aJ zz<|iF [(2,.po b 0)]<|ag (bO.jw (i:=0) 2 zz zz)<|ag (ai (au (l:=[(2,.pi (kF c (.mo g) (kP c c.co.length)))]) cI) (bO.nh (i:=0) (t:=2) (b:=g) (es:=[]) zz zz))<|ag (au (l:=[(2,OG c)]) ⟨by show AV.pi _=_;simp [EP],zq⟩) ?_;exact ab ⟨.inr zz,_,_,[],zz,.one (.tmp zz zz),zz,a7 _⟩
def ED (l:List (Int×Int)):List Int:=l.flatMap λx=>[x.1,x.2]
theorem Qw (l:List (Int×Int)):(ED l).length=2*l.length:=by
 unfold ED;induction l with
 |nil=>rfl
 |cons x l a=>grind
theorem FO: ∀{l:List (Int×Int)} {k:Nat} {x:Int×Int},l[k]? =some x->(ED l)[2*k]? =some x.1/\(ED l)[2*k+1]? =some x.2
 |y::l,0,x,h=>by simp only[List.getElem?_cons_zero,hC]at h;subst h;exact⟨zz,zz⟩
 |y::l,k+1,x,h=>by have:=FO (l:=l) (k:=k) (by simpa using h);exact⟨by rw[show 2*(k+1)=2*k+1+1 from af];exact this.1,by rw[show 2*(k+1)+1=2*k+1+1+1 from af];exact this.2⟩
theorem AJ (g:c.wf)(l:List (Int×Int))(hl:l.length<=1000000)(h: ∀x∈l,0<=x.2/\x.2<=9223372036854775807):iM ad 338 [.agg c.ao,ints (ED l)] [] (λr _=>(ib c l=0/\r= .cG [OG c,I 0])\/(ib c l≠0/\r= .cG [.v (.pointer none),I (ib c l)])):=by
 have hc:=Gc c g;have a:ib c l=if (eK c).2.2≠0 then(eK c).2.2 else if l.any (λx=>ae 0 (x.2-1) [x.1])=true then 4 else 0:=rfl
 have i:=Qw l;have b:(((ED l).map λx=>[I x]).length:Int)=2*l.length:=bD;refine bH akV.ok<|bE [.bY] zz aK<|aa (aa ?_);refine kn [.ret (.cG [I (eK c).1,I (eK c).2.1,I (eK c).2.2])] zz ⟨hc,zq⟩<|aa<|cZ zz ?_;by_cases f:(eK c).2.2=0
 case neg=>rw[zy f]at a;refine aC zz bD<|aJ zz ?_;exact ab ⟨.inr zz,_,.cG [.v (.pointer none),I (eK c).2.2],[],zz,.many aG ⟨.tmp zz zz,.tmp zz zz,zq⟩,.inr ⟨bD,by rw[a]⟩,a7 _⟩
 rw[zj (by simp [f])]at a;refine aH zz (by rw[f];rfl)<|aa (aa ?_);apply cZ zz;let A:Nat->Bool:=λk=>(l.drop k).any (λx=>ae 0 (x.2-1) [x.1]);refine cj (A 0=false) (el [(2,.pi c.ao)]) [] [] ?_ ?_
 ·refine gf (λk:Nat=>k<=l.length/\A 0=A k) (λk=>el [(1,ints (ED l)),(2,.pi c.ao),(9,I ((2*k:Nat):Int))]) (λk=>l.length-k) 0 nN eL ?_;rintro k ⟨hk,hi⟩;refine aa (aa ?_);refine fE zz bD<|aj zz (λe=>?_) (λe=>?_)
  ·simp only[decide_eq_true_eq]at e;rw[b]at e;obtain⟨x,hx⟩:=bq (l:=l) (k:=k) af;obtain⟨g1,g2⟩:=FO hx;have j:=h x (b8 hx);have d:=mG 0 (x.2-1) [x.1];have hA:A k=(ae 0 (x.2-1) [x.1]||A (k+1)):=(by show (l.drop k).any _=_;rw[drop_cons hx,gR]);generalize ae 0 (x.2-1) [x.1]=bb at d hA;refine ak (aa (ay ?_));have m:(((2*k:Nat):Int)+1).toNat=2*k+1:=af;refine xe [] [.cells [I x.2],.cells [I x.1],.bY,.ret (B bb)] zz (by(repeat' (with_reducible apply az));(all_goals first|exact zk _|((first|exact d|(rw[m,bI,g2];rfl)|(rw[an,bI,g1];rfl)|(rw[b];omega)|rfl)))) ?_;cases bb with
   |true=>rw[show l.any (λx=>ae 0 (x.2-1) [x.1])=A 0 from rfl,hi,hA,hb,zy zz]at a;refine aC zz zz<|aJ zz ?_;exact ab ⟨.inr zz,_,.cG [.v (.pointer none),I 4],[],zz,.many aG ⟨.tmp zz zz,.tmp zz zz,zq⟩,.inr ⟨by rw[a];decide,by rw[a]⟩,a7 _⟩
   |false=>refine aH zz zz<|fE zz (by(and_intros);(all_goals first|exact zk _|((omega)))) ?_;exact⟨k+1,⟨af,by rw[hi,hA,gQ]⟩,af,au ⟨zz,zz,by congr 2,zq⟩⟩
  simp only[decide_eq_false_iff_not]at e;rw[b]at e;refine aE ⟨(),?_,eL⟩;rw[hi];show (l.drop k).any _=_;rw[drop_nil af];rfl
 intro _ hA;rw[show l.any (λx=>ae 0 (x.2-1) [x.1])=A 0 from rfl,hA,zj aG]at a;refine aa (aA ?_);refine lY 1 zz zz<|ah (cC (Wc (EE g f)) zz zz (aW _) zz ?_);rintro r Ho rfl;apply gk zz;exact ab ⟨.inr zz,_,.cG [OG c,I 0],[],zz,.many aG ⟨.tmp zz zz,.tmp zz zz,zq⟩,.inl ⟨a,zz⟩,a7 _⟩
theorem zU (a:c.wf){l:List (Int×Int)}(h:ib c l=0):c.OK/\ ∀x∈l,ae 0 (x.2-1) [x.1]=false:=by grind [ib,eK,ae,EE]
def tz (l:List Int)(k:Nat):Nat:=(l.take k).foldl (λ(s:Nat) (n:Int)=>s ||| 2^n.toNat) 0
theorem Mx {l:List Int}{n:Int}(h:l[k]? =some n):tz l (k+1)=tz l k ||| 2^n.toNat:=by unfold tz;rw[List.take_add_one,h,Option.toList_some,cA];rfl
theorem J4 {l:List Int}(h: ∀n∈l,n.toNat<m)(k:Nat):tz l k<2^m:=by
 have key: ∀(l:List Int) (s:Nat),s<2^m->(∀n∈l,n.toNat<m)->l.foldl (λ(s:Nat) (n:Int)=>s ||| 2^n.toNat) s<2^m:=by
  intro l;induction l with
  |nil=>grind
  |cons p x c=>exact λs hs h=>c _ (cB hs (bl af (h p aF))) (λq b=>h q (by simp [b]))
 exact key _ 0 (de m) (λn a=>h n (eS a))
theorem YF (l:List Int)(below:Int)(D:1<=below/\below<=60):Ev ad 339 [ints l,I below] (.cG [I (oc l below).1,I (oc l below).2]):=by
 have f:=mG 0 (below-1) l;have a:oc l below=if ae 0 (below-1) l=true then(0,4)else if (bs l.length).all (λi=>i==0||decide (l.getD (i-1) 0<l.getD i 0))=false then(0,2)else(((tz l l.length:Nat):Int),0):=by unfold oc tz;rw[ew]
 let A:Nat->Bool:=λk=>(bs k).all (λi=>i==0||decide (l.getD (i-1) 0<l.getD i 0));have b:ae 0 (below-1) l=false-> ∀n∈l,0<=n/\n<below:=by intro h n c;unfold ae at h;rw[er]at h;have:=h n c;simp at this;omega
 generalize ae 0 (below-1) l=bb at f a b;refine ar aiz.ok<|gn 0 zz λha=>?_;simp at ha;refine aJ zz<|aa (aa ?_);refine kn [.ret (B bb)] zz ⟨fR,f,zq⟩ ?_;cases bb with
 |true=>
  rw[zy zz]at a;refine aC zz zz<|aJ zz<|ab (fJ ?_ ?_)
  rw[a];rfl;rw[a];rfl
 |false=>
 rw[zj aG]at a;have b:=b zz;have r:=λk=>J4 (l:=l) (m:=60) (λn c=>bD) k;refine aH zz zz<|aa (aa ?_);refine cZ zz<|cj (A l.length=true) (el [(4,I (tz l l.length:Nat))]) [] [] ?_ ?_
 ·refine gf (λk:Nat=>k<=l.length/\A k=true) (λk=>el [(0,ints l),(4,I (tz l k:Nat)),(12,ints l),(13,I l.length),(14,I k)]) (λk=>l.length-k) 0 nN (au ⟨zz,zz,zz,by show I _=I _;simp,zz,zq⟩) ?_;rintro k ⟨hk,hi⟩;refine aJ zz<|aa (aj zz (λhc=>?_) (λhc=>?_))
  ·simp at hc;obtain⟨n,c⟩:=bq hc;have y:=b n (b8 c);have t:A (k+1)=(k==0||decide (l.getD (k-1) 0<n)):=(by have s:A (k+1)=(A k&&(k==0||decide (l.getD (k-1) 0<l.getD k 0))):=(by show (bs (k+1)).all _=_;rw[b6,List.all_append,List.all_cons,List.all_nil,Bool.and_true]);rw[s,hi,Ca c];rfl);have v:A (k+1)=false->A l.length=false:=(by intro h;rw[List.all_eq_false]at h ⊢;obtain⟨j,x,C⟩:=h;exact⟨j,b9.2 (by have:=b9.1 x;omega),C⟩);refine ak<|dw (A (k+1)=true) (el [(0,ints l),(4,I (tz l (k+1):Nat)),(12,ints l),(13,I l.length),(14,I k)]) [] [] ?_ ?_
   ·refine bE [.cells [I n]] zz ⟨⟨af,by simp [c]⟩,zq⟩<|eZ (A (k+1)=true) (el [(0,ints l),(4,I (tz l k:Nat)),(7,I n),(12,ints l),(13,I l.length),(14,I k)]) [] [] ?_ ?_
    ·refine eZ True (el [(0,ints l),(4,I (tz l k:Nat)),(7,I n),(12,ints l),(13,I l.length),(14,I k),(29,B (!(A (k+1))))]) [] [] ?_ ?_
     ·by_cases s:0<k
      ·obtain⟨p,u⟩:=bq (l:=l) (k:=k-1) af;have q:decide (((k:Nat):Int)>0)=true:=(by rw[decide_eq_true_iff];omega);refine kD [(21,true)] [.cells [I p]] zz (by(and_intros);(all_goals first|exact zk _|((first|exact q|(rw[bI,show (((k:Nat):Int)-1).toNat=k-1 from af,u];rfl)|(simp;omega))))) ?_;refine⟨(),zq,au ⟨zz,zz,zz,zz,zz,zz,?_,zq⟩⟩;show B _=B _;rw[t,Ca u];refine congrArg B ?_;rw[cb];simp;omega
      have q:decide (((k:Nat):Int)>0)=false:=(by rw[decide_eq_false_iff_not];omega);refine kD [(21,false)] [] zz (by(and_intros);(all_goals first|exact zk _|((exact q)))) ?_;refine⟨(),zq,au ⟨zz,zz,zz,zz,zz,zz,?_,zq⟩⟩;show B _=B _;rw[t,show k=0 from af];rfl
     intro _ _;cases hA:A (k+1)with
     |false=>
      rw[show (bs l.length).all (λi=>i==0||decide (l.getD (i-1) 0<l.getD i 0))=A l.length from rfl,v hA,zy zz]at a;refine aC zz zz<|aJ zz<|ab (fJ ?_ ?_)
      rw[a];rfl;rw[a];rfl
     |true=>exact aH zz zz ⟨(),zz,eL⟩
    intro _ hA;have z:(2:Nat)^n.toNat<2^60:=bl af af;have d:(1:Int)*2^n.toNat=((2^n.toNat:Nat):Int):=aF;have g:(0:Int)<=1*2^n.toNat:=(by rw[d];exact cD _);have o:(1:Int)*2^n.toNat<9223372036854775808:=(by rw[d];omega);have w:=r k;refine fE zz (by(and_intros);(all_goals first|exact zk _|((first|exact g|exact o)))) ?_;refine⟨(),hA,au ⟨zz,?_,zz,zz,zz,zq⟩⟩;show I _=I _;rw[Mx c,d,an,an]
   intro _ hA;refine fE zz bL ?_;exact⟨k+1,⟨hc,hA⟩,af,eL⟩
  simp only[nL]at hc;have e:k=l.length:=af;subst e;exact aE ⟨(),hi,eL⟩
 intro _ hA;rw[show (bs l.length).all (λi=>i==0||decide (l.getD (i-1) 0<l.getD i 0))=A l.length from rfl,hA,zj aG]at a;refine aJ zz<|ab (fJ ?_ ?_)
 rw[a];rfl;rw[a];rfl
theorem CS {s k:Nat}(h:s<2^k): ∀d:Nat,dx (s:Nat) (k+d)=dx (s:Nat) k
 |0=>rfl
 |d+1=>by rw[<-Nat.add_assoc,jd,CS h d,Yx,Nat.testBit_lt_two_pow (e0 h (bt af af))];simp
theorem I5 (s n:Nat)(h:s<2^n)(j:n<=60):Ev ad 340 [I s] (.aT 3 1 ((dx s n).map λx=>[I x])):=by
 have g:s<2^60:=e0 h (bt af j);refine ar ahQ.ok<|aJ zz<|aa (aa ?_);refine cZ zz<|cj True (el [(2,.aT 3 1 ((dx s n).map λx=>[I x]))]) [] [] ?_ ?_
 ·refine gf (λk:Nat=>k<=n) (λk=>el [(0,I s),(2,.aT 3 1 ((dx s k).map λx=>[I x])),(3,I k)]) (λk=>n-k) 0 af
   (ai (bO.mM (t:=2) 3 1 zz) eL) ?_
  intro k hk;have a:((s:Nat):Int)/2^((k:Nat):Int).toNat=((s/2^k:Nat):Int):=aF;have i:s/2^k<=s:=Nat.div_le_self _ _;refine aa (aa ?_);refine fE zz bD<|aj zz (λhc=>?_) (λhc=>?_)
  ·simp only[decide_eq_true_eq]at hc;rw[a]at hc;have c:k<n:=(by by_cases e:k=n;subst e;rw[Nat.div_eq_of_lt h]at hc;exact absurd hc aG;omega);refine ak (aa (ay ?_));refine aa<|fE zz (by(and_intros);(all_goals first|exact zk _|((rw[a];omega))))<|aj (b:=da s k) zz (λf=>?_) (λf=>?_)
   have hl:=oW s k;refine kn [.bY] zz ⟨zz,⟨by simp only[bk,chunk,bA,cd];omega,by simp only[bk,chunk,bA,cd];omega⟩,zq⟩<|fE zz bL ?_;refine⟨k+1,c,af,au ⟨zz,?_,zz,zq⟩⟩;rw[jd,f,cR];rfl
   refine ak<|fE zz bL ?_;refine⟨k+1,c,af,au ⟨zz,?_,zz,zq⟩⟩;show AV.aT 3 1 _=AV.aT 3 1 _;rw[jd,f];simp
  simp only[decide_eq_false_iff_not]at hc;rw[a]at hc;have hs:s<2^k:=by
   have h0:s/2^k=0:=(by generalize s/2^k=q at hc;omega);rcases Nat.div_eq_zero_iff.1 h0 with h0|h0
   exact absurd h0 (Nat.ne_of_gt (de k));exact h0
  obtain⟨d,rfl⟩: ∃d,n=k+d:=⟨n-k,af⟩;rw[CS hs];exact aE ⟨(),zq,eL⟩
 refine λ_ _=>aJ zz ?_;exact ab (gv (.inr zz) (.aT zz zz))
theorem aep {a b:Nat}(ha:a<2^60)(k:b<2^60):(((((b1 64 a &&& ~~~ b1 64 b).toNat:Nat):Int))==0)=(a &&& b==a):=by
 have g:(b1 64 a).toNat=a:=bD;have j:(b1 64 b).toNat=b:=bD;rw[cb,beq_iff_eq,beq_iff_eq];have c:((((b1 64 a &&& ~~~ b1 64 b).toNat:Nat):Int)=0)↔(b1 64 a &&& ~~~ b1 64 b)=0#64:=by rw[<-BitVec.toNat_inj];simp only[BitVec.toNat_ofNat,Nat.zero_mod];omega
 have d:(a &&& b=a)↔b1 64 a &&& b1 64 b=b1 64 a:=bD;rw[c,d];generalize b1 64 a=x;generalize b1 64 b=y;constructor;intro h;ext i hi;have:=congrArg (λz=>z.getLsbD i) h;simp at this;simp;have hx:x.getLsbD i=x[i]:=bD;have hy:y.getLsbD i=y[i]:=bD;rw[hx,hy]at this;cases e:x[i]<;>cases f:y[i]<;>simp_all;grind
theorem MC (ok:c.OK)(i words:Nat)(hi:i<c.co.length)(f:words<2^60):Ev ad 391 [OG c,I i,I words] (B (sB c i words)):=by
 obtain⟨x,hx⟩:=bq hi;obtain⟨-,⟨w0,w1⟩,-⟩:=ok.co x (b8 hx);have e:((c.co.map pC.ao).length:Int)=c.co.length:=aF;have g:=(mu (n:=c.wo.toNat) (m:=5) (by have:=ok.wo;omega)).2.2;obtain⟨w,a⟩:=bx w0;have d:sB c i words=(words &&& w==words):=by unfold sB;rw[hx];show (words &&& x.wo.toNat==words)=_;rw[a];rfl
 have ha:=aep f (b:=w) af;refine ar alt.ok<|aJ zz<|bE [.cells x.ao] zz bD<|ab (aD ?_);rw[d,<-ha,show x.wo.toNat=w from af];rfl
def Dx (c:mh)(p words n:Nat):Nat:=(bs n).foldl (λs i=>if ((kt c p).testBit i&&sB c i words)=true then s ||| 2^i else s) 0
theorem C1 (c:mh)(p words n:Nat):Dx c p words (n+1)=if ((kt c p).testBit n&&sB c n words)=true then Dx c p words n ||| 2^n else Dx c p words n:=by unfold Dx;rw[b6,cA];rfl
theorem CG (c:mh)(p words:Nat): ∀n:Nat,Dx c p words n<2^n
 |0=>by show 0<1;decide
 |n+1=>by have b:=CG c p words n;have a:(2:Nat)^n<=2^(n+1):=bt af af;rw[C1];split;exact cB af (bl af af);omega
theorem Ko (ok:c.OK)(p words:Nat)(t:p<c.pe.length)(w:words<2^60):Ev ad 341 [OG c,I p,I words] (I (qM c p words:Nat)):=by
 have p3:=ok.p3;have c6:=ok.c6;have m:((c.co.map pC.ao).length:Int)=c.co.length:=aF;have v:kP c c.co.length p=kt c p:=by unfold kP;rw[zy t];rfl
 have q:kt c p<2^6:=yk c p c.co.length c6;have b:=Jm c (.mi []) (kP c c.co.length) (k:=p) af;rw[v]at b;refine ar ajZ.ok<|aJ zz<|aJ zz<|aa (aa ?_);refine cZ zz<|cj True (el [(6,I (qM c p words:Nat))]) [] [] ?_ ?_
 ·refine gf (λk:Nat=>k<=c.co.length) (λk=>el [(0,OG c),(1,I p),(2,I words),(6,I (Dx c p words k:Nat)),(7,.fn (.func 391) [OG c] []),(16,I c.co.length),(17,I k)]) (λk=>c.co.length-k) 0 af
   (au ⟨zz,zz,zz,zz,zz,by show I _=I _;rw[m],zz,zq⟩) ?_
  refine λk hk=>aJ zz<|aa (aj zz (λhc=>?_) (λhc=>?_))
  ·simp at hc;have j:=MC ok k words hc w;have d:=C1 c p words k;have s:=CG c p words k;have a:=Yx (kt c p) k;have n:(0:Int)<=(kt c p:Nat)/2^((k:Nat):Int).toNat:=ey af (e5 (ff af));have o:((kt c p:Nat):Int)/2^((k:Nat):Int).toNat<=(kt c p:Nat):=eu _ af;generalize sB c k words=r at j d;generalize kt c p=l at d a n o q b;refine ak (aa (ay ?_));refine aJ zz<|eZ True (el [(0,OG c),(1,I p),(2,I words),(6,I (Dx c p words k:Nat)),(7,.fn (.func 391) [OG c] []),(8,I k),(16,I c.co.length),(17,I k),(35,B (l.testBit k&&r))]) [] [] ?_ ?_
   ·unfold da at a;cases g:l.testBit k with
    |false=>rw[g]at a;refine kD [(30,false)] [.pre [I l]] zz (by(and_intros);(all_goals first|exact zk _|((first|exact a|exact b)))) ?_;exact⟨(),zq,eL⟩
    |true=>rw[g]at a;refine kD [(30,true)] [.pre [I l],.ret (B r)] zz (by(repeat' (with_reducible apply az));(all_goals first|exact zk _|((first|exact a|exact b|exact j)))) ?_;exact⟨(),zq,eL⟩
   intro _ _;cases g:(l.testBit k&&r)with
   |false=>rw[g,zj aG]at d;refine aH zz zz<|fE zz bL ?_;exact⟨k+1,hc,af,au ⟨zz,zz,zz,by rw[d];rfl,zz,zz,zz,zq⟩⟩
   |true=>rw[g,zy zz]at d;have u:(2:Nat)^k<2^60:=bl af af;have f:(1:Int)*2^((k:Nat):Int).toNat=((2^k:Nat):Int):=aF;have h:(0:Int)<=1*2^((k:Nat):Int).toNat:=(by rw[f];exact cD _);have i:(1:Int)*2^((k:Nat):Int).toNat<9223372036854775808:=(by rw[f];omega);refine aC zz zz<|fE zz (by(and_intros);(all_goals first|exact zk _|((first|exact h|exact i))))<|fE zz ⟨af,zq⟩ ?_;refine⟨k+1,hc,af,au ⟨zz,zz,zz,?_,zz,zz,zz,zq⟩⟩;show I _=I _;rw[d,f,an,an]
  simp at hc;have e:k=c.co.length:=af;subst e;exact aE ⟨(),zq,eL⟩
 refine λ_ _=>aJ zz<|ab (aD ?_);rfl
theorem Wa {l:List Int}{below:Int}(h:(oc l below).2=0)(d:below<=60): ∃s:Nat,(oc l below).1=(s:Nat)/\s<2^60:=by
 unfold oc at h ⊢;by_cases a:ae 0 (below-1) l=true;grind;rw[zj a]at h ⊢;by_cases b:(bs l.length).all (λi=>i==0||decide (l.getD (i-1) 0<l.getD i 0))=false;grind;rw[zj b];refine⟨_,zz,?_⟩;have:=J4 (m:=60) (λn c=>by
  rw[e9]at a
  unfold ae at a
  rw[er]at a
  have:=a n c
  simp at this
  omega) l.length
 unfold tz at this;rwa [ew]at this
theorem Wm (o:c.wf)(p:Int)(words:List Int):Ev ad 250 [.agg c.ao,I p,ints words] (.cG [ints (qq c p words).1,I (qq c p words).2]):=by
 have v:=o.pn;have n:((c.pe.map λs=>[bh s]).length:Int)=c.pe.length:=aF;have u:=AJ o [(p,c.pe.length)] aF bD;have a:qq c p words=if ib c [(p,c.pe.length)]≠0 then([],ib c [(p,c.pe.length)])
  else if (oc words c.wo).2≠0 then([],(oc words c.wo).2)
  else(dx (qM c p.toNat (oc words c.wo).1.toNat:Nat) c.co.length,0):=rfl
 refine ar akd.ok<|bE [.bY] zz aK<|aa (aA ?_);refine mO [.bY] 6 zz zz cI<|ah (cC u zz zz (gN (by rw[<-n];rfl)) zz ?_);rintro r Ho w;rcases w with⟨f,rfl⟩|⟨f,rfl⟩
 case inr=>
  rw[zy f]at a;refine aR (dW (a7 _))<|gk zz<|aa (aa ?_);refine cZ zz<|aC zz bD<|aJ zz<|ag (bO.ky (t:=6) 1 zz)<|ab (fJ ?_ ?_)
  rw[a];rfl;rw[a];rfl
 rw[zj (by rw[f];decide)]at a;obtain⟨ok,i⟩:=zU o f;have e:=qU (i (p,(c.pe.length:Int)) aF);simp only at e;obtain⟨pn,rfl⟩:=bx e.1;have x:=ok.wo;have b:=YF words c.wo af;have d:=λh=>Wa (l:=words) (below:=c.wo) h af;generalize (oc words c.wo).1=q at b a d;generalize (oc words c.wo).2=b2 at b a d;refine aR (dW (a7 _))<|gk zz<|aa (aa ?_);refine cZ zz<|aH zz zz<|bE [.ret (.cG [I q,I b2])] zz ⟨b,zq⟩<|aa (aa ?_);apply cZ zz;by_cases g:b2=0
 case neg=>
  rw[zy g]at a;refine aC zz bD<|aJ zz<|ag (bO.ky (t:=6) 1 zz)<|ab (fJ ?_ ?_)
  rw[a];rfl;rw[a];rfl
 rw[zj (by simp [g])]at a;obtain⟨s,rfl,hs⟩:=d g;rw[an,an]at a;have j:=Ko ok pn s af hs;have k:=CG c pn s c.co.length;have m:=eB (I5 (qM c pn s) c.co.length k (by have:=ok.c6;omega));refine aH zz (by rw[g];rfl)<|bE [.ret (I (qM c pn s:Nat)),.ret (ints (dx (qM c pn s:Nat) c.co.length))] zz ⟨j,m,zq⟩<|ab (fJ ?_ ?_)
 rw[a];rfl;rw[a];rfl
def rS (c:mh)(n:Nat):List pC×List Int:=(bs n).foldl qt (c.co,[])
theorem Dz (c:mh)(n:Nat):rS c (n+1)=qt (rS c n) n:=by unfold rS;rw[b6,cA];rfl
theorem Gg (c:mh): ∀n:Nat,(rS c n).2.length<=n/\(rS c n).1.length<=c.co.length
 |0=>⟨b0 _,b0 _⟩
 |n+1=>by have a:=Gg c n;rw[Dz];unfold qt;split;rename_i y r e;rw[e,bA]at a;split;exact⟨by simp only;omega,by simp only;omega⟩;exact⟨by simp only[ek,bA,cd];omega,by rw[e,bA];omega⟩;exact⟨by simp only[ek,bA,cd];omega,aF⟩
theorem U3 (o:c.wf):Ev ad 271 [.agg c.ao] (.cG [ints (tB c).1,I (tB c).2]):=by
 have g:((c.co.map pC.ao).length:Int)=c.co.length:=aF;have q:=AJ o [] aF aF;have d:tB c=if ib c []≠0 then([],ib c [])else((rS c c.la.toNat).2,0):=rfl
 refine ar aiN.ok<|bE [.bY] zz aK<|aa (aa (aA ?_));refine lY 1 zz zz<|ah (cC q zz zz (.cons (.ky (.refl _))) zz ?_);rintro r Ho v;rcases v with⟨n,rfl⟩|⟨n,rfl⟩
 case inr=>
  rw[zy n]at d;refine aR (dW (a7 _))<|gk zz<|aa<|cZ zz<|aC zz bD<|aJ zz<|ag (bO.ky (t:=2) 1 zz)<|ab (fJ ?_ ?_)
  rw[d];rfl;rw[d];rfl
 rw[zj (by rw[n];decide)]at d;obtain⟨ok,-⟩:=zU o n;have c6:=ok.c6;obtain⟨l0,w⟩:=ok.la;obtain⟨la,m⟩:=bx l0;rw[m,an]at d;refine aR (dW (a7 _))<|gk zz<|aa<|cZ zz<|aH zz zz<|aa (aA ?_);refine lY 3 zz zz<|ah (aO.ji c.co.length zz zz g g af af zz (λb=>?_));refine gk zz<|aa (aA ?_);refine lY 3 zz zz<|ah (aO.aaC (i:=0) zz zz zz aF ?_);refine gk zz<|ag (ai (aw (H':=[(b,.arr 100 4 c.co.length (c.co.map pC.ao))]) aF) (au (l:=[(1,.pi c.ao),(2,.nil),(4,.so b c.co.length c.co.length)]) ⟨zz,zz,by show AV.so _ _ _=_;simp,zq⟩))<|ag (bO.vv (t:=4) (i:=0) (es:=c.co.map pC.ao) (b:=b) (cap:=c.co.length) (kk:=4) (T:=100) (by show AV.so _ _ _=_;simp) zz)<|ag (ai (aw (H':=[]) zz) (au (l:=[(1,.pi c.ao),(2,.nil),(4,lQ c.co)]) ⟨zz,zz,zz,zq⟩))<|aa (aa ?_);refine cZ zz<|cj True (el [(2,.aT 3 1 ((rS c la).2.map λx=>[I x]))]) [] [] ?_ ?_
 ·refine gf (λk:Nat=>k<=la) (λk=>el [(2,.aT 3 1 ((rS c k).2.map λx=>[I x])),(4,lQ (rS c k).1),(23,I la),(24,I k)]) (λk=>la-k) 0 af
   (ai (bO.mM (t:=2) 3 1 zz) (au ⟨zz,zz,by show I _=I _;rw[m],zz,zq⟩)) ?_
  intro k hk;refine aJ zz<|aa (aj zz (λhc=>?_) (λhc=>?_))
  ·simp only[nL]at hc;have f:=Dz c k;obtain⟨j,h⟩:=Gg c k;refine ak<|dw True (el [(2,.aT 3 1 ((rS c (k+1)).2.map λx=>[I x])),(4,lQ (rS c (k+1)).1),(23,I la),(24,I k)]) [] [] ?_ ?_
   ·generalize rS c k=st at f h j;generalize rS c (k+1)=z at f;subst f;obtain⟨left,out⟩:=st;simp only at h j;have u:((left.map pC.ao).length:Int)=left.length:=aF;let bb:Bool:=match left with|[]=>false|y::_=>y.nu==(k:Int)+1
    refine aJ zz<|eZ (bb=false) (el [(2,.aT 3 1 (out.map λx=>[I x])),(4,lQ left),(5,I k),(23,I la),(24,I k)]) [] [] ?_ ?_
    ·refine eZ True (el [(2,.aT 3 1 (out.map λx=>[I x])),(4,lQ left),(5,I k),(23,I la),(24,I k),(38,B bb)]) [] [] ?_ ?_
     ·cases left with
      |nil=>refine kD [(30,false)] [] zz (by(and_intros);(all_goals first|exact zk _|((rfl)))) ?_;exact⟨(),zq,eL⟩
      |cons y r=>have p:decide ((((y::r).map pC.ao).length:Int)>0)=true:=aF;refine kD [(30,true)] [.cells y.ao] zz (by(and_intros);(all_goals first|exact zk _|((first|exact p|rfl|(simp;done)|(simp;omega))))) ?_;exact⟨(),zq,eL⟩
     intro _ _;cases a:bb with
     |false=>exact aH zz zz ⟨(),zz,eL⟩
     |true=>
      cases left with
      |nil=>exact absurd (show false=true from a) aG
      |cons y r=>
       have a:(y.nu==(k:Int)+1)=true:=a;rw[beq_iff_eq]at a;refine aC zz zz<|Ik zz (by(and_intros);(all_goals first|exact zk _|((first|(simp;done)|(simp;omega)))))<|aE ⟨(),zq,au ⟨?_,?_,zz,zz,zq⟩⟩
       show AV.aT 3 1 _=AV.aT 3 1 _;unfold qt;simp only;rw[zy a];show AV.sl 4 _=AV.sl 4 _;unfold qt;simp only;rw[zy a];rfl
    intro _ a;have s:qt (left,out) k=(left,out++[(k:Int)+1]):=by
     unfold qt;cases left with
     |nil=>rfl
     |cons y r=>have a:(y.nu==(k:Int)+1)=false:=a;rw[beq_eq_false_iff_ne]at a;simp only;rw[zj a]
    rw[s];refine kn [.bY] zz ⟨fR,zz,⟨by simp only[bk,chunk,bA,cd];omega,by simp only[bk,chunk,bA,cd];omega⟩,zq⟩ ?_;refine⟨(),zq,au ⟨?_,zz,zz,zz,zq⟩⟩;show AV.aT 3 1 _=AV.aT 3 1 _;rw[cR];rfl
   intro _ _;refine fE zz bL ?_;exact⟨k+1,hc,af,eL⟩
  simp only[nL]at hc;have e:k=la:=af;subst e;exact aE ⟨(),zq,eL⟩
 intro _ _;refine aJ zz<|ag (bO.gp (t:=2) zz)<|ab (fJ ?_ ?_)
 rw[d];rfl;rw[d];rfl
def gA (n left i set:Nat):List Nat:=uk n (n-i) i left set
theorem Ni (n i set:Nat):gA n 0 i set=[set]:=by unfold gA;cases n-i<;>rfl
theorem Lm {n i set:Nat}(h:i+(k+1)<=n):gA n (k+1) i set=gA n k (i+1) (set ||| 2^i)++gA n (k+1) (i+1) set:=by unfold gA;rw[show n-i=(n-(i+1))+1 by omega,uk,zy h]
theorem NH {n i set:Nat}(h: ¬i+(k+1)<=n):gA n (k+1) i set=[]:=by
 unfold gA;cases n-i with
 |zero=>rfl
 |succ d=>rw[uk,zj h]
theorem CD {n:Nat}: ∀(d i left set:Nat),set<2^n-> ∀s∈uk n d i left set,s<2^n
 |0,i,0,set,h,s,hs=>by rw[uk]at hs;simp only[en]at hs;subst hs;exact h
 |d+1,i,0,set,h,s,hs=>by rw[uk]at hs;simp only[en]at hs;subst hs;exact h
 |0,i,left+1,set,h,s,hs=>by rw[uk]at hs;cases hs
 |d+1,i,left+1,set,h,s,hs=>by
  rw[uk]at hs;split at hs;rcases fu.1 hs with hs|hs;exact CD d (i+1) left _ (cB h (bl af af)) s hs;exact CD d (i+1) (left+1) set h s hs
  cases hs
abbrev HF (n:Nat):List Int:=(bs n).map λ(i:Nat)=>(i:Int)
theorem Yq {n i:Nat}(h:i<n):(HF n)[i]? =some (i:Int):=by unfold HF;rw[bI,List.getElem?_range h];rfl
theorem Oi (n:Nat):(((HF n).map λx=>[I x]).length:Int)=n:=aF
section
variable (l bn n:Nat)
def abb:AV:=.fn (.func 422) [] [.pi [Yv l],.pi [ints (HF n)],.po bn 0]
abbrev cnB:Nat×dp:=(bn,.cells 94 [abb l bn n])
end
def abY (l:Nat){X:Type}(f:X->Nat->J×X)(W:J->X->av)(x0:X)(L:List Nat):Prop:=
 ∀(a:List Nat) (s:Nat) (b:List Nat),L=a++s::b->(aZ f a x0).1= .go->Gl ad l [I (s:Nat)] (W .go (aZ f a x0).2)
  (λres Ho=>res=B (f (aZ f a x0).2 s).1.on/\Ho=W (f (aZ f a x0).2 s).1 (f (aZ f a x0).2 s).2)
section
variable (l bn:Nat) {n:Nat} (h5:n<=5) {X:Type} (f:X->Nat->J×X) (W:J->X->av) (x0:X)
abbrev cnE (l bn n b left set:Nat)(a:List (Nat×AV):=[]):List (Nat×AV):=(1,I left)::(2,I set)::(3,.pi [Yv l])::(4,.pi [ints (HF n)])::(5,.po bn 0)::a
include h5
theorem P4 {L:List Nat}(hy:abY l f W x0 L): ∀(left i set:Nat) (a p:List Nat),set<2^n->i<=n->left<=n->L=a++gA n left i set++p->(aZ f a x0).1= .go->
  iM ad 422 [I i,I left,I set,.pi [Yv l],.pi [ints (HF n)],.po bn 0] (cnB l bn n::W .go (aZ f a x0).2)
   (λr Ho=>r=B (aZ f (a++gA n left i set) x0).1.on/\Ho=cnB l bn n::W (aZ f (a++gA n left i set) x0).1 (aZ f (a++gA n left i set) x0).2):=by
 have F:(2:Nat)^n<=32:=bt af h5;have h:=Oi n;intro left;induction left with
 |zero=>
  intro i set a p hs hi _ u g;rw[Ni]at u ⊢;have A:=hy a set p (by rw[u];simp) g;have eD:aZ f (a++[set]) x0=f (aZ f a x0).2 set:=by rw[uB g];exact C7
  rw[eD];refine bH ahu.ok<|aJ zz<|aa (aa ?_)
  refine cZ zz<|aC zz zz<|aa (aA ?_)
  refine lY 2 zz zz<|aR (cM (eM (l₁:=[_])))<|ah (cq zz (show Sr ad (.yield l) [] _ _ _ from⟨zz,A⟩) zz zz (aW _) zz ?_)
  rintro J D ⟨rfl,rfl⟩;refine aR (cM eM)<|gk zz ?_;exact ab ⟨.inr zz,_,_,_,zz,.one (.tmp zz zz),gJ,ap _⟩
 |succ left H=>
  refine λi set a p hs hi G u g=>bH ahu.ok<|aJ zz<|aa (aa ?_)
  refine cZ zz<|aH zz bD<|aa (aa ?_)
  refine cZ zz<|aU.iN (Y:=Unit) (λ_=>(aZ f (a++gA n (left+1) i set) x0).1= .go) (λ_=>el []) (λ_=>cnB l bn n::W .go (aZ f (a++gA n (left+1) i set) x0).2) (λ_=>[]) ?_ ?_
  ·refine bJ (λy=>i<=y.1/\y.1<=n/\y.2++gA n (left+1) y.1 set=gA n (left+1) i set/\(aZ f (a++y.2) x0).1= .go) (λy=>el (cnE l bn n i (left+1) set [(10,I y.1)])) (λy=>cnB l bn n::W .go (aZ f (a++y.2) x0).2) (λ_=>[]) (λy=>n-y.1) (i,[]) ⟨b0 _,hi,zz,by rw[cc];exact g⟩
    (ai (aw (by simp only;rw[cc])) eL) ?_
   rintro⟨k,done⟩ ⟨w,x,hd,hg⟩;simp only at w x hd hg ⊢;refine aa (aa ?_);refine fE zz (by(and_intros);(all_goals first|exact zk _|((rw[h];omega))))<|aj zz (λhc=>?_) (λhc=>?_)
   ·simp only[decide_eq_true_eq]at hc;rw[h]at hc;have hk:k+(left+1)<=n:=af;rw[Lm hk]at hd;have z:(2:Nat)^k<2^n:=bl af af;have o:(1:Int)*2^((k:Nat):Int).toNat=((2^k:Nat):Int):=aF;have s:(0:Int)<=1*2^((k:Nat):Int).toNat:=(by rw[o];exact cD _);have t:(1:Int)*2^((k:Nat):Int).toNat<9223372036854775808:=(by rw[o];omega);have b:=H (k+1) (set ||| 2^k) (a++done) (gA n (left+1) (k+1) set++p) (cB hs z) af af (by rw[u,<-hd];simp) hg;have E:((((set:Nat):Int).toNat ||| ((1:Int)*2^((k:Nat):Int).toNat).toNat:Nat):Int)=((set ||| 2^k:Nat):Int):=(by rw[o,an,an]);rw[<-E,show ((k+1:Nat):Int)=(k:Int)+1 from af,show (left:Int)=((left+1:Nat):Int)-1 from af]at b;have d:(aZ f (a++done++gA n left (k+1) (set ||| 2^k)) x0).1≠.go->aZ f (a++gA n (left+1) i set) x0=aZ f (a++done++gA n left (k+1) (set ||| 2^k)) x0:=(by intro m;rw[<-hd,show a++(done++(gA n left (k+1) (set ||| 2^k)++gA n (left+1) (k+1) set))=(a++done++gA n left (k+1) (set ||| 2^k))++gA n (left+1) (k+1) set by simp ,pg m]);have q:(done++gA n left (k+1) (set ||| 2^k))++gA n (left+1) (k+1) set=gA n (left+1) i set:=(by rw[e7];exact hd);have hA:a++done++gA n left (k+1) (set ||| 2^k)=a++(done++gA n left (k+1) (set ||| 2^k)):=e7 _ _ _;rw[hA]at b d;generalize done++gA n left (k+1) (set ||| 2^k)=c at b d q;refine ak (aa (ay ?_));refine aa<|zg [] [.at 0,.cells [I k]] zz (by(and_intros);(all_goals first|exact zk _|((first|exact s|exact t|(rw[an,bI,Yq af];rfl)|(rw[h];omega)))))<|ah (cq (H0:=[]) zz (show iM ad 422 _ _ _ from b) zz zz (aW _) aF ?_)
    rintro res C ⟨rfl,rfl⟩;refine gk zz ?_;cases v:(aZ f (a++c) x0).1.on with
    |false=>
     have m:(aZ f (a++c) x0).1≠.go:=λe=>(by rw[e]at v;cases v);refine aC zz zz<|ag (aw (cc _))<|aJ zz ?_
     rw[d m];refine ab ⟨.inr zz,_,_,_,zz,.one (.tmp ?_ zz),gJ,ap _⟩;show B false=B _;rw[v]
    |true=>
     have j:=QB.1 v;refine aH zz zz<|fE zz (by(and_intros);(all_goals first|exact zk _|((omega)))) ?_
     exact⟨(k+1,c),⟨by simp only;omega,by simp only;omega,q,j⟩,by simp only;omega,ai (aw (by simp only;rw[j,cc])) eL⟩
   simp only[decide_eq_false_iff_not]at hc;rw[h]at hc;rw[NH af,cc]at hd;subst hd;exact aE ⟨(),hg,au zq⟩
  intro _ hg;refine aJ zz ?_;exact ab ⟨.inr zz,_,_,_,zz,.one (.tmp zz zz),⟨by rw[hg];rfl,by rw[hg]⟩,ap _⟩
end
def DV (n:Nat):List Nat:=(bs (n+1)).flatMap λmany=>gA n many 0 0
theorem Xt {n s:Nat}(h:s∈DV n):s<2^n:=by obtain⟨k,_,hk⟩:=List.mem_flatMap.1 h;exact CD _ _ _ _ (de n) s hk
theorem Wr (n:Nat):Ev ad 393 [ints (HF n)] (.fn (.func 421) [] [.pi [ints (HF n)]]):=by refine ar ajv.ok<|bE [.bY] zz aK<|aJ zz<|ab (aD ?_);rfl
theorem QF {l n:Nat}(s:n<=5){X:Type}(f:X->Nat->J×X)(W:J->X->av)(a:X)(hy:abY l f W a (DV n)):
  iM ad 421 [Yv l,.pi [ints (HF n)]] (W .go a) (λ_ Ho=>Ho=W (aZ f (DV n) a).1 (aZ f (DV n) a).2):=by
 have o:=Oi n;refine bH ahP.ok<|bE [.bY] zz aK<|bE [.aT] zz cI<|bW (t:=3) zz λbn=>nw [.iL 0] zz ⟨⟨zz,zz,zz,zz,b0 1⟩,zq⟩<|ag (ai (aw zz) (au (l:=[(1,.pi [ints (HF n)]),(3,.po bn 0)]) jA))<|aa<|fE zz bD<|ay ?_
 let ch:Nat->List Nat:=λmany=>gA n many 0 0;let d:Nat->List Nat:=λk=>(bs k).flatMap ch;refine bJ (λk=>k<=n+1/\(aZ f (d k) a).1= .go) (λk=>el [(1,.pi [ints (HF n)]),(3,.po bn 0),(8,I (n+1)),(9,I k)]) (λk=>cnB l bn n::W .go (aZ f (d k) a).2) (λ_=>[]) (λk=>n+1-k) 0 ⟨dk _,zz⟩
  (au ⟨zz,zz,by show I _=I _;rw[o],zz,zq⟩) ?_
 rintro k ⟨hk,hg⟩;refine aJ zz<|aa (aj zz (λhc=>?_) (λhc=>?_));simp at hc;have i:k<n+1:=af;have c:d (k+1)=d k++gA n k 0 0:=nB ch k;obtain⟨r,q⟩:=lU ch i;have b:=P4 l bn s f W a hy k 0 0 (d k) r (de n) (dk _) af (by rw[<-c];exact q) hg;rw[<-c]at b;refine ak (aa (ay ?_));refine aJ zz<|aa (aA ?_)
 refine mO [.at 0] 2 zz zz cI<|ah (cq (H0:=[]) zz (show iM ad 422 _ _ _ from b) zz zz (aW _) aF ?_)
 rintro res p ⟨rfl,rfl⟩;apply gk zz;cases j:(aZ f (d (k+1)) a).1.on with
 |false=>
  have m:(aZ f (d (k+1)) a).1≠.go:=λe=>(by rw[e]at j;cases j);have h:aZ f (DV n) a=aZ f (d (k+1)) a:=(by show aZ f ((bs (n+1)).flatMap ch) a=_;rw[q,pg m]);refine aC zz zz<|ab ⟨.inr zz,_,.cG [],_,zz,.many aG zq,zz,?_⟩
  rw[h,cc];exact ec _ _
 |true=>
  have g:=QB.1 j;refine aH zz zz<|fE zz bL ?_
  exact⟨k+1,⟨i,g⟩,af,ai (aw (by rw[g,cc])) eL⟩
 simp only[decide_eq_false_iff_not]at hc;have e:k=n+1:=af;subst e;refine aE ?_;refine⟨.inl zz,_,.cG [],_,zz,.many aG zq,zz,?_⟩;show hf (W (aZ f (d (n+1)) a).1 (aZ f (d (n+1)) a).2) _;rw[hg];exact ec _ _
def wK (n:Nat)(so:Nat->Bool)(x:List Int×Bool)(s:Nat):J×(List Int×Bool):=if so s=true then(.ret,(dx (s:Nat) n,true))else(.go,x)
theorem Fx (n:Nat)(so:Nat->Bool): ∀L:List Nat,aZ (wK n so) L ([],false)=match L.find? so with|some s=>(.ret,(dx (s:Nat) n,true))|none=>(.go,([],false))
 |[]=>rfl
 |s::L=>by
  cases h:so s with
  |true=>simp only[aZ,wK,h,List.find?_cons_of_pos];rfl
  |false=>rw[List.find?_cons_of_neg (by simp [h]),<-Fx n so L];simp only[aZ,wK,h,Bool.false_eq_true,if_false]
abbrev fH (a b5:Nat)(x:List Int×Bool):av:=[(a,.cells 71 [ints x.1]),(b5,.cells 4 [B x.2])]
theorem P5 {n:Nat}(u:n<=5)(so:Nat->Bool)(g:Nat)(a:List AV)(F:a.all (λp=> !p.bT)=true)(h: ∀s,s<2^n->Ev ad g (I (s:Nat)::a) (B (so s))):
  Ev ad 344 [ints (HF n),.agg [.fn (.func g) [] a]] (.cG (match (DV n).find? so with|some s=>[ints (dx (s:Nat) n),B true]|none=>[ints [],B false])):=by
 have z:(2:Nat)^n<=32:=bt af u;refine ar ail.ok<|bE [.bY,.aT,.aT] zz ⟨⟨zz,zz⟩,zz,zz,zq⟩<|bW (t:=4) zz λc=>bW (t:=5) zz λb5=>aa (aa ?_)
 refine kn [.ret (.fn (.func 421) [] [.pi [ints (HF n)]])] zz ⟨Wr n,zq⟩<|ay<|ag (ai (aw zz) (cM (ea _ _ _)))<|ag (bO.oM (j:=0) [] [] (ints []) zz (λS v h=>by simp only[bf]at h ⊢;exact .inl ⟨⟨_,h⟩,zz⟩))<|ag (aw zz)<|aU.Cu (HS:=fH c b5) (H0:=[]) ([],false) (λj y=>(j,y)=aZ (wK n so) (DV n) ([],false))
  (λy args=> ∃s,s<2^n/\args=[I (s:Nat)])
  (λy args j w=> ∀s:Nat,args=[I (s:Nat)]->(j,w)=wK n so y s)
  (el [(3,.pi [.fn (.func g) [] a]),(4,.po c 0),(5,.po b5 0)]) zz aF (td ⟨zz,zz,zz,zq⟩ zz) aG ?_ ?_ ?_
 rintro l ⟨li,fo⟩ args ⟨s,hs,rfl⟩;refine⟨zz,?_⟩;have m:=h s hs;refine cZ zz ?_;refine⟨zz,?_⟩;refine iF [(3,.pi [.fn (.func g) [] a]),(4,.po c 0),(5,.po b5 0),(6,I (s:Nat))]<|ay<|aa<|kn [.ret (B (so s))] zz ⟨m,zq⟩ ?_;cases e:so s with
 |false=>refine aH zz zz ⟨.go,(li,fo),zz,λs' d=>?_,ap _⟩;simp only[fr,AV.v.injEq,fy,true_and,and_true,fk]at d;subst d;unfold wK;rw[e];rfl
 |true=>
  refine aC zz zz<|aa (aA ?_)
  have k:=eB (I5 s n hs af);refine mO [.ret (ints (dx (s:Nat) n))] 2 zz zz ⟨k,zq⟩<|ah (bz (i:=0) zz zz zz zz zz zz (by show 1<=1;decide) ?_)
  refine ah (bz (i:=1) zz zz zz zz zz zz (by show 1<=1;decide) ?_);refine bF (ab ⟨.ret,(dx (s:Nat) n,true),zz,λs' d=>?_,ap _⟩);simp only[fr,AV.v.injEq,fy,true_and,and_true,fk]at d;subst d;unfold wK;rw[e];rfl
 intro l lo A;have D:abY l (wK n so) (λj y=>(l,lo j)::fH c b5 y) ([],false) (DV n):=by intro x s H C G;refine Gl.perm (A (aZ (wK n so) x ([],false)).2 _ ⟨s,Xt (by rw[C];simp),zz⟩) (ga _) ?_;rintro r Ho ⟨j,w,E,rfl,rfl⟩;have q:=E s zz;refine⟨_,ga _,by rw[<-q],by rw[<-q]⟩
 refine(QF u (wK n so) _ ([],false) D).mono ?_;rintro r Ho rfl;exact⟨_,_,zz,zz⟩
 rintro j y o b;rw[Fx]at b;cases f:(DV n).find? so with
 |some s=>
  rw[f]at b;simp only[gX]at b;obtain⟨rfl,rfl⟩:=b;exact⟨.inr zz,_,⟨0,zz,zz⟩,.many aG (show fp (jU ad _ _) [.cell 4 71,.cell 5 4] [ints (dx (s:Nat) n),B true]from
   ⟨.dY (n:=none) (i:=0) (cs:=[ints (dx (s:Nat) n)]) zz zz aX zz,.dY (n:=none) (i:=1) (cs:=[B true]) zz zz aX zz,zq⟩)⟩
 |none=>
  rw[f]at b;simp only[gX]at b;obtain⟨rfl,rfl⟩:=b;show aU _ _ _ _ _ _ _ _;refine ag (aw (H':=[(o,.ri),(c,.cells 71 [ints []]),(b5,.cells 4 [B false])]) aF)<|nw [.iL 1,.iL 2] zz ⟨⟨zz,zz,zz,zz,b0 1⟩,⟨zz,zz,zz,zz,b0 1⟩,zq⟩<|ag (ai (aw (H':=[(o,.ri),(c,.cells 71 [.nil]),(b5,.cells 4 [B false])]) zz) (bO.oM (j:=1) (p:=.nil) [] [] (ints []) zz (iP 1)))<|ag (aw (H':=[(o,.ri),(c,.cells 71 [ints []]),(b5,.cells 4 [B false])]) zz) ?_
  exact ab ⟨.inr zz,_,⟨0,zz,zz⟩,.many aG (show fp (jU ad _ _) [.cell 4 71,.cell 5 4] [ints [],B false]from
   ⟨.dY (n:=none) (i:=0) (cs:=[ints []]) zz zz aX zz,.dY (n:=none) (i:=1) (cs:=[B false]) zz zz aX zz,zq⟩)⟩
theorem YO (n:Nat)(a:n<=60):Ev ad 345 [I n] (.aT 3 1 ((HF n).map λx=>[I x])):=by
 refine ar aid.ok<|aJ zz<|aa (aa ?_);refine cZ zz<|cj True (el [(2,.aT 3 1 ((HF n).map λx=>[I x]))]) [] [] ?_ ?_
 refine gf (λk:Nat=>k<=n) (λk=>el [(2,.aT 3 1 ((HF k).map λx=>[I x])),(4,I n),(5,I k)]) (λk=>n-k) 0 af
  (ai (bO.mM (t:=2) 3 1 zz) eL) ?_
 refine λk hk=>aJ zz<|aa (aj zz (λhc=>?_) (λhc=>?_))
 simp at hc;refine ak (aa (ay ?_));refine aJ zz<|kn [.bY] zz ⟨zz,⟨by simp only[bk,et,chunk,bA,cd];omega,by simp only[bk,et,chunk,bA,cd];omega⟩,zq⟩<|fE zz bL ?_;refine⟨k+1,hc,af,au ⟨?_,zz,zz,zq⟩⟩;unfold HF;rw[b6,cR,cR];rfl
 simp at hc;have:k=n:=af;subst this;exact aE ⟨(),zq,eL⟩
 refine λ_ _=>aJ zz ?_;exact ab (gv (.inr zz) (.aT zz zz))
abbrev acR (a b c d:Int):Value:=.agg #[.int .i64 a,.int .i64 b,.int .i64 c,.int .i64 d]
theorem VP {a b c d:Int}(g:(hn .i64 a).wf=true)(h:(hn .i64 b).wf=true)(i:(hn .i64 c).wf=true)(h4:(hn .i64 d).wf=true):bS ad 5 100 (acR a b c d):=by have e:ad.cellsOf 100=4:=aX;have f:ad.cellsOf 3=1:=aX;refine⟨?_,[.int .i64 a,.int .i64 b,.int .i64 c,.int .i64 d],?_⟩;simp [hq,e3,e];simp [ht,fx,e3,Tryz.underlying3,e,f,g,h,i,h4]
theorem YI (ok:c.OK){x:pC}(hx:x∈c.co)(nu:Int)(f: -9223372036854775808<=nu)(g:nu<=9223372036854775807):Ev ad 343 [.agg x.ao,.pi [I nu]] (B (x.nu==nu)):=by
 obtain⟨⟨n0,n1⟩,⟨w0,w1⟩,⟨f0,f1⟩,l,o⟩:=ok.co x hx;have i:=ok.la;have p:=(mu (n:=c.wo.toNat) (m:=5) (by have:=ok.wo;omega)).2.2;have q:=(mu (n:=c.fa.toNat) (m:=6) (by have:=ok.fa;omega)).2.2;have s:=(mu ok.p3).2.2;have j:=sZ (n:=x.nu) af af;have b:=sZ (n:=x.wo) af af;have d:=sZ (n:=x.fa) af af;have e:=sZ (n:=x.ma) af af;have k:=sZ f g;have a: ∀{env:Env} {H:av},bG env (tm 4)= .agg x.ao->bG env (tm 12)= .agg [I nu,I x.wo,I x.fa,I x.ma]-> ∀(r:Option Nat) (N:Nat) (D:List Nat),Q1 ad r N (.pK false 100 (tm 4) (tm 12)) (some 13) env H D [(13,B (x.nu==nu))]:=by intro env H ha h r N D;exact aO.pK (m:=5) (DD:=5) aG aX aX aX aX (u:=acR x.nu x.wo x.fa x.ma) (v:=acR nu x.wo x.fa x.ma) (by rw[ha];rfl) (by rw[h];rfl) (VP j b d e) (VP k b d e) (x.nu==nu) bD ⟨zz,zz,zz⟩
 refine ar akK.ok<|bE [.bY] zz aK<|bE [.op (B (x.nu==nu))] zz ⟨a zz zz,zq⟩<|ab (aD ?_);rfl
theorem Sd (ok:c.OK)(nu:Int)(a: -9223372036854775808<=nu)(b:nu<=9223372036854775807):Ev ad 253 [lQ c.co,.fn (.func 343) [] [.pi [I nu]]] (I (bM (λx=>x.nu==nu) c.co 0)):=by refine vH aj4.ok pC.ao 4 c.co _ _ zz (λk x hx C Q K=>?_);refine bE [.cells x.ao,.ret (B (x.nu==nu))] zz ⟨⟨af,by simp [hx]⟩,YI ok (b8 hx) nu a b,zq⟩<|ag ?_ K;exact eL
theorem YN (ok:c.OK)(p at_ s:Nat)(g:p<c.pe.length)(d:at_<6)(hs:s<2^60):Ev ad 346 [I s,.pi [OG c],.pi [I p],.pi [I at_]] (B (qM c p s==2^at_)):=by
 have e:=Ko ok p s g hs;have h:(2:Nat)^at_<2^6:=bl af d;have a:(1:Int)*2^((at_:Nat):Int).toNat=((2^at_:Nat):Int):=aF;have f:(0:Int)<=1*2^((at_:Nat):Int).toNat:=bD;have b:(1:Int)*2^((at_:Nat):Int).toNat<9223372036854775808:=by rw[a];omega
 refine ar akz.ok<|aJ zz<|xe [] [.ret (I (qM c p s:Nat))] zz (by(repeat' (with_reducible apply az));(all_goals first|exact zk _|((first|exact e|exact b))))<|ab (aD ?_);apply congrArg B;rw[a,cb,beq_iff_eq,beq_iff_eq];omega
theorem ZU (z:c.wf)(p nu:Int)(C: -9223372036854775808<=nu)(D:nu<=9223372036854775807):Ev ad 256 [.agg c.ao,I p,I nu] (.cG [ints (xf c p nu).1,I (xf c p nu).2]):=by
 have G:=z.pn;have w:((c.pe.map λs=>[bh s]).length:Int)=c.pe.length:=aF;have F:=AJ z [(p,c.pe.length)] aF (by intro x hx;simp at hx;subst hx;simp only;omega);have a:xf c p nu=if ib c [(p,c.pe.length)]≠0 then([],ib c [(p,c.pe.length)])
  else if bM (λx=>x.nu==nu) c.co 0<0 then([],7)
  else if (kt c p.toNat).testBit (bM (λx=>x.nu==nu) c.co 0).toNat=false then([],2)
  else match (DV c.wo.toNat).find? (λs=>qM c p.toNat s==2^(bM (λx=>x.nu==nu) c.co 0).toNat)with
   |some s=>(dx (s:Nat) c.wo.toNat,0)
   |none=>([],9):=by
  unfold xf
  split
  ·rfl
  split
  ·rfl
  split
  ·rfl
  ·rfl
 refine ar aj9.ok<|bE [.bY,.bY,.bY] zz ⟨⟨zz,zz⟩,⟨zz,zz⟩,⟨zz,zz⟩,zq⟩<|aa (aA ?_);refine mO [.bY] 6 zz zz cI<|ah (cC F zz zz (gN (by rw[<-w];rfl)) zz ?_);rintro r Ho K;rcases K with⟨i,rfl⟩|⟨i,rfl⟩
 case inr=>
  rw[zy i]at a;refine aR (dW (a7 _))<|VR [.aT] zz ⟨zz,⟨zz,zz,zz,b0 1⟩,zq⟩<|aa (aa ?_);refine cZ zz<|aC zz (by rw[bne_iff_ne];exact i)<|aJ zz<|ag (bO.ky (t:=6) 1 zz)<|ab (fJ ?_ ?_)
  rw[a];rfl;rw[a];rfl
 rw[zj (by rw[i];decide)]at a;obtain⟨ok,v⟩:=zU z i;have o:=qU (v (p,(c.pe.length:Int)) aF);simp only at o;obtain⟨pn,rfl⟩:=bx o.1;rw[an]at a;have N:=ok.wo;have c6:=ok.c6;have p3:=ok.p3;have m:=Sd ok nu C D;have d:0<=bM (λx=>x.nu==nu) c.co 0->(bM (λx=>x.nu==nu) c.co 0).toNat<6:=by intro h;obtain⟨-,x,hx,-⟩:=qv (λx:pC=>x.nu==nu) c.co 0 af h;have:=(a8.1 hx).1;omega
 have hid:=xx (λx:pC=>x.nu==nu) c.co 0 af;generalize bM (λx=>x.nu==nu) c.co 0=at_ at a m d hid;refine aR (dW (a7 _))<|VR [.aT] zz ⟨zz,⟨zz,zz,zz,b0 1⟩,zq⟩<|ag (aq (t:=8) zz)<|iF [(3,.pi c.ao),(4,.pi [I pn]),(5,.pi [I nu]),(8,.pi [OG c]),(9,I 0)]<|aa (aa ?_);refine cZ zz<|aH zz zz<|bE [.ret (I at_),.aT] zz ⟨m,zz,⟨zz,zz,zz,b0 1⟩,zq⟩<|ag (aq (t:=10) zz)<|dw (0<=at_/\(kt c pn).testBit at_.toNat=true) (el [(3,.pi c.ao),(4,.pi [I pn]),(8,.pi [OG c]),(10,.pi [I at_])]) [] [] ?_ ?_
 ·apply aJ zz;by_cases ha:at_<0;rw[zy ha]at a;refine aC zz (by rw[decide_eq_true_iff];exact ha)<|aJ zz<|ag (bO.ky (t:=6) 1 zz)<|ab (fJ ?_ ?_)
  rw[a];rfl;rw[a];rfl
  rw[zj ha]at a;have L:kP c c.co.length pn=kt c pn:=by unfold kP;rw[zy af];rfl
  have M:kt c pn<2^6:=yk c pn c.co.length c6;have f:=Jm c (.mi []) (kP c c.co.length) (k:=pn) af;rw[L]at f;have b:=aek (s:=((kt c pn:Nat):Int)) af at_.toNat;rw[an at_.toNat,an (kt c pn)]at b;have H:(0:Int)<=(kt c pn:Nat)/2^at_.toNat:=ey af (e5 (ff af));have J:((kt c pn:Nat):Int)/2^at_.toNat<=(kt c pn:Nat):=eu _ af;have A:=d af;generalize (kt c pn).testBit at_.toNat=O at b a;refine dm zz (by rw[decide_eq_false_iff_not];exact ha)<|xe [] [.pre [I (kt c pn:Nat)]] zz (by(and_intros);(all_goals first|exact zk _|((exact f)))) ?_;cases O with
  |false=>
   rw[zy zz]at a;refine aC zz b<|aJ zz<|ag (bO.ky (t:=6) 1 zz)<|ab (fJ ?_ ?_)
   rw[a];rfl;rw[a];rfl
  |true=>exact aH zz b ⟨(),⟨af,zz⟩,eL⟩
 rintro _ ⟨ha,y⟩;rw[zj af,y,zj aG]at a;obtain⟨u,rfl⟩:=bx ha;have j:=d ha;rw[an]at j a;obtain⟨wn,q⟩:=bx (show 0<=c.wo from af);rw[q,an]at a;have E:(2:Nat)^wn<=32:=bt af (show wn<=5 from af);have e:=P5 (n:=wn) af (λs=>qM c pn s==2^u) 346 [.pi [OG c],.pi [I pn],.pi [I u]] zz (λs hs=>YN ok pn u s af j af);have g:=eB (YO wn af);rw[<-q]at g;cases l:(DV wn).find? (λs=>qM c pn s==2^u)with
 |some s=>
  rw[l]at e a;refine bE [.ret (ints (HF wn)),.ret (.cG [ints (dx (s:Nat) wn),B true])] zz ⟨g,e,zq⟩<|aa (aa ?_);refine cZ zz<|aH zz zz<|aJ zz<|ab (fJ ?_ ?_)
  rw[a];rfl;rw[a];rfl
 |none=>
  rw[l]at e a;refine bE [.ret (ints (HF wn)),.ret (.cG [ints [],B false])] zz ⟨g,e,zq⟩<|aa (aa ?_);refine cZ zz<|aC zz zz<|aJ zz<|ag (bO.ky (t:=6) 1 zz)<|ab (fJ ?_ ?_)
  rw[a];rfl;rw[a];rfl
abbrev iA (l:List (List Nat)):List (List AV):=l.map λt=>jJ (aP t)
def yO (l:List (List Nat))(m:Nat×Nat):Option (Nat×Nat):=match l with|[]=>none|_::_=>some m
theorem Zn {l:List (List Nat)}{m:Nat×Nat}(h:yO l m=none):l=[]:=by cases l with|nil=>rfl|cons _ _=>cases h
theorem GO {l:List (List Nat)}(m:Nat×Nat)(h:l≠[]):yO l m=some m:=by cases l with|nil=>exact absurd zz h|cons _ _=>rfl
abbrev fU (b2 a:Nat)(x:List (List Nat)×Nat)(m:Nat×Nat):av:=[(b2,.cells 437 [Bw (yO x.1 m) x.1.length]),(a,.cells 3 [I x.2])]++ze (yO x.1 m) 440 4 (iA x.1)
section
variable {d:ln} (ok:d.OK) {os:List (List AV)} {es:List (Value×AV)} (K:sQ d es)
include ok K
theorem Tm:Ev ad 351 [EJ d os es] (.cG [.sl 4 (iA (mL d).1),I (mL d).2]):=by
 have O:((d.hs.map qm.ao).length:Int)=d.hs.length:=aF;have h4:=ok.h4;have c4:=ok.c4;have P:=yN ok;refine ar ahS.ok<|bE [.aT,.aT] zz jA<|bW (t:=2) zz λb2=>bW (t:=3) zz λb=>nw [.iL 0] zz ⟨fR,⟨zz,zz,zz,zz,b0 1⟩,zq⟩<|ag (ai (aw ?_) (cM (H':=fU b2 b ([],d.hs.length+1) (0,0)) (ea _ _ _))) ?_
 rw[O];rfl;refine aa (aa ?_);refine kn [.ret (.fn (.func 424) [] [.pi [EJ d os es]])] zz ⟨NL d os es,zq⟩<|ay<|aU.XX ok K Bn (fU b2 b) ([],d.hs.length+1) (0,0) (H0:=[]) (el [(2,.po b2 0),(3,.po b 0)]) zz aF (td jA zz) aG zz ?_ ?_
 ·intro l A p L2 m U a3;have V:p∈dS d:=by rw[U];simp
  have C:=iu V;have D:=sS V;rw[show (aZ Bn A ([],d.hs.length+1)).2=A.foldl qG ([],d.hs.length+1)from by rw[yE]];have s:=qd d.hs.length A [] ([],d.hs.length+1) (qe _) (λt J=>iu bD);rw[fv]at s;have Z:A.length<=625:=bD;have c: ∀t∈(A.foldl qG ([],d.hs.length+1)).1,t∈dS d:=λt J=>by rw[U];exact List.mem_append_left _ (s.mem t J)
  generalize A.foldl qG ([],d.hs.length+1)=x at s c;obtain⟨q,least⟩:=x;have W:=s.nil;have i2:=s.le;have i4:=s.len;simp only at W i2 i4 c;clear s;have a2:dK p<=d.hs.length:=by rw[<-C];exact eP
  refine bE [.aT] zz ⟨zz,⟨zz,zz,zz,b0 4⟩,zq⟩<|ag (aq (t:=4) zz)<|cZ zz ?_;refine⟨zz,?_⟩;refine iF [(2,.po b2 0),(3,.po b 0),(4,.pi (jJ (aP p))),(5,I (dK p:Nat))]<|ay (ay ?_);have f:qG (q,least) p=if dK p<least then([p],dK p)else if dK p=least/\q.getLast? ≠some p then(q++[p],least)else(q,least):=rfl
  refine bE [.at 1] zz cI ?_;by_cases R:dK p<least;rw[zy R]at f;refine aC zz (by rw[decide_eq_true_iff];omega)<|aA<|mO [.aT] 2 zz zz cI<|aY.TV (t:=22) (es:=iA [p]) zz (λF w=>?_);have y: ∃a,F=some a:=by cases F with|none=>cases w rfl|some a=>exact⟨a,zz⟩
  obtain⟨a,rfl⟩:=y;refine lY 1 zz zz<|ah (bz (i:=0) zz zz zz zz zz zz (by show 1<=1;decide) ?_);refine ah (bz (i:=1) zz zz zz zz zz zz (by show 1<=1;decide) ?_);refine bF ⟨zz,a,?_⟩;rw[show (Bn (q,least) p).2=([p],dK p)from f];exact hv (l₁:=[_,_]) (ap _) (List.sublist_append_right _ _)
  ·rw[zj R]at f;refine dm zz (by rw[decide_eq_false_iff_not];omega) ?_;by_cases T:dK p=least;case neg=>rw[zj (λe=>T e.1)]at f;refine aa ?_;have u:(((dK p:Nat):Int)==(least:Nat))=false:=(by rw[beq_eq_false_iff_ne];omega);refine tI [(28,false)] [.at 1] zz (by(and_intros);(all_goals first|exact zk _|((exact u))))<|aH zz zz ⟨zz,m,?_⟩;rw[show (Bn (q,least) p).2=(q,least)from f];exact ap _
   have G:q≠[]:=λe=>(by have:=W e;omega);have u:(((dK p:Nat):Int)==(least:Nat))=true:=(by rw[beq_iff_eq];omega);obtain⟨z,L⟩: ∃z,q.getLast? =some z:=by
    cases hh:q.getLast? with
    |none=>exact absurd (List.getLast?_eq_none_iff.1 hh) G
    |some z=>exact⟨z,zz⟩
   have Q:q[q.length-1]? =some z:=(by rw[<-List.getLast?_eq_getElem?];exact L);have E:=c z (List.mem_of_getLast? L);have a4:0<q.length:=List.length_pos_iff.2 G;have hU:fU b2 b (q,least) m=[(b2,.cells 437 ([]++Bw (some m) q.length::[])),(b,.cells 3 [I least]),(m.1,.arr 440 4 m.2 (iA q))]:=(by unfold fU;rw[GO m G];rfl);rw[hU];obtain⟨o,r⟩:=m;refine ag (bO.oM (j:=0) (p:=Bw (some (o,r)) q.length) [] [] (.so o q.length r) zz (λS v h=>by simpa only[bf,adC,IB]using h))<|aa<|tI [(28,true)] [.at 1,.at 0,.at 0,.elt 2 (q.length-1) 0 (jJ (aP z)),.op (B (!decide (z=p)))] zz (by(and_intros);(all_goals first|exact zk _|((first|exact u|exact YJ rfl rfl (λk hk=>e8 (sS E k hk) c4) (λk hk=>e8 (D k hk) c4) h4 (iu E) C|(rw[bI,Q];rfl)))))<|ag (ai (bO.oM (j:=0) (p:=.so o q.length r) [] [] (Bw (some (o,r)) q.length) zz (λS v h=>by simpa only[bf,adC,IB]using h)) (ai (aw (H':=[(b2,.cells 437 [Bw (some (o,r)) q.length]),(b,.cells 3 [I least])]++ze (some (o,r)) 440 4 (iA q)) zz) (au (l:=[(2,.po b2 0),(4,.pi (jJ (aP p))),(24,B (!decide (z=p)))]) ⟨zz,zz,zz,zq⟩))) ?_;by_cases g:z=p
   rw[zj (λe=>e.2 (by rw[L,g]))]at f;refine aH zz (by rw[g];simp) ⟨zz,(o,r),?_⟩;rw[show (Bn (q,least) p).2=(q,least)from f];show (fU b2 b (q,least) (o,r)).Sublist _;unfold fU;rw[GO _ G];exact ap _;rw[zy ⟨T,by rw[L];intro e;exact g (by simpa using e)⟩]at f;refine aC zz (by simp [g])<|aA<|mO [.at 0] 1 zz zz cI<|aR (bO.Pg (t:=38) (H:=[(b2,.cells 437 [Bw (some (o,r)) q.length]),(b,.cells 3 [I least])]) zz aF (λe=>by cases e)) ?_;have a0:(iA q).length=q.length:=bk _;refine mO [.bY] 3 zz zz ⟨zz,⟨by show ((iA q).length+1)*32<=_;omega,by show (iA q).length+1<=_;omega⟩,zq⟩ ?_;have M:iA (q++[p])=iA q++[jJ (aP p)]:=cR;refine aY.TV (t:=41) (es:=iA (q++[p])) (by rw[M];rfl) (λF w=>?_);have y: ∃a,F=some a:=by cases F with|none=>exact absurd (w zz) aF|some a=>exact⟨a,zz⟩
   obtain⟨a,rfl⟩:=y;refine ah (bz (i:=0) zz zz zz zz zz zz (by show 1<=1;decide) ?_);refine bF ⟨zz,a,?_⟩;rw[show (Bn (q,least) p).2=(q++[p],least)from f];show (fU b2 b (q++[p],least) a).Sublist _;unfold fU;rw[GO _ aF];show hf _ ([(b2,dp.cells _ [Bw (some a) (iA (q++[p])).length]),(b,dp.cells 3 [I least])]++ze (some a) 440 4 (iA (q++[p])));rw[bk];exact ap _
 intro X Y;have N:(aZ Bn (dS d) ([],d.hs.length+1)).2=mL d:=by rw[yE];rfl
 rw[N,show (aZ Bn (dS d) ([],d.hs.length+1)).1= .go from by rw[yE]];show aU _ _ _ _ _ _ _ _;have hI:=qd d.hs.length (dS d) [] ([],d.hs.length+1) (qe _) (λt J=>iu J);generalize a1:mL d=x;obtain⟨q,least⟩:=x;refine ag (ai (aw (H':=[(Y,.ri),(b2,.cells 437 [Bw (yO q X) q.length]),(b,.cells 3 [I least])]++ze (yO q X) 440 4 (iA q)) aF) (bO.OS (j:=1) (bo:=b2) [] [] zz zz aF (λe=>by rw[Zn e];rfl)))<|ag (aw (H':=[(Y,.ri),(b2,.cells 437 [.sl 4 (iA q)]),(b,.cells 3 [I least])]) zz)<|aa (aU.WG (gs:=[]) (hs:=[.at 1,.at 2]) [2,42] 1 zx zz aX jA zz zz zz zz zz zz (b0 1) zz ?_);refine aY.hd (gs:=[]) (hs:=[.iL 2]) zz ⟨⟨zz,zz,zz,zz,b0 1⟩,zq⟩ ?_
 exact ab ⟨.inr zz,_,⟨0,zz,zz⟩,.many aG (show fp (jU ad _ _) [.cell 2 437,.cell 3 3] [.sl 4 (iA q),I least]from
  ⟨.dY (n:=none) (i:=0) (cs:=[.sl 4 (iA q)]) zz zz aX zz,.dY (n:=none) (i:=1) (cs:=[I least]) zz zz aX zz,zq⟩)⟩
end
theorem Ls {d:ln}(p:d.wf)(h:(dF d).2.2=0):d.OK:=by
 unfold dF at h;by_cases m:(ae 1 6 [d.st]||ae 1 d.st [d.le]||ae 0 9 [d.we])=true;grind;rw[zj m]at h;by_cases n:4<d.cs.length;grind;rw[zj n]at h;by_cases e:(aB (eJ (mV d) 0 d.cs) d.cs.length 0).2≠0;grind;rw[zj e]at h;by_cases h4:4<d.hs.length;grind;rw[zj h4]at h;by_cases g:(aB (eJ (mX d) (-1) d.hs) d.hs.length 0).2≠0;grind;have e:=eN.1 (ds.1 e);have g:=eN.1 (ds.1 g);rw[c8,c8,dc,dc,dc]at m;have c: ∀(long:Nat->Bool) (least:Int) (l:List qm),(∀j,j<l.length->eJ long least l j=0)-> ∀x∈l,long x.ed.length=false/\ae least 9 x.ed=false:=by intro long least l hl x hx;obtain⟨i,hi⟩:=b7.1 hx;have:=hl i (a8.1 hi).1;unfold eJ at this;rw[hi]at this;simp only at this;split at this;cases this;split at this;cases this;split at this;cases this;split at this;cases this;rename_i a b;exact⟨by simpa using a,by simpa using b⟩
 have f: ∀{lo hi:Int} {l:List Int},ae lo hi l=false-> ∀v∈l,lo<=v/\v<=hi:=by intro lo hi l k v o;unfold ae at k;rw[er]at k;have:=k v o;simp at this;omega
 have f1:=c _ _ _ e;have f2:=c _ _ _ g;refine⟨p,af,af,af,af,af,af,?_,?_,?_,?_⟩;intro x hx;have:=(f1 x hx).1;unfold mV at this;rw[bne_eq_false_iff_eq]at this;exact this;intro x hx;have:=(f2 x hx).1;unfold mX at this;have:=f this (x.ed.length:Int) aF;omega;grind;grind
def ES (d:ln)(many:Int)(l:List Int):Int:=if (dF d).2.2≠0 then(dF d).2.2 else if ae 0 (many-1) l=true then 4 else 0
theorem Qj (d:ln)(e:d.wf)(many:Int)(g:0<=many)(h:many<=9223372036854775807)(l:List Int):iM ad 350 [.agg d.ao,I many,ints l] [] (λr _=>(ES d many l=0/\ ∃os es,r= .cG [EJ d os es,I 0]/\sQ d es)\/(ES d many l≠0/\r= .cG [.v (.pointer none),I (ES d many l)])):=by
 have hc:=Gi d e;have c:=lG 0 (many-1) l;have a:ES d many l=if (dF d).2.2≠0 then(dF d).2.2 else if ae 0 (many-1) l=true then 4 else 0:=rfl
 refine bH alH.ok<|bE [.bY] zz aK<|bE [.ret (.cG [I (dF d).1,I (dF d).2.1,I (dF d).2.2])] zz ⟨hc,zq⟩ ?_;generalize ae 0 (many-1) l=bb at c a;refine dw ((dF d).2.2=0/\ES d many l=0) (el [(3,.pi d.ao)]) [] [] ?_ ?_
 ·apply aJ zz;by_cases b:(dF d).2.2=0;case neg=>rw[zy b]at a;refine aC zz bD<|aJ zz<|ab ⟨.inr zz,_,.cG [.v (.pointer none),I (dF d).2.2],[],zz,.many aG ⟨.tmp zz zz,.tmp zz zz,zq⟩,.inr ⟨bD,by rw[a]⟩,a7 _⟩
  rw[zj (by simp [b])]at a;refine dm zz (by rw[b];rfl)<|bE [.ret (B bb)] zz ⟨fR,c,zq⟩ ?_;cases bb with
  |true=>rw[zy zz]at a;refine aC zz zz<|aJ zz<|ab ⟨.inr zz,_,.cG [.v (.pointer none),I 4],[],zz,.many aG ⟨.tmp zz zz,.tmp zz zz,zq⟩,.inr ⟨by rw[a];decide,by rw[a]⟩,a7 _⟩
  |false=>rw[zj aG]at a;exact aH zz zz ⟨(),⟨b,a⟩,eL⟩
 rintro _ ⟨b,f⟩;refine aa (aA ?_);refine lY 1 zz zz<|ah (cC (Sv (Ls e b)) zz zz (aW _) zz ?_);rintro r Ho ⟨os,es,rfl,hK⟩;refine gk zz<|ab ⟨.inr zz,_,.cG [EJ d os es,I 0],[],zz,.many aG ⟨.tmp zz zz,.tmp zz zz,zq⟩,.inl ⟨f,os,es,zz,hK⟩,a7 _⟩
theorem Pa (n:Nat): ∀(L a:List (List Nat)) (x:List (List Nat)×Nat),FT n a x->(∀t∈L,t.length=n)->(x.1≠[]\/L≠[])->(L.foldl qG x).1≠[]
 |[],a,x,_,_,h=>h.elim id (λh=>absurd zz h)
 |t::L,a,x,h,hl,_=>by
  have c:dK t<=n:=by rw[<-hl t aF];exact eP
  refine Pa n L (a++[t]) (qG x t) (CV h t c) (λs hs=>hl s (by simp [hs])) (.inl ?_);unfold qG;by_cases b:dK t<x.2;rw[zy b];simp;rw[zj b];have:x.1≠[]:=λe=>(by have:=h.nil e;omega);split;simp;exact this
theorem Ju {ext:List Nat->List Nat}(h: ∀p,ext p≠[]): ∀(m:Nat) (p:List Nat),du ext m p≠[]
 |0,p=>by simp [du]
 |m+1,p=>by intro e;simp only[du,List.flatMap_eq_nil_iff]at e;obtain⟨k,hk⟩:=List.exists_mem_of_ne_nil _ (h p);exact Ju h m _ (e k hk)
theorem Jb (d:ln):(mL d).1≠[]:=
 Pa d.hs.length (dS d) [] _ (qe _) (λt a=>iu a) (.inr (Ju (λp=>by unfold kS;simp) _ _))
theorem FY {d:ln}{t:List Nat}(h:t∈(mL d).1):t∈dS d:=by have:=qd d.hs.length (dS d) [] _ (qe _) (λt a=>iu a);exact(this.mem t h)
theorem K3 (t:List Nat)(i:Nat):t.getD i 0=aP t i:=by rw[List.getD_eq_getElem?_getD];rfl
theorem Jf (d:ln)(z:d.wf)(hh:d.hs.length<=1000000)(a:Int):Ev ad 260 [.agg d.ao,I a] (.cG [I (jF d a).1,I (jF d a).2]):=by
 have p:((d.hs.map qm.ao).length:Int)=d.hs.length:=aF;have e:jF d a=if ES d d.hs.length [a]≠0 then(0,ES d d.hs.length [a])
   else if (mL d).1.any (λt=>t.getD a.toNat 0!=((mL d).1.headD []).getD a.toNat 0||((mL d).1.headD []).getD a.toNat 0==0)=true then(0,9)
   else(((((mL d).1.headD []).getD a.toNat 0:Nat):Int)-1,0):=by
  unfold jF ES
  by_cases j:(dF d).2.2≠0
  ·grind
  ·grind
 refine ar ahZ.ok<|bE [.bY] zz aK<|aa (aA ?_);refine mO [.bY] 6 zz zz cI ?_;have w:=Qj d z d.hs.length af af [a];rw[<-p]at w;refine ah (cC w zz zz (aW _) zz ?_);rw[p];rintro r Ho C;rcases C with⟨g,os,es,rfl,K⟩|⟨g,rfl⟩
 case inr=>
  rw[zy g]at e;refine aR (ai (dW (a7 _)) (bO.refl _ _ _))<|gk zz<|aa (aa ?_);refine cZ zz<|aC zz bD<|aJ zz<|ab (fJ ?_ ?_)
  rw[e];rfl;rw[e];rfl
 rw[zj (by rw[g];decide)]at e;refine aR (ai (dW (a7 _)) (bO.refl _ _ _))<|gk zz ?_
 have ok:d.OK:=Ls z (by
  unfold ES at g
  by_cases j:(dF d).2.2=0
  ·exact j
  ·rw[zy j]at g;exact g)
 have n:0<=a/\a<d.hs.length:=by unfold ES at g;by_cases j:(dF d).2.2≠0;grind;rw[zj j]at g;by_cases v:ae 0 ((d.hs.length:Int)-1) [a]=true;rw[zy v]at g;cases g;rw[dc,ds]at v;omega
 have h4:=ok.h4;have c4:=ok.c4;have q:=Jb d;have l:=λt (h:t∈(mL d).1)=>FY h;have c:=Tm ok (os:=os) K;have f:=(qd d.hs.length (dS d) [] _ (qe _) (λt s=>iu s)).len;rw[fv,show ((dS d).foldl qG ([],d.hs.length+1))=mL d from rfl]at f;generalize (mL d).1=L at e q l c f;generalize (mL d).2=least at c;obtain⟨t0,b,rfl⟩: ∃t0 b,L=t0::b:=by cases L with|nil=>exact absurd zz q|cons t0 b=>exact⟨t0,b,zz⟩
 have u:((iA (t0::b)).length:Int)=(t0::b).length:=aF;have A:(t0::b).length<=625:=e8 f (yN ok);refine aa (aa ?_);refine cZ zz<|aH zz zz<|bE [.ret (.cG [.sl 4 (iA (t0::b)),I least])] zz ⟨c,zq⟩ ?_;obtain⟨i,hi⟩:=bx n.1;subst hi;have o:i<4:=af
 simp only[List.headD_cons,an,K3]at e;refine bE [.cells (jJ (aP t0)),.pre [I (aP t0 i:Nat)]] zz (by(and_intros);(all_goals first|exact zk _|((first|exact zZ _ o|rfl))))<|aa (aa ?_);refine cZ zz<|cj ((t0::b).any (λt=>aP t i !=aP t0 i||aP t0 i==0)=false) (el [(10,I (aP t0 i:Nat))]) [] [] ?_ ?_
 ·refine gf (λk:Nat=>k<=(t0::b).length/\(t0::b).any (λt=>aP t i !=aP t0 i||aP t0 i==0)=((t0::b).drop k).any (λt=>aP t i !=aP t0 i||aP t0 i==0)) (λk=>el [(1,I i),(10,I (aP t0 i:Nat)),(36,.sl 4 (iA (t0::b))),(37,I (t0::b).length),(38,I k)]) (λk=>(t0::b).length-k) 0 ⟨af,zz⟩
   (au ⟨zz,zz,zz,by show I _=I _;rw[u],zz,zq⟩) ?_
  rintro k ⟨hk,hi⟩;generalize x:(t0::b).any (λt=>aP t i !=aP t0 i||aP t0 i==0)=X at hi e;refine aJ zz<|aa (aj zz (λhc=>?_) (λhc=>?_))
  ·simp only[nL]at hc;obtain⟨t,s⟩:=bq hc;rw[drop_cons s,gR]at hi;refine ak (aa (ay ?_));refine bE [.cells (jJ (aP t)),.aT] zz ⟨⟨af,by rw[bI,an,s];rfl⟩,zz,⟨zz,zz,zz,aG⟩,zq⟩<|ag (aq (t:=12) zz)<|eZ True (el [(1,I i),(10,I (aP t0 i:Nat)),(36,.sl 4 (iA (t0::b))),(37,I (t0::b).length),(38,I k),(50,B (aP t i !=aP t0 i||aP t0 i==0))]) [] [] ?_ ?_
   ·by_cases j:aP t i=aP t0 i
    ·have m:(((aP t i:Nat):Int)!=(aP t0 i:Nat))=false:=(by rw[bne_eq_false_iff_eq];omega);refine kD [(47,false)] [.pre [I (aP t i:Nat)]] zz (by(and_intros);(all_goals first|exact zk _|((first|exact m|exact zZ _ o)))) ?_;refine⟨(),zq,au ⟨zz,zz,zz,zz,zz,?_,zq⟩⟩;apply congrArg B;rw[cb];simp [j]
    have m:(((aP t i:Nat):Int)!=(aP t0 i:Nat))=true:=(by rw[bne_iff_ne];omega);refine kD [(47,true)] [.pre [I (aP t i:Nat)]] zz (by(and_intros);(all_goals first|exact zk _|((first|exact m|exact zZ _ o)))) ?_;refine⟨(),zq,au ⟨zz,zz,zz,zz,zz,?_,zq⟩⟩;refine congrArg B ?_;symm;simp [j]
   intro _ _;cases y:(aP t i !=aP t0 i||aP t0 i==0)with
   |true=>
    rw[y,hb]at hi;rw[hi,zy zz]at e;refine aC zz zz<|aJ zz<|ab (fJ ?_ ?_)
    rw[e];rfl;rw[e];rfl
   |false=>rw[y,gQ]at hi;refine aH zz zz<|fE zz bL ?_;exact⟨k+1,⟨hc,hi⟩,af,eL⟩
  simp only[nL]at hc;refine aE ⟨(),?_,eL⟩;rw[hi,drop_nil hc];rfl
 intro _ x;rw[x,zj aG]at e;have D:=HA (sS (l t0 aF)) i;refine Ik zz bL<|ab (fJ ?_ ?_)
 rw[e];rfl;rw[e];rfl
section
theorem yf {f:Nat->Int}(hk:k<m)(h:aB f m 0=aB f (m-k) k)(a:f k≠0):aB f m 0=((k:Int),f k):=by rw[h,show m-k=(m-(k+1))+1 by omega,aB,zj a]
theorem JJ {f:Nat->Int}(hk:k<m)(h:aB f m 0=aB f (m-k) k)(a:f k=0):aB f m 0=aB f (m-(k+1)) (k+1):=by rw[h,show m-k=(m-(k+1))+1 by omega,aB,zy a]
theorem MF {f:Nat->Int}(hk: ¬k<m)(a:k<=m)(h:aB f m 0=aB f (m-k) k):aB f m 0=(0,0):=by have:k=m:=af;subst this;rw[h,Nat.sub_self,aB]
structure cQ.wf (a:cQ):Prop where
 sh:a.sh.wf
 tw:a.tw.wf
 dr:a.dr.wf
 li:a.li.wf
 ch:a.ch.wf
 ix:a.ix.length<=9223372036854775807
 le:a.le.length<=9223372036854775807
 ca0: -9223372036854775808<=a.ca
 ca1:a.ca<=9223372036854775807
 wo0: -9223372036854775808<=a.ch.wo
 wo1:a.ch.wo<=9223372036854775807
variable {a:cQ} (w:a.wf)
include w
theorem Zx:Ev ad 47 [.pi a.ao] (I (dA a 0)):=Ev.go S47.ok [(8,[.ev (F7 a.sh w.sh)])] []
theorem ZL:Ev ad 49 [.pi a.ao] (I (dA a 1)):=Ev.go S49.ok [(8,[.ev (Fs a.tw w.tw)])] []
theorem X6:Ev ad 51 [.pi a.ao] (I (dA a 2)):=Ev.go S51.ok [(8,[.ev (Gi a.dr w.dr)])] []
theorem ZH:Ev ad 53 [.pi a.ao] (I (dA a 3)):=Ev.go S53.ok [(8,[.ev (FB a.li w.li)])] []
theorem ZK:Ev ad 55 [.pi a.ao] (I (dA a 4)):=Ev.go S55.ok [(8,[.ev (Gc a.ch w.ch)])] []
theorem ZZ:Ev ad 64 [.pi a.ao] (I (dA a 8)):=Ev.go S64.ok [(8,[.ev (E3 a.tw w.tw)])] []
theorem WA:Ev ad 66 [.pi a.ao] (I (dA a 9)):=Ev.go S66.ok [(8,[.ev (Qh w.li)])] []
theorem Zz:Ev ad 63 [.pi a.ao] (I (dA a 7)):=by
 have:=w;apply Ev.vc S63.ok (kh []) (lh []);repeat' first|apply VW.st|apply VO.st|apply VD.st|apply VS.step|apply az|(intro b;(try simp at b);(try contradiction))
 all_goals try exact fi _
 all_goals exact⟨zz,by simp only[dA];split<;>omega⟩
omit w in
theorem yu (h: ¬(a.ix.length:Int)=a.ch.wo):dA a 5=3:=zy h
omit w in
theorem OT {e:Int}(c:(a.ix.length:Int)=a.ch.wo)(hk:k<a.ix.length)(h:aB (Kj a) a.ix.length 0=aB (Kj a) (a.ix.length-k) k)(he:Kj a k=e)(b:e≠0):dA a 5=e:=by show (if (a.ix.length:Int)≠a.ch.wo then(3:Int)else _)=e;rw[zj bD,yf hk h (he▸b),he]
omit w in
theorem VN (c:(a.ix.length:Int)=a.ch.wo)(hk: ¬k<a.ix.length)(b:k<=a.ix.length)(h:aB (Kj a) a.ix.length 0=aB (Kj a) (a.ix.length-k) k):dA a 5=0:=by show (if (a.ix.length:Int)≠a.ch.wo then(3:Int)else _)=0;rw[zj bD,MF hk b h]
omit w in
theorem Ig (h:k<a.ix.length):Kj a k=if cJ [nx a.ix k]≠0 then 6 else if (a.ix.take k).contains (nx a.ix k)=true then 5 else 0:=by unfold Kj;rw[bP h]
theorem XF:Ev ad 57 [.pi a.ao] (I (dA a 5)):=by
 have g:=w.ix;refine Ev.vc S57.ok (kh []) (lh [(0,{n:=a.ix.length,E:=λk=>[(0,.pi a.ao),(12,strs a.ix),(13,I a.ix.length),(14,I k)],I:=λk=>aB (Kj a) a.ix.length 0=aB (Kj a) (a.ix.length-k) k,K:=λk=>[(17,[.i (.cells [bh (nx a.ix k)])]),(22,[.ev (Km [nx a.ix k])]),(30,[.ev (show Ev ad 59 [.sl 1 ((a.ix.map λs=>[bh s]).take k),bh (nx a.ix k)] (B ((a.ix.take k).contains (nx a.ix k)))from by rw[<-eT];exact nG _ _)])]})]) ?_;repeat' first|apply VW.st|apply VO.st|apply VD.st|apply VS.step|apply az|(intro e;(try simp only[nL]at e);(try contradiction))
 all_goals try exact fi _
 exact⟨zz,(yu e).symm⟩;rename_i d k _ c b;exact⟨zz,(OT d b c (by rw[Ig b,zy e]) aG).symm⟩;rename_i d k _ c b h4;exact⟨zz,(OT d b c (by rw[Ig b,zj (λh=>h h4),zy e]) aG).symm⟩;rename_i d k _ c b h4;exact⟨JJ b c (by rw[Ig b,zj (λh=>h h4),zj (by rw[e];decide)])⟩;rename_i d k f c;exact⟨zz,(VN d e f c).symm⟩
omit w in
theorem GX (h:k<a.le.length)(b:k<a.ch.co.length):Lh a k=if cJ (nx a.le k)≠0 then cJ (nx a.le k)else if Ep a.ix (nx a.le k)≠Ly (nx a.ch.co k).wo then 2 else 0:=by unfold Lh;rw[bP h,bP b]
end
section
abbrev b5v (f:Nat->Bool):Value:=.agg #[.bool (f 0),.bool (f 1),.bool (f 2),.bool (f 3),.bool (f 4)]
theorem TJ (f:Nat->Bool):bS ad 5 117 (b5v f):=by have a:ad.cellsOf 117=5:=aX;have b:ad.cellsOf 4=1:=aX;refine⟨?_,[.bool (f 0),.bool (f 1),.bool (f 2),.bool (f 3),.bool (f 4)],?_⟩;simp [hq,e4,a];simp [ht,fx,e4,Tryz.underlying4,a,b,b6]
theorem abz (f g:Nat->Bool){x y:Operand}{env:Env}{H:av}{t:Nat}(hx:bG env x= .agg (b5 f))(hy:bG env y= .agg (b5 g)){c:Bool}(hc:c=true↔b5v f=b5v g):
  ∀(r:Option Nat) (N:Nat) (D:List Nat),Q1 ad r N (.pK true 117 x y) (some t) env H D [(t,B (!c))]:=λr N D=>Q1.of λK k=>
 aO.pK (m:=3) aG aX aX aX aX (by rw[hx];rfl) (by rw[hy];rfl) (TJ f) (TJ g) c hc k
theorem YQ (ix l:List Wd)(n:Int):decide (Ep ix l=Ly n)=true↔b5v (uI ix l)=b5v λi=>n.toNat.testBit i:=by rw[decide_eq_true_iff,show Ep ix l=[uI ix l 0,uI ix l 1,uI ix l 2,uI ix l 3,uI ix l 4]from rfl,show Ly n=[n.toNat.testBit 0,n.toNat.testBit 1,n.toNat.testBit 2,n.toNat.testBit 3,n.toNat.testBit 4]from rfl];simp
variable {a:cQ} (w:a.wf)
theorem Js (h: ¬(a.le.length:Int)=a.ch.co.length):dA a 6=3:=zy af
theorem OO {e:Int}(c:(a.le.length:Int)=a.ch.co.length)(hk:k<a.le.length)(h:aB (Lh a) a.le.length 0=aB (Lh a) (a.le.length-k) k)(he:Lh a k=e)(b:e≠0):dA a 6=e:=by show (if a.le.length≠a.ch.co.length then(3:Int)else _)=e;rw[zj af,yf hk h (he▸b),he]
theorem UX (c:(a.le.length:Int)=a.ch.co.length)(hk: ¬k<a.le.length)(b:k<=a.le.length)(h:aB (Lh a) a.le.length 0=aB (Lh a) (a.le.length-k) k):dA a 6=0:=by show (if a.le.length≠a.ch.co.length then(3:Int)else _)=0;rw[zj af,MF hk b h]
set_option maxRecDepth 10000 in
theorem ZM (hl:a.le.length<=9223372036854775807)(f:a.ix.length<=5)(g: ∀x∈a.ch.co,0<=x.wo/\x.wo<9223372036854775808):Ev ad 60 [.pi a.ao] (I (dA a 6)):=by
 refine di S60.ok (kh []) (lh [(0,{n:=a.le.length,E:=λk=>[(0,.pi a.ao),(14,DA a.le),(15,I a.le.length),(16,I k)],I:=λk=>aB (Lh a) a.le.length 0=aB (Lh a) (a.le.length-k) k,K:=λk=>[(19,[.i (.cells [strs (nx a.le k)])]),(22,[.ev (Km (nx a.le k))]),(29,[.ev (Gj a.ix (nx a.le k) f)]),(34,[.i (.cells (nx a.ch.co k).ao)]),(37,[.i (.ret (.agg (b5 λi=>(nx a.ch.co k).wo.toNat.testBit i)))]),(38,[.i (.op (B (!decide (Ep a.ix (nx a.le k)=Ly (nx a.ch.co k).wo))))])]})]) ?_;repeat' first|apply aN|apply aM|apply aL|apply ax|apply az|(intro e;(try simp only[nL]at e);(try contradiction))
 all_goals try exact fi _
 exact⟨zz,(Js e).symm⟩;rename_i d k _ c b;exact⟨zz,(OO d b c (by rw[GX b af,zy e]) e).symm⟩;rename_i d k _ c b h4;exact⟨af,mR (show k<a.ch.co.length from af)⟩;rename_i d k _ c b h4;have hx:=g _ (dh (show k<a.ch.co.length from af));exact⟨V7 _ hx.1 hx.2⟩;exact⟨abz _ _ zz zz (YQ _ _ _)⟩;rename_i d k _ c b h4 f;exact⟨zz,(OO d b c (by rw[GX b af,zj (λh=>h h4),zy (by simpa using e)]) aG).symm⟩;rename_i d k _ c b h4 f;exact⟨JJ b c (by rw[GX b af,zj (λh=>h h4),zj (by simpa using e)])⟩;rename_i d k j c;exact⟨zz,(UX d e j c).symm⟩
end
theorem adm (l:List bc): ∃Z:Nat->Nat->Prop,(∀k,Z k 0)/\(∀k j,j<k->k<l.length->Z k j-> ¬(nx l j).c=(nx l k).c->Z k (j+1))/\(∀k j,j<k->k<l.length->Z k j->(nx l j).c=(nx l k).c->decide (cT (l.take k) (nx l k).c>=0)=true)/\ ∀k j,j<=k-> ¬j<k->k<l.length->Z k j->decide (cT (l.take k) (nx l k).c>=0)=false:=
 ⟨λk j=> ∀i,i<j-> ¬(nx l i).c=(nx l k).c,λk i h=>by omega,λk j a b z g i hi=>by rcases c7.1 hi with h|rfl;exact z i h;exact g,λk j a b z g=>decide_eq_true ((rA _ _).2 ⟨nx l j,b7.2 ⟨j,by rw[eU,zy a];exact bP (by omega)⟩,g⟩),λk j d a b z=>decide_eq_false λh=>by
  obtain⟨y,hy,e⟩:=(rA _ _).1 h;obtain⟨i,hi⟩:=b7.1 hy;rw[eU]at hi;split at hi;rename_i hk;have:=bP (l:=l) (j:=i) (by omega);rw[this]at hi;cases hi;exact z i (by omega) e;cases hi⟩
theorem LG (b:dy)(f:0<=b.n)(g:b.n<62)(l:List bc)(a: ∀x∈l,x.wf):Ev ad 281 [.agg b.ao,lr l] (I (pP b.n l)):=by
 obtain⟨r,e⟩: ∃r,pP b.n l=r:=⟨_,zz⟩;rw[e];unfold pP at e;obtain⟨A,a0,a1,t,u⟩:=fO (dP b.n l) l.length;generalize aB (dP b.n l) l.length 0=p at *
 have n1: ∀k,k<l.length->dP b.n l k=if ae 97 122 [(nx l k).c]=true then 6 else if decide (cT (l.take k) (nx l k).c>=0)=true then 5 else if ae 0 (2^b.n.toNat-1) [(nx l k).s]=true then 7 else if ((nx l k).s==0&& !(nx l k).q)=true then 2 else 0:=λk h=>by unfold dP;rw[bP h]
 obtain⟨Z,v,y,m,o⟩:=adm l;have w:=λk=>fh (n:=(nx l k).c) (jz (p:=λx:bc=> -9223372036854775808<=x.c) (λx h=>by have:=(a x h).c0;omega) aG k) (jz (p:=λx:bc=>x.c<=9223372036854775807) (λx h=>by have:=(a x h).c1;omega) aG k)
 obtain⟨D,d⟩: ∃D:Nat->Bool, ∀k,decide (cT (l.take k) (nx l k).c>=0)=D k:=⟨_,λ_=>rfl⟩;simp only[d]at n1 m o;clear d a
 exact Ev.gl 1 zz ajp.ok [(2,[.i .bY]),(9,[.ev (cO (l.map bc.ao).length 1 6)])] [(0,{n:=l.length,E:=λk=>[(1,lr l),(2,.pi b.ao),(5,I k)],I:=A,K:=λk=>[(19,[.i (.cells (nx l k).ao)]),(23,[.ev (cO (nx l k).c 97 122)]),(43,[.i (.cells (nx l k).ao)]),(48,[.ev (abo b.n f g)]),(49,[.ev (cO (nx l k).s 0 (2^b.n.toNat-1))]),(53,[.i (.cells (nx l k).ao)]),(60,[.i (.cells (nx l k).ao)])],L:=λk=>[(2,{n:=k,E:=λj=>[(1,lr l),(2,.pi b.ao),(5,I k),(6,I j)],I:=Z k,K:=λj=>[(32,[.i (.cells (nx l j).ao)]),(37,[.i (.cells (nx l k).ao)])]})]})]
theorem HT (b:dy)(j:b.al.length<1000)(d: ∀a∈b.al,a.ls.length<=1000)(s:cL)(l:s.wf):Ev ad 282 [.agg b.ao,.agg s.ao] (I (Ar b s)):=by
 obtain⟨r,f⟩: ∃r,Ar b s=r:=⟨_,zz⟩;rw[f];unfold Ar at f;have v:=l.t
 have hg: ∀(x:Int),0<=x->x<b.al.length->b.al[x.toNat]? =some (nx b.al x.toNat):=λx o q=>bP (by omega)
 have u:ae 0 ((b.al.length:Int)-1) [s.a]=false->0<=s.a/\s.a<b.al.length/\b.al[s.a.toNat]? =some (nx b.al s.a.toNat):=λh=>by simp [ae] at h;exact⟨by omega,by omega,bP (by omega)⟩
 clear hg
 have g:=λc=>DJ (nx b.al s.a.toNat) c (jz (p:=λa:iB=>a.ls.length<=1000) d aG _)
 generalize nx b.al s.a.toNat=a at *
 obtain⟨A,a0,a1,m⟩:=ud (λc:UInt8=>decide (0<=cT a.ls c.toNat)) s.t
 have e: ∀k:Nat,k<s.t.length->s.t[k]? =some (nx s.t k):=λk h=>bP h
 have z:(⟨s.t.toArray⟩:ByteArray).size=s.t.length:=by simp [fD]
 exact Ev.gg ajJ.ok [(2,[.i .bY]),(3,[.i .bY]),(12,[.ev (cO s.a 0 ((b.al.map iB.ao).length-1))]),(17,[.ev (cO s.t.length 1 5)])] [(0,{n:=s.t.length,E:=λk=>[(2,.pi b.ao),(3,.pi s.ao),(5,I k)],I:=λk=>A k=true,K:=λk=>[(30,[.i (.cells a.ao)]),(35,[.i (.byte (nx s.t k))]),(36,[.ev (g (nx s.t k).toNat)])]})]
theorem tT (f:j->List UInt8)(l:List j)(s:List UInt8)(hs:s.length<=9223372036854775807):Ev ad 171 [bh s,.sl 1 (l.map λx=>[bh (f x)])] (I (dL s (l.map f))):=by
 have h:=Dy s hs (l.map f);unfold strs at h;rw[List.map_map]at h;exact h
theorem Q7 (b:dy)(d:b.wf):Ev ad 173 [.agg b.ao] (.cG [I (check b).1,I (check b).2.1,I (check b).2.2]):=by
 obtain⟨⟨B,D,F⟩,c⟩: ∃r,check b=r:=⟨_,zz⟩;rw[c];unfold check at c
 have s:(aB (ez b) b.al.length 0).2=0-> ∀a∈b.al,a.ls.length<=1000:=λl a ha=>by obtain⟨i,hi⟩:=b7.1 ha;have:=((qS hi).1 (eN.1 l i (a8.1 hi).1)).1.l6;omega
 have t:b.al.length<1000->(aB (ez b) b.al.length 0).2=0-> ∀k,Ev ad 282 [.agg b.ao,.agg (nx b.ss k).ao] (I (Ar b (nx b.ss k))):=λh l k=>HT b h (s l) _ (jz d.ss ⟨aG,aG,aG⟩ k)
 have o:0<=b.n->b.n<62-> ∀k,Ev ad 281 [.agg b.ao,lr (nx b.al k).ls] (I (pP b.n (nx b.al k).ls)):=λw y k=>LG b w y _ (jz (p:=λa:iB=> ∀x∈a.ls,x.wf) (λa h=>(d.al a h).ls) (λx h=>by cases h) k)
 obtain⟨A,a0,a1,e,f⟩:=fO (ez b) b.al.length;obtain⟨C,c0,c1,g,j⟩:=fO (dJ b) b.ss.length
 generalize aB (ez b) b.al.length 0=p at *;generalize aB (dJ b) b.ss.length 0=q at *;clear s
 have n1: ∀k,k<b.al.length->ez b k=if dL (nx b.al k).name ((b.al.take k).map (·.name))=0 then pP b.n (nx b.al k).ls else dL (nx b.al k).name ((b.al.take k).map (·.name)):=λk h=>by unfold ez dL pP;rw[bP h,List.any_map];simp only[hB];cases eI (nx b.al k).name;simp;grind
 have m: ∀k,k<b.ss.length->dJ b k=Ar b (nx b.ss k):=λk h=>by simp only[dJ,bP h];rfl
 have g1:ae 1 4 [b.n]=false->0<=b.n/\b.n<62:=λh=>by simp [ae] at h;omega
 have g2:ae 1 3 [(b.al.length:Int)]=false->b.al.length<1000:=λh=>by simp [ae] at h;omega
 have v:=λk=>tT (·.name) (b.al.take k) (nx b.al k).name (jz (p:=λx:iB=>x.name.length<=9223372036854775807) (λa h=>(d.al a h).name) aG k)
 have W:=Ob.mk (az c (az a1 (az e (az f (az c1 (az g (az j (az n1 m))))))));clear c a1 e c1 g j n1 m
 refine di amq.ok (kh [(1,[.i .bY]),(12,[.ev (cO b.n 1 4)]),(17,[.ev (cO (b.al.map iB.ao).length 1 3)])])
  (lh [(0,{n:=b.al.length,E:=λk=>[(1,.pi b.ao),(5,.aT 9 1 ((b.al.take k).map λx=>[bh x.name])),(6,I k)],I:=A,K:=λk=>[(26,[.pk 5]),(29,[.i (.cells (nx b.al k).ao)]),(33,[.bo (v k)]),(38,[.i (.cells (nx b.al k).ao)]),(42,[.i (.own 5)]),(49,[.i (.cells (nx b.al k).ao)]),(52,[.i (.ret (I (pP b.n (nx b.al k).ls)))])]}),
   (2,{n:=b.ss.length,E:=λk=>[(1,.pi b.ao),(8,I k)],I:=C,K:=λk=>[(72,[.i (.cells (nx b.ss k).ao)]),(74,[.i (.ret (I (Ar b (nx b.ss k))))])]})]) ?_
 repeat' first|apply aN|apply aM|apply aL|apply ax|apply az|(intro z;(try simp only[nL]at z);(try contradiction))
 all_goals try first|exact fo _|exact⟨jC.gT (u:=5) rfl rfl⟩|exact fi _|exact⟨af,mR af⟩|exact⟨o (g1 bB).1 (g1 bB).2 _⟩|exact⟨t (g2 (by simpa using bB)) (by rw[f _ bB bB bB]) _⟩
 all_goals (obtain⟨c,a1,e,f,c1,g,j,n1,m⟩:=W.h;clear W o t d;refine Ob.mk ?_;first|(refine⟨rfl,?_⟩;grind)|(dsimp only;grind))
theorem Io (l:Wd):Ev ad 179 [bh l] (B (mU l)):=by
 obtain⟨f,d⟩: ∃f:UInt8->Bool,f=λc=>decide (97<=c.toNat)&&decide (c.toNat<=122):=⟨_,zz⟩
 have m:mU l=(!ae 1 8 [(l.length:Int)]&&l.all f):=by rw[d];unfold mU;congr 1;rw[cb];simp [ae];omega
 have g:ae 1 8 [(l.length:Int)]=false->l.length<=8:=λh=>by simp [ae] at h;omega
 obtain⟨A,a,b,c⟩:=ud f l;rw[m];clear m
 have j: ∀k,f (nx l k)=(decide ((97:Int)<=(nx l k).toNat)&&decide (((nx l k).toNat:Int)<=122)):=λk=>by rw[d,cb];simp;omega
 simp only[j]at c;clear d j
 have e: ∀k:Nat,k<l.length->l[k]? =some (nx l k):=λk h=>bP h
 have z:(⟨l.toArray⟩:ByteArray).size=l.length:=by simp [fD]
 exact Ev.gg aiY.ok [(6,[.ev (cO l.length 1 8)])] [(0,{n:=l.length,E:=λk=>[(0,bh l),(3,I k)],I:=λk=>A k=true,K:=λk=>[(16,[.i (.byte (nx l k))]),(21,[.i (.byte (nx l k))])]})]
theorem Ge (l:List Wd):Ev ad 279 [strs l] (B (iU l)):=by
 obtain⟨A,a,b,c⟩:=ud mU l;unfold iU
 exact Ev.gl 0 zz ai8.ok [] [(0,{n:=l.length,E:=λk=>[(0,strs l),(3,B (A k)),(4,I k)],K:=λk=>[(15,[.i (.cells [bh (nx l k)])]),(17,[.ev (Io (nx l k))])]})]
theorem Nr (l:List Wd):Ev ad 181 [strs l] (I (cJ l)):=by unfold cJ;exact Ev.gg akS.ok [(7,[.ev (Ge l)])] []
theorem Un (p:Part):Ev ad 280 [.agg p.ao] (B p.roomy):=by unfold Part.roomy;have e:=List.length_eq_zero_iff (l:=p.words);exact Ev.gg ajM.ok [(1,[.i .bY])] []
theorem WE (p:Part)(b:p.wf):Ev ad 172 [.agg p.ao] (I (mH p)):=by
 have d:=wf_i64 b.Xp b.lo1;have c:=wf_i64 b.uT b.MR;have a:=wf_i64 (n:=0) aG aG
 obtain⟨r,e⟩: ∃r,mH p=r:=⟨_,zz⟩;rw[e];unfold mH at e
 have f:(ae 0 3 [p.lo,p.hi]||decide (p.hi=0))=(ae 0 3 [p.lo]||ae 1 3 [p.hi]):=by rw[cb];simp [ae];omega
 have h:p.roomy=decide (p.words=[]):=rfl;rw[f]at e;clear f
 refine di aiq.ok (kh [(1,[.i .bY]),(9,[.ev (Ge p.words)]),(12,[.ev (Un p)]),(17,[.i (.op (B (!decide (p.lo=0/\p.hi=0))))]),(21,[.ev (cO p.lo 0 3)]),(27,[.ev (cO p.hi 1 3)])]) (lh []) ?_
 repeat' first|apply aN|apply aM|apply aL|apply ax|apply az|(intro g;(try simp only[nL]at g);(try contradiction))
 all_goals first|exact gi _|exact⟨PR (neg:=true) d c a a rfl rfl⟩
theorem JF (s:Wd):cJ [s]=if mU s=true then 0 else 6:=by unfold cJ iU;simp
theorem Rb (l:List Wd)(k:Nat)(s:Wd):Ev ad 180 [.sl 1 ((l.map λs=>[bh s]).take k),bh s] (I (bM (λx=>x==s) (l.take k) 0)):=by rw[<-eT];exact Dt _ _
theorem Oo (l:List Wd)(s:Wd):(0<=bM (λx=>x==s) l 0)↔l.contains s=true:=by
 have h:=qz (λx=>x==s) l 0 (by omega);have e:(l.any λx=>x==s)=l.contains s:=by rw[cb];simp
 rw[<-e,<-h];simp
theorem abt (a:cQ)(w:a.wf):Ev ad 85 [.agg a.ao] (I (dA a 5)):=by
 obtain⟨r,b⟩: ∃r,dA a 5=r:=⟨_,zz⟩;rw[b];have b:(if (a.ix.length:Int)≠a.ch.wo then(3:Int)else(aB (Kj a) a.ix.length 0).2)=r:=b
 obtain⟨A,a0,a1,e,f⟩:=fO (Kj a) a.ix.length;generalize aB (Kj a) a.ix.length 0=p at *
 have n1: ∀k,k<a.ix.length->Kj a k=if mU (nx a.ix k)=true then if 0<=bM (λx=>x==nx a.ix k) (a.ix.take k) 0 then 5 else 0 else 6:=λk h=>by rw[Ig h,JF];simp only[Oo];cases mU (nx a.ix k)<;>simp
 have c:=w.ix
 refine di S85.ok (kh [(1,[.i .bY])]) (lh [(0,{n:=a.ix.length,E:=λk=>[(1,.pi a.ao),(3,I k)],I:=A,K:=λk=>[(21,[.i (.cells [bh (nx a.ix k)])]),(23,[.ev (Io (nx a.ix k))]),(32,[.i (.cells [bh (nx a.ix k)])]),(34,[.ev (Rb a.ix k (nx a.ix k))])]})]) ?_
 repeat' first|apply aN|apply aM|apply aL|apply ax|apply az|(intro d;(try simp only[nL]at d);(try contradiction))
 all_goals try first|exact fo _|exact gi _
section
variable {r:Option Nat}{N:Nat}{env:Env}{H:av}{D:List Nat}{dst:Option Nat}{K:Env->av->List Nat->Prop}{x y:Operand}{T:TypeId}{a b:Int}
theorem aO.agd (hx:bG env x=I a)(hy:bG env y=I b)(k:K (cP env dst (I (ej.wrap (a+b)))) H D):aO ad r N (.bin .add T x y) dst env H D K:=aO.G5 hx hy (λw=>by simp only[binOp,hr,ne_eq,not_true_eq_false,if_false,ho]) k
theorem aO.ags (hx:bG env x=I a)(hy:bG env y=I b)(k:K (cP env dst (I (ej.wrap (a*b)))) H D):aO ad r N (.bin .mul T x y) dst env H D K:=aO.G5 hx hy (λw=>by simp only[binOp,hr,ne_eq,not_true_eq_false,if_false,ho]) k
end
def mv (ix l:List Wd):Nat->Int×Int
 |0=>(0,1)
 |k+1=>(if 0<=bM (λx=>x==nx ix k) l 0 then ej.wrap ((mv ix l k).1+(mv ix l k).2) else (mv ix l k).1,ej.wrap (2*(mv ix l k).2))
theorem acB (a:cQ)(w:a.wf)(l:List Wd):Ev ad 182 [.agg a.ao,strs l] (I (mv a.ix l a.ix.length).1):=by
 have d:=w.ix;have c: ∀k,(mv a.ix l (k+1)).1=if 0<=bM (λx=>x==nx a.ix k) l 0 then ej.wrap ((mv a.ix l k).1+(mv a.ix l k).2) else (mv a.ix l k).1:=λk=>rfl;have e: ∀k,(mv a.ix l (k+1)).2=ej.wrap (2*(mv a.ix l k).2):=λk=>rfl
 refine Ev.intro ams.ok ?_;refine bE [.bY] zz aK ?_;refine aJ zz ?_;refine aU.seq (aU.seq ?_);refine cZ zz ?_
 refine cj True (el [(5,I (mv a.ix l a.ix.length).1)]) [] [] ?_ (λ_ _=>by refine aJ zz ?_;refine aU.ret (aD ?_);rfl)
 refine gf (λk:Nat=>k<=a.ix.length) (λk=>el [(1,strs l),(2,.pi a.ao),(5,I (mv a.ix l k).1),(6,I (mv a.ix l k).2),(7,I k)]) (λk=>a.ix.length-k) 0 (dk _) eL ?_
 intro k hk;refine aU.seq (aU.seq ?_);refine cZ zz ?_;refine aU.ite zz (λhc=>?_) (λhc=>?_)
 ·simp only[bk,decide_eq_true_eq]at hc;have hc:k<a.ix.length:=by omega
  refine aU.skip ?_;refine dw True (el [(1,strs l),(2,.pi a.ao),(5,I (mv a.ix l (k+1)).1),(6,I (mv a.ix l (k+1)).2),(7,I k)]) [] [] ?_ (λ_ _=>by refine fE zz ⟨by omega,zq⟩ ?_;exact⟨k+1,hc,by omega,eL⟩)
  refine eZ True (el [(1,strs l),(2,.pi a.ao),(5,I (mv a.ix l (k+1)).1),(6,I (mv a.ix l k).2),(7,I k)]) [] [] ?_ ?_
  ·refine aU.seq ?_;refine kn [.cells [bh (nx a.ix k)],.ret (I (bM (λx=>x==nx a.ix k) l 0))] zz ⟨by first|exact mR hc|exact⟨af,mR hc⟩,Dt _ _,trivial⟩ ?_
   refine aU.ite zz (λb=>?_) (λb=>?_)
   ·have b:0<=bM (λx=>x==nx a.ix k) l 0:=of_decide_eq_true b;refine aU.ops (lY 2 zz zz (ah (aO.agd zz zz ?_)));refine gk zz ?_;exact⟨(),zq,bO.el ⟨zz,zz,by rw[c,zy b];rfl,zz,zz,zq⟩⟩
   ·have b: ¬0<=bM (λx=>x==nx a.ix k) l 0:=of_decide_eq_false b;exact aU.skip ⟨(),zq,bO.el ⟨zz,zz,by rw[c,zj b];rfl,zz,zz,zq⟩⟩
  intro _ _;refine aU.ops (lY 1 zz zz (ah (aO.ags zz zz ?_)));refine gk zz ?_;exact⟨(),zq,bO.el ⟨zz,zz,zz,zz,zz,zq⟩⟩
 ·simp only[bk,decide_eq_false_iff_not]at hc;have hc:k=a.ix.length:=by omega
  exact aU.exit ⟨(),zq,bO.el ⟨by rw[hc];rfl,zq⟩⟩
def leR (a:cQ)(i:Nat):Int:=if cJ (nx a.le i)≠0 then cJ (nx a.le i) else if (mv a.ix (nx a.le i) a.ix.length).1≠(nx a.ch.co i).wo then 2 else 0
def Zi (a:cQ):Int:=if a.le.length≠a.ch.co.length then 3 else(aB (leR a) a.le.length 0).2
theorem abZ (a:cQ)(w:a.wf):Ev ad 86 [.agg a.ao] (I (Zi a)):=by
 obtain⟨r,b⟩: ∃r,Zi a=r:=⟨_,zz⟩;rw[b];unfold Zi at b
 obtain⟨A,a0,a1,f,h⟩:=fO (leR a) a.le.length;generalize aB (leR a) a.le.length 0=p at *
 have n1: ∀k,leR a k=if cJ (nx a.le k)≠0 then cJ (nx a.le k) else if (mv a.ix (nx a.le k) a.ix.length).1≠(nx a.ch.co k).wo then 2 else 0:=λk=>rfl
 have c:=w.le;have e:=λk=>acB a w (nx a.le k)
 refine di S86.ok (kh [(1,[.i .bY])]) (lh [(0,{n:=a.le.length,E:=λk=>[(1,.pi a.ao),(3,I k)],I:=A,K:=λk=>[(23,[.i (.cells [strs (nx a.le k)])]),(25,[.ev (Nr (nx a.le k))]),(70026,[.g 28 (cJ (nx a.le k)==0) true]),(33,[.i (.cells [strs (nx a.le k)])]),(35,[.ev (e k)]),(40,[.i (.cells (nx a.ch.co k).ao)])]})]) ?_
 repeat' first|apply aN|apply aM|apply aL|apply ax|apply az|(intro d;(try simp only[nL]at d);(try contradiction))
 all_goals try first|exact fo _|exact⟨beq_iff_eq.2 bB⟩|exact⟨beq_eq_false_iff_ne.2 bB⟩|exact⟨⟨by simp_all,af,mR af⟩⟩|exact gi _
def qy (m:gO)(i:Nat):Bool:=(nx m.wo i).ca&&m.wo.all λw=> !(w.ca&&w.ba==(i:Int))
theorem acq (m:gO)(hl:m.wo.length<=1000){i:Nat}(h:i<m.wo.length):Ev ad 186 [.agg m.ao,I i] (B (qy m i)):=by
 unfold qy
 obtain⟨f,a⟩: ∃f:rc->Bool,f=λw=> !(w.ca&&w.ba==(i:Int)):=⟨_,zz⟩;rw[<-a];have c: ∀w,f w= !(w.ca&&w.ba==(i:Int)):=λw=>by rw[a]
 obtain⟨A,a0,a1,b⟩:=ud f m.wo
 exact Ev.gg akh.ok [(2,[.i .bY]),(10,[.i (.cells (nx m.wo i).ao)])] [(0,{n:=m.wo.length,E:=λk=>[(1,I i),(2,.pi m.ao),(5,B ((nx m.wo i).ca&&A k)),(6,I k)],K:=λk=>[(25,[.i (.cells (nx m.wo k).ao)]),(32,[.i (.cells (nx m.wo k).ao)])]})]
def soR (w:rc)(L:List Int):Bool:=if (L.length:Int)<=w.su then true else if w.sa=0 then decide (nx L w.su.toNat=w.of) else if w.sa=1 then decide (nx L w.su.toNat≠w.of) else if (L.length:Int)<=w.of then true else if w.sa=2 then decide (nx L w.su.toNat=nx L w.of.toNat) else decide (nx L w.su.toNat≠nx L w.of.toNat)
theorem adf (w:rc)(L:List Int)(b:0<=w.su)(c:0<=w.of):Ev ad 187 [.agg w.ao,ints L] (B (soR w L)):=by
 obtain⟨r,a⟩: ∃r,soR w L=r:=⟨_,zz⟩;rw[a];unfold soR at a
 exact Ev.gg ai3.ok [(2,[.i .bY]),(17,[.i (.cells [I (nx L w.su.toNat)])]),(27,[.i (.cells [I (nx L w.su.toNat)])]),(70034,[.g 39 (decide ((L.length:Int)<=w.of)) false]),(43,[.i (.cells [I (nx L w.su.toNat)])]),(48,[.i (.cells [I (nx L w.of.toNat)])]),(70052,[.g 57 (decide ((L.length:Int)<=w.of)) false]),(61,[.i (.cells [I (nx L w.su.toNat)])]),(66,[.i (.cells [I (nx L w.of.toNat)])])] []
theorem D4 {n:Nat}(b:n<=6)(hg:yI n p):Small p:=by obtain⟨_,a⟩:=se b hg;exact⟨by rw[hg.len];omega,λi=>by have:=a i;omega⟩
theorem Y1 (s:Sp)(a b:Int):Ev ad 283 [.agg (jr s),I a,I b] (I (F0 s a b)):=by
 obtain⟨r,c⟩: ∃r,F0 s a b=r:=⟨_,zz⟩;rw[c];unfold F0 at c;rw[Dn]at c
 exact Ev.gg ajn.ok [(11,[.ev (cO s.1 a b)]),(18,[.ev (cO s.2 a b)])] []
theorem JP (t:be)(x:fw)(at_:Int)(e: -9223372036854775807<=t.tj)(f:t.tj<=9223372036854775807)(c:t.ms.length<=1000)(d:t.gK.ss.length<=1000):Ev ad 174 [.agg t.ao,.agg x.ao,I at_] (I (nX t x at_)):=by
 obtain⟨r,a⟩: ∃r,nX t x at_=r:=⟨_,zz⟩;rw[a]
 have b:nX t x at_=if ae 0 ((t.gK.ss.length:Int)-1) [x.sp]=true\/ae (-1) (t.tj-1) [x.v]=true\/ae (-1) ((t.ms.length:Int)-1) [x.eY]=true then 4
   else if F0 (x.lo,x.hi) 0 199≠0 then F0 (x.lo,x.hi) 0 199 else if x.eY=at_ then 2 else 0:=by
  unfold nX F0;simp only[c8,or_assoc];split
  ·rfl
  ·grind
 rw[a]at b
 exact Ev.gg aiA.ok [(15,[.ev (cO x.sp 0 (((t.gK.ss.map cL.ao).length:Int)-1))]),(23,[.ev (cO x.v (-1) (t.tj-1))]),(33,[.ev (cO x.eY (-1) (((t.ms.map fw.ao).length:Int)-1))]),(38,[.ev (Y1 (x.lo,x.hi) 0 199)])] []
theorem xi (h:Small p):Ev ad 285 [ints (dt p)] (I (eW p:Nat)):=by
 obtain⟨A,a0,a1,a⟩: ∃A:Nat->Int,A 0=0/\A p.length=(eW p:Nat)/\ ∀k,k<p.length->aP p k<=1000/\0<=A k/\A k<=1001/\A (k+1)=if A k<(aP p k:Int)+1 then (aP p k:Int)+1 else A k:=⟨λk=>(eW (p.take k):Nat),zz,by dsimp only;rw[ew],λk hk=>by dsimp only;have:=A5 h.lt k (by omega);have:=h.lt k;have hs:=sf (p.take k) (aP p k);rw[<-nI p hk]at hs;rw[hs];split<;>omega⟩
 have hl:=rV p;rw[<-a1];exact Ev.gl 0 zz alR.ok [] [(0,{n:=p.length,E:=λk=>[(0,ints (dt p)),(3,I (A k)),(4,I k)],K:=λk=>[(14,[.i (.cells [I (aP p k:Nat)])])]})]
theorem Ux (hl:p.length<=1000)(a:Nat):Ev ad 287 [ints (dt p),I (a:Nat)] (ints (dt (xE p a))):=by
 obtain⟨C,c0,c1,c,b⟩: ∃C:Nat->List (List AV),C 0=[]/\(∀k,k<=p.length->(C k).length<=k)/\(∀k,k<p.length->C (k+1)=if aP p k=a then C k++[[I k]] else C k)/\C p.length=(dt (xE p a)).map λx=>[I x]:=⟨λk=>(dt (Z6 p a k)).map λx=>[I x],zz,λk _=>by simpa [dt] using Z9 p a k,λk hk=>by show (dt (Z6 p a (k+1))).map _=_;rw[Jc];by_cases e:aP p k=a<;>simp [e,dt],zz⟩
 have h:=rV p;rw[show ints (dt (xE p a))=.sl 1 _ from rfl,<-b];exact Ev.gg al6.ok [] [(0,{n:=p.length,E:=λk=>[(0,ints (dt p)),(1,I a),(5,.aT 3 1 (C k)),(6,I k)],K:=λk=>[(15,[.i (.cells [I (aP p k:Nat)])])]})]
theorem EV (b:List Sp)(c:b.length<=1000):Ev ad 291 [Kw b] (B (bR b)):=by
 obtain⟨A,a0,a1,a⟩:=WD (λs:Sp=>decide (s.1>s.2)) b;unfold bR
 exact Ev.gg akm.ok [] [(0,{n:=b.length,E:=λk=>[(0,Kw b),(3,I k)],I:=λk=>A k=false,K:=λk=>[(12,[.i (.cells (jr (nx b k)))]),(17,[.i (.cells (jr (nx b k)))])]})]
theorem WU (x:sr)(a0:0<=x.a)(a1:x.a<p.length)(c:0<=x.b)(d:x.b<p.length):Ev ad 289 [.agg x.ao,ints (dt p)] (B (Hy p x)):=by
 have e:ad.underlying 4=some .bool:=by kernel_rfl
 unfold Hy;exact Ev.gg aiG.ok [(8,[.i (.cells [I (aP p x.a.toNat:Nat)])]),(13,[.i (.cells [I (aP p x.b.toNat:Nat)])])] []
theorem Rk (n:Nat)(w:n<=6):Ev ad 183 [I (n:Nat)] (lists (fg n)):=by
 obtain⟨C,a⟩: ∃C:Nat->List (List Nat),∀i,fg i=C i:=⟨_,λ_=>rfl⟩
 have hg: ∀i k,i<n->k<(C i).length->Small (nx (C i) k)/\(nx (C i) k).length<=6/\eW (nx (C i) k)<=6:=λi k e d=>by
  have h:=jc (n:=i) (p:=nx (C i) k) (by rw[a];exact dh d);have:=h.len;have:=h.le;exact⟨D4 (by omega) h,by omega,by omega⟩
 obtain⟨B,j,m,b2,o,q⟩: ∃B:Nat->Nat->Nat->List (List AV),(∀i,B i 0 0=[])/\(∀i k v,B i k (v+1)=B i k v++[[.sl 1 ((dt (nx (C i) k)).map (λx=>[I x])++[[I v]])]])/\(∀i k,k<(C i).length->B i k (eW (nx (C i) k)+1)=B i (k+1) 0)/\(∀i,B i (C i).length 0=(C (i+1)).map λc=>[ints (dt c)])/\∀i k v,i<n->k<(C i).length->v<=eW (nx (C i) k)+1->(B i k v).length<=10000:=by
  refine⟨λi k v=>(((C i).take k).flatMap pM++(bs v).map λu=>nx (C i) k++[u]).map λc=>[ints (dt c)],λi=>rfl,λi k v=>by simp [b6,dt],λi k h=>by dsimp only;rw[abw h];simp [pM],λi=>by dsimp only;rw[<-a (i+1),List.take_of_length_le (b0 _),<-a];simp [fg],λi k v e d s=>?_⟩
  have:=xM (f:=pM) (b:=7) (l:=(C i).take k) λx hx=>by
   have h:=jc (n:=i) (p:=x) (by rw[a];exact eS hx);have:=h.le;simp [pM];omega
  have:=(hg i k e d).2.2;have:=pB (n:=i) (by omega);rw[a]at this;simp only[bk,ek,et,List.length_take]at *;omega
 have hc: ∀i k,i<n->k<(C i).length->Ev ad 285 [ints (dt (nx (C i) k))] (I (eW (nx (C i) k):Nat)):=λi k e d=>xi (hg i k e d).1
 have r:[[ints []]]=(C 0).map λc=>[ints (dt c)]:=by rw[<-a];rfl
 have hl:=λi k=>rV (nx (C i) k);have h4: ∀i,i<=n->(C i).length<=1000:=λi h=>by rw[<-a];exact pB (by omega)
 rw[a];clear a
 refine Ev.intro ak5.ok ?_;refine aJ zz ?_;refine bE [.aT] zz ⟨zz,zq⟩ ?_;refine aU.oj (bO.Va (t:=3) [[ints []]] zz ⟨⟨.nil 1,zq⟩,zq⟩) ?_
 refine gE [] [(0,{n:=n,E:=λi=>[(0,I n),(3,lists (C i)),(4,I i)],L:=λi=>[(2,{n:=(C i).length,E:=λk=>[(0,I n),(3,lists (C i)),(4,I i),(5,.aT 71 1 (B i k 0)),(6,I k)],L:=λk=>[(4,{n:=eW (nx (C i) k)+1,E:=λv=>[(0,I n),(3,lists (C i)),(4,I i),(5,.aT 71 1 (B i k v)),(6,I k),(7,I v)],K:=λv=>[(23,[.i (.cells [ints (dt (nx (C i) k))])]),(25,[.i (.ret (I (eW (nx (C i) k):Nat)))]),(30,[.i .aT]),(33,[.i (.cells [ints (dt (nx (C i) k))])]),(37,[.i .bY]),(39,[.fz 38])]})]})]})] ?_
 repeat' first|apply aN|apply aM|apply aL|apply ax|apply az|(intro g;(try simp only[nL]at g);(try contradiction))
 all_goals first|exact⟨hc _ _ af af⟩|exact gi _
theorem X7 {t:be}(h:t.OK)(hl:p.length=t.ms.length):Ev ad 290 [.agg t.ao,ints (dt p)] (B (BO t p)):=by
 obtain⟨r,D⟩: ∃r,BO t p=r:=⟨_,zz⟩;have hk:=HD (t:=t) (p:=p);rw[D]at hk ⊢
 obtain⟨X,e⟩: ∃X:Nat->fw, ∀k,nx t.ms k=X k:=⟨_,λ_=>rfl⟩
 obtain⟨Q,o⟩: ∃Q:Nat->Nat, ∀k,aP p (X k).eY.toNat=Q k:=⟨_,λ_=>rfl⟩
 obtain⟨R,q⟩: ∃R:Nat->Nat, ∀k,aP p k=R k:=⟨_,λ_=>rfl⟩
 have f: ∀k,xG t p k↔((X k).eY≠ -1->Q k≠R k/\ ∀j,j<k->(X j).eY≠ -1->R j=R k->Q k=Q j):=λk=>by simp only[<-o,<-q,<-e];rfl
 have u: ∀k,k<t.ms.length->(t.ms.map fw.ao)[k]? =some (X k).ao:=λk hk=>by rw[<-e];exact mR hk
 have s: ∀k,k<t.ms.length->((dt p).map λx=>[I x])[k]? =some [I (R k:Nat)]:=λk hk=>by rw[<-q];exact rI _ (by omega)
 have v: ∀k,k<t.ms.length->(X k).eY≠ -1->0<=(X k).eY/\((dt p).map λx=>[I x])[(X k).eY.toNat]? =some [I (Q k:Nat)]:=λk hk F=>by have:=h.R2 k _ (bP hk);rw[e]at this;have a:=this.zL;have b:=this.zl;exact⟨by omega,by rw[<-o];exact rI _ (by omega)⟩
 obtain⟨Z,d⟩: ∃Z:Nat->Prop, ∀k,Z k↔ ∀i,i<k->xG t p i:=⟨_,λ_=>hD⟩
 obtain⟨Y,c⟩: ∃Y:Nat->Nat->Prop, ∀k j,Y k j↔ ∀i,i<j->(X i).eY≠ -1->R i=R k->Q k=Q i:=⟨_,λ_ _=>hD⟩
 have hm:=h.zf;have J:Z 0:=(d 0).2 λi h=>by omega
 have G: ∀k,Y k 0:=λk=>(c k 0).2 λi h=>by omega
 have P:Z t.ms.length->r=true:=λz=>hk.2 ((d _).1 z)
 have M: ∀k,Z k->((X k).eY≠ -1->Q k≠R k/\Y k k)->Z (k+1):=λk z g=>(d _).2 λi hi=>by rcases c7.1 hi with h|rfl;exact(d k).1 z i h;exact(f _).2 λh=>⟨(g h).1,(c _ _).1 (g h).2⟩
 have N: ∀k,k<t.ms.length->(X k).eY≠ -1->Q k=R k->r=false:=λk h l m=>by cases r;rfl;exact absurd m ((f k).1 (hk.1 zz k h) l).1
 have O: ∀k j,k<t.ms.length->(X k).eY≠ -1->j<k->(X j).eY≠ -1->R j=R k->Q k≠Q j->r=false:=λk j h l m w h4 A=>by cases r;rfl;exact absurd (((f k).1 (hk.1 zz k h) l).2 j m w h4) A
 have H: ∀k j,Y k j->((X j).eY≠ -1->R j=R k->Q k=Q j)->Y k (j+1):=λk j y g=>(c _ _).2 λi hi=>by rcases c7.1 hi with h|rfl;exact(c k j).1 y i h;exact g
 clear hk d c h f e o q
 refine di ajH.ok (kh []) (lh [(0,{n:=t.ms.length,E:=λk=>[(1,ints (dt p)),(2,.pi t.ao),(5,I k)],I:=Z,K:=λk=>[(19,[.i (.cells (X k).ao)]),(26,[.i (.cells [I (Q k:Nat)])]),(30,[.i (.cells [I (R k:Nat)])])],L:=λk=>[(2,{n:=k,E:=λj=>[(1,ints (dt p)),(2,.pi t.ao),(5,I k),(6,I (X k).eY),(7,I j)],I:=Y k,K:=λj=>[(70044,[.g 46 ((X j).eY != -↑(0+1)) true,.g 57 ((X j).eY != -↑(0+1)&&(((R j:Nat):Int)==(R k:Nat))) true]),(41,[.i (.cells (X j).ao)]),(49,[.i (.cells [I (R j:Nat)])]),(53,[.i (.cells [I (R k:Nat)])]),(60,[.i (.cells [I (Q k:Nat)])]),(64,[.i (.cells [I (Q j:Nat)])])]})]})]) ?_
 repeat' first|apply aN|apply aM|apply aL|apply ax|apply az|(intro C;(try simp only[nL]at C);(try contradiction))
 all_goals first|exact fi _|exact⟨af,u _ af⟩|exact⟨af,s _ af⟩|exact⟨v _ af bB⟩|(refine Ob.mk ?_;(repeat' apply az)<;>first|exact s _ af|grind)
end Go.Px
