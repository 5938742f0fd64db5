/- Part 8 of the proof of a statement of this seat (a logic of pure contracts; the functions; their contracts). No conditions. -/
import Derived.Test.YtbpalbakembgiaaGreatDoorA7
import Derived.Lib.Builder
import Derived.Lib.Walk
import Derived.Laws.Externs
set_option linter.all false
open And renaming intro->dn
open Array renaming getElem?_modify->gm
open Bool renaming eq_iff_iff->fx,false_eq_true->hD
open ByteArray renaming extract->e8,mk->hO,ext->j6,data_extract->kd,data_append->ki
open Classical renaming not_not->er
open Go.Extern.AbiNoEscape renaming same->kb
open Go.IntKind renaming i64->kj
open Go.Lit renaming int->cy
open Go.Oper renaming upon_value->ga
open Go.Program renaming keyLits->ek
open Go.Proofs.Tryz renaming prog->an,underlying3->ec,underlying128->hH,underlying237->hI,underlying305->hJ,underlying411->hM,underlying440->hN,func197->hX,ntmps197->ka
open Go.Result renaming andThen->ht
open Go.Value renaming string->ey,formed->e3,cells->fk,int->hv
open Go.Value.int renaming injEq->j2
open Go.World renaming setCell->hB
open Int renaming toNat_natCast->bs,natCast_nonneg->e4,ediv_le_self->fr,ediv_nonneg->fy,le_of_lt->hP,pow_pos->hY,natCast_inj->h6
open List renaming length_map->ap,nil_sublist->az,range->bk,map_append->bx,length_append->bA,append_nil->bI,mem_of_getElem?->cc,length_cons->cd,drop_eq_nil_of_le->cr,append_assoc->cx,perm_append_comm->cA,replicate->cB,length_replicate->cD,getElem?_eq_some_iff->cR,range_succ->c7,length_nil->de,mem_filter->dk,length_filter_le->ds,headD_cons->ej,mem_singleton->en,sublist_cons_self->et,take_of_length_le->eu,take_append_drop->eM,drop_append_of_le_length->eS,mem_append->eT,mem_map->e0,mem_range->e6,tail_cons->e7,ext_getElem?->e9,foldl_append->fe,getElem?_map->ff,nodup_append->fj,length_eq_zero_iff->fs,nil_append->fD,getElem?_eq_none->gx,mem_iff_getElem?->gM,count_le_length->gQ,mem_append_left->gR,flatMap_append->hz,flatMap_cons->hQ,getElem?_set->hT,length_range->hU,foldl_cons->h8,drop_drop->j4,foldl_nil->j5,map_cons->j7,map_take->j8
open List.Nodup renaming length_le_of_subset->eP,sublist->kl
open List.Perm renaming swap->e5,refl->j3
open List.Sublist renaming refl->cb,trans->kp
open List.cons renaming injEq->h7,inj->ku
open Nat renaming pow_le_pow_right->bl,le_refl->c8,le_trans->ea,pow_lt_pow_right->gX,lt_of_lt_of_le->hF,add_zero->hV,or_lt_two_pow->hW,mul_one->hZ,zero_le->h0,min_eq_left->h9,two_pow_pos->j0
open Option renaming map_eq_some_iff->ew,getD_none->fu,getD_some->fv
open Option.some renaming inj->j1
open Prod.mk renaming injEq->j9
namespace Go.Px
variable {p q:List Nat}{n k N z:Nat}{a:gO}{L:List (List Nat)}{v s w:Int}{x u:Operand}{c:Env}{e A:Type}{H:av}{h:ln}{r:Int×Int}{i:List Int}{j:Nat->Int}{F:List Wd}{o:Form}{t:dp}
open Go.Proofs Go.MapKept
abbrev Ff (p:List Nat):Value:=.agg #[.int .i64 (aP p 0:Nat),.int .i64 (aP p 1:Nat),.int .i64 (aP p 2:Nat),.int .i64 (aP p 3:Nat),.int .i64 (aP p 4:Nat)]
def Lj (m:gO)(p:List Nat):Value×AV:=(Ff p,.agg (Al (vZ m (aP p) m.su.length)))
def EF (m:gO)(x:List (List Nat))(i:Nat):Nat:=if i<m.su.length then dI x i else 0
theorem aek (h:0<=s)(n:Nat):(((((s/2^((n:Nat):Int).toNat).toNat &&& (1:Int).toNat:Nat):Int))==0)= !s.toNat.testBit n:=bD
theorem XE {m:gO}{came:Nat}(h:k∈wR m came p):k<m.cl.length:=e6.1 (dk.1 h).1
def mch (m:gO)(came k:Nat)(p:List Nat)(c:Nat):List (List Nat):=if (JB m p.length c&&yA m came (aP (p++[c])) p.length)=true then du (wR m came) k (p++[c])else[]
theorem Ub (m:gO)(came k:Nat)(p:List Nat):du (wR m came) (k+1) p=(bk m.cl.length).flatMap (mch m came k p):=by show (wR m came p).flatMap _=_;unfold wR;rw[qw];rfl
section
variable (m:gO) (came b g l bt bn:Nat) (lo:dp)
def acs:AV:=.fn (.func 383) [] [.pi [.po b 0],.pi [Yv l],.po bt 0,.po bn 0]
abbrev LB (x:List (List Nat)):av:=[(b,.cells 240 (m.ao++I came::.mo g::dX (EF m x))),(g,.map (x.map (Lj m)))]
abbrev MH (a:Nat->Nat)(x:List (List Nat)):av:=(bt,.cells 237 (dX a))::(bn,.cells 200 [acs b l bt bn])::(l,lo)::LB m came b g x
def YM (L:List (List Nat)):Prop:= ∀a p c,L=a++p::c->Gl an l [.agg (dX (aP p))] ((l,lo)::LB m came b g a) (λres Ho=>res=B true/\Ho=(l,lo)::LB m came b g (a++[p]))
abbrev mE (p:List Nat)(a:List (Nat×AV):=[]):List (Nat×AV):=(0,I p.length)::(1,.pi [.po b 0])::(2,.pi [Yv l])::(3,.po bt 0)::(4,.po bn 0)::a
end
set_option maxHeartbeats 2000000 in
theorem Vx {m:gO}(ok:m.OK){came b g l bn:Nat}{lo:dp}(D:came<9223372036854775808)(hy:YM m came b g l lo L): ∀(k:Nat) (p:List Nat) (f u:List (List Nat)),p.length+k=m.su.length->L=f++du (wR m came) k p++u->
  iM an 383 [I p.length,.pi [.po b 0],.pi [Yv l],.po z 0,.po bn 0] (MH m came b g l z bn lo (aP p) f) (λr Ho=>r=B true/\Ho=MH m came b g l z bn lo (aP p) (f++du (wR m came) k p)):=by
 have s5:=ok.s5;have c4:=ok.c4;have Q:((m.su.map kW.ao).length:Int)=m.su.length:=aF;have C:((m.cl.map λs=>[bh s]).length:Int)=m.cl.length:=aF;intro k;induction k with
 |zero=>
  intro p f u hl v;rw[hV]at hl;have G:=hy f p u (by rw[v];simp [du]);refine bH aj0.ok<|aJ zz<|aU.scope (aa (aa ?_))
  refine kn [.at 3] zz cI<|aC zz bD<|aa (aA ?_)
  refine mO [.at 0] 2 zz zz cI<|aR (cM (cA (l₁:=[_,_])))<|ah (cq zz (show Sr an (.yield l) [] _ _ _ from⟨zz,G⟩) zz zz (aW _) zz ?_)
  rintro U M ⟨rfl,rfl⟩;refine aR (cM cA)<|gk zz ?_;exact ab ⟨.inr zz,_,_,_,zz,.one (.tmp zz zz),gJ,cb _⟩
 |succ k R=>
  intro p f u hl v;have w:p.length<5:=af;obtain⟨s,hs⟩:=bq (l:=m.su) (k:=p.length) af;have F:=ok.su s (cc hs);rw[Ub]at v ⊢;generalize A:mch m came k p=ch at v;refine bH aj0.ok<|aJ zz<|aU.scope (aa (aa ?_))
  refine kn [.at 3] zz cI<|aH zz bD<|aa (aU.label ?_)
  refine aa (aa ?_);refine kn [.at 3] zz cI ?_;let h:Nat->List (List Nat):=λn=>f++(bk n).flatMap ch;refine aU.iN (λa=> ∀i,i≠p.length->a i=aP p i) (λ_=>el (mE b l z bn p)) (λa=>MH m came b g l z bn lo a (h m.cl.length)) (λ_=>[]) ?_ ?_
  ·refine bJ (λy=>y.1<=m.cl.length/\ ∀i,i≠p.length->y.2 i=aP p i) (λy=>el (mE b l z bn p [(23,strs m.cl),(24,I m.cl.length),(25,I y.1)])) (λy=>MH m came b g l z bn lo y.2 (h y.1)) (λ_=>[]) (λy=>m.cl.length-y.1) (0,aP p) ⟨h0 _,λ_ _=>rfl⟩
    (ai (aw (by show _=MH m came b g l z bn lo (aP p) (f++[]);rw[bI])) (au ⟨zz,zz,zz,zz,zz,zz,by show I _=I _;rw[C],zz,zq⟩)) ?_
   rintro⟨n,a⟩ ⟨O,ha⟩;simp only at O ha ⊢;refine aJ zz<|aa (aj zz (λhc=>?_) (λhc=>?_))
   ·simp only[nL]at hc;have q:=Xv ok came D (.mo g::dX (EF m (h n))) (aP (p++[n])) p.length;have j:=aek (s:=s.fo) af n;have E:JB m p.length n=s.fo.toNat.testBit n:=(by unfold JB;rw[hs]);have c:ch n=if (JB m p.length n&&yA m came (aP (p++[n])) p.length)=true then du (wR m came) k (p++[n])else[]:=by rw[<-A];rfl
    have t:h (n+1)=h n++ch n:=(by show f++_=f++_++_;rw[nB,cx]);have T:(0:Int)<=s.fo/2^((n:Nat):Int).toNat:=fy af (hP (hY af));have N:s.fo<=16:=(by have S:=bl (n:=2) af c4;have J:((2^m.cl.length:Nat):Int)<=16:=af;rw[Int.natCast_pow]at J;have:=F.2.2.2;simp only[Int.cast_ofNat_Int]at J;omega);have P:s.fo/2^((n:Nat):Int).toNat<=s.fo:=fr _ af;rw[E]at c;generalize yA m came (aP (p++[n])) p.length=x at q c;generalize s.fo.toNat.testBit n=bt at j c;refine ak (aa (ay ?_));refine aJ zz<|nw [.iL 0] zz ⟨fR,⟨zz,zz,zz,zz,by show 0+((p.length:Nat):Int).toNat*1+1<=5;omega⟩,zq⟩<|ag (ai (aw (H':=MH m came b g l z bn lo (aP (p++[n])) (h n)) ?_) (au (l:=mE b l z bn p [(23,strs m.cl),(24,I m.cl.length),(25,I n),(7,I n)]) ⟨zz,zz,zz,zz,zz,zz,zz,zz,zz,zq⟩)) ?_
    show (z,dp.cells _ (bU (dX a) (0+p.length*1) [I (n:Nat)]))::_=_;rw[GI _ _ w,Ia zz ha];refine aa (aU.G2 (Y:=Unit) (λ_=>True) (λ_=>el (mE b l z bn p [(23,strs m.cl),(24,I m.cl.length),(25,I n),(7,I n),(50,B (!(bt&&x)))])) (λ_=>MH m came b g l z bn lo (aP (p++[n])) (h n)) (λ_=>[]) ?_ ?_)
    ·cases bt with
     |false=>refine kD [(44,true)] [.at 3,.cells s.ao] zz (by(and_intros);(all_goals first|exact zk _|((first|exact j|rfl|(simp [hs];done))))) ?_;exact⟨(),zq,eL⟩
     |true=>refine kD [(44,false)] [.at 3,.cells s.ao,.at 0,.H9 [lp m came (.mo g::dX (EF m (h n))),.agg (dX (aP (p++[n]))),I p.length] (B x)] zz (by(repeat' (with_reducible apply dn));(all_goals first|exact zk _|((first|with_reducible exact q|exact j|exact⟨.po (i:=3) rfl,.refl _,.refl _,trivial⟩|(simp [hs];done))))) ?_;exact⟨(),zq,au ⟨zz,zz,zz,zz,zz,zz,zz,zz,zz,by show B _=B _;cases x<;>rfl,zq⟩⟩
    intro _ _;cases o:(bt&&x)with
    |false=>rw[o,zj aG]at c;rw[c,bI]at t;refine aC zz zz (aE ?_);refine fE zz bL ?_;refine⟨(n+1,aP (p++[n])),⟨by simp only;omega,λi hi=>?_⟩,by simp only;omega,ai (aw (by simp only;rw[t])) eL⟩;simp only;rw[kQ];by_cases e:i<p.length;rw[zy e];rw[zj e,zj hi,nH p e]
    |true=>
     rw[o,zy zz]at c;obtain⟨r,K⟩:=lU ch (k:=n+1) (n:=m.cl.length) af;rw[nB]at K;have d:=R (p++[n]) (h n) (r++u) (by rw[bA,List.length_singleton];omega) (by rw[v,K,c];show _=f++_++_++_;simp only[cx]);rw[show ((p++[n]).length:Int)=p.length+1 from aF,<-c,<-t]at d;refine aH zz zz<|aa (aA ?_)
     refine mO [.at 1] 3 zz zz ⟨zz,⟨af,af⟩,zq⟩<|ah (cq (Hin:=MH m came b g l z bn lo (aP (p++[n])) (h n)) (H0:=[]) zz (show iM an 383 _ _ _ from d) zz zz (aW _) aF ?_)
     rintro res H ⟨rfl,rfl⟩;refine gk zz<|aH zz zz<|fE zz bL ?_;refine⟨(n+1,aP (p++[n])),⟨by simp only;omega,λi hi=>?_⟩,by simp only;omega,ai (aw (by simp only;rw[bI])) eL⟩;simp only;rw[kQ];by_cases e:i<p.length;rw[zy e];rw[zj e,zj hi,nH p e]
   simp only[nL]at hc;have e:n=m.cl.length:=af;subst e;exact aE ⟨a,ha,eL⟩
  intro a ha;refine nw [.iL 0] zz ⟨fR,⟨zz,zz,zz,zz,by show 0+((p.length:Nat):Int).toNat*1+1<=5;omega⟩,zq⟩<|ag (aw (H':=MH m came b g l z bn lo (aP p) (h m.cl.length)) ?_) ?_
  show (z,dp.cells _ (bU (dX a) (0+p.length*1) [I (0:Nat)]))::_=_;rw[GI _ _ w,K1 zz ha];refine aJ zz ?_;exact ab ⟨.inr zz,_,_,_,zz,.one (.tmp zz zz),gJ,cb _⟩
section
variable (d:ln) (os:List (List AV)) (es:List (Value×AV)) (l bt bn:Nat)
def adg:AV:=.fn (.func 426) [] [.pi [EJ d os es],.pi [Yv l],.po bt 0,.po bn 0,.pi [.fn (.func 425) [EJ d os es] []]]
abbrev TT (a:Nat->Nat):av:=[(bt,.cells 440 (jJ a)),(bn,.cells 94 [adg d os es l bt bn])]
end
def acJ (l:Nat){X:Type}(f:X->List Nat->J×X)(W:J->X->e->av)(x0:X)(L:List (List Nat)):Prop:=
 ∀a p b,L=a++p::b->(aZ f a x0).1= .go-> ∀g:e,Gl an l [.agg (jJ (aP p)),I (dK p:Nat)] (W .go (aZ f a x0).2 g)
  (λres Ho=> ∃c:e,res=B (f (aZ f a x0).2 p).1.on/\Ho=W (f (aZ f a x0).2 p).1 (f (aZ f a x0).2 p).2 c)
def Xu (d:ln)(os:List (List AV))(es:List (Value×AV))(l bt bn:Nat){X:Type}(W:J->X->e->av)(p:List Nat)(res:J×X)(r:AV)(Ho:av):Prop:=
 ∃(a:Nat->Nat) (b:e),r=B res.1.on/\Ho=TT d os es l bt bn a++W res.1 res.2 b/\(res.1= .go->a=aP p)
section
variable {d:ln} (ok:d.OK) {os:List (List AV)} {es:List (Value×AV)} (K:sQ d es) (l bt bn:Nat) {X M:Type} (f:X->List Nat->J×X) (W:J->X->M->av) (x0:X)
theorem Oh {res:J×X}{env:Env}{a:Nat->Nat}{g:M}(h:env 11=B res.1.on)(ha:res.1= .go->a=aP p):yH an [.tmp 11] (Xu d os es l bt bn W p res) .ret env (TT d os es l bt bn a++W res.1 res.2 g) []:=
 ⟨.inr zz,_,_,_,zz,.one (.tmp h zz),⟨a,g,zz,zz,ha⟩,cb _⟩
abbrev tA5 (d:ln)(os:List (List AV))(es:List (Value×AV))(l bt bn:Nat)(p:List Nat):List AV:=[I p.length,I (nY p:Nat),I (dK p:Nat),.pi [EJ d os es],.pi [Yv l],.po bt 0,.po bn 0,.pi [.fn (.func 425) [EJ d os es] []]]
abbrev tE5 (d:ln)(os:List (List AV))(es:List (Value×AV))(l bt bn:Nat)(p:List Nat)(a:List (Nat×AV):=[]):List (Nat×AV):=(0,I p.length)::(1,I (nY p:Nat))::(2,I (dK p:Nat))::(3,.pi [EJ d os es])::(4,.pi [Yv l])::(5,.po bt 0)::(6,.po bn 0)::(7,.pi [.fn (.func 425) [EJ d os es] []])::a
include ok K
theorem Sm (hy:acJ l f W x0 L): ∀(m:Nat) (p:List Nat) (b Z:List (List Nat)),p.length+m=d.hs.length->(∀k∈p,k<=d.cs.length)->L=b++du (kS d) m p++Z->(aZ f b x0).1= .go->
  ∀g:M,iM an 426 (tA5 d os es l bt bn p) (TT d os es l bt bn (aP p)++W .go (aZ f b x0).2 g) (Xu d os es l bt bn W p (aZ f (b++du (kS d) m p) x0)):=by
 have h4:=ok.h4;have c4:=ok.c4;intro m;induction m with
 |zero=>
  intro p b Z hl hp hL F g;rw[hV]at hl;have b2:=hy b p Z (by rw[hL];simp [du]) F g;have eD:aZ f (b++du (kS d) 0 p) x0=f (aZ f b x0).2 p:=by rw[uB F];exact C7
  rw[eD];refine bH akL.ok<|aJ zz<|aU.scope (aa (aa ?_))
  refine cZ zz<|aC zz bD<|aa (aA ?_)
  refine mO [.at 0] 3 zz zz cI<|aR (cM cA)<|ah (cq zz (show Sr an (.yield l) [] _ _ _ from⟨zz,b2⟩) zz zz (aW _) zz ?_)
  rintro r2 b4 ⟨g',rfl,rfl⟩;refine aR (cM cA)<|gk zz ?_;exact ab (Oh l bt bn W zz (λ_=>rfl))
 |succ m ih=>
  intro p b Z hl hp hL F g;have b6:((d.hs.map qm.ao).length:Int)=d.hs.length:=aF;have b0:((d.cs.map qm.ao).length:Int)=d.cs.length:=aF;have T:p.length<4:=af;have c0:nY p<2^4:=hF (SQ hp) (bl af c4);have b5:dK p<=p.length:=gQ;rw[WJ]at hL ⊢;generalize a9:tch d m p=ch at hL;have z: ∀(k:Nat) (w P:List (List Nat)),k<=d.cs.length->L=w++du (kS d) m (p++[k])++P->(aZ f w x0).1= .go-> ∀g:M,iM an 426 [I (p.length+1),I (nY (p++[k]):Nat),I (dK (p++[k]):Nat),.pi [EJ d os es],.pi [Yv l],.po bt 0,.po bn 0,.pi [.fn (.func 425) [EJ d os es] []]]
    (TT d os es l bt bn (aP (p++[k]))++W .go (aZ f w x0).2 g) (Xu d os es l bt bn W (p++[k]) (aZ f (w++du (kS d) m (p++[k])) x0)):=by
   intro k w P hk a6 a3 g
   have h1:((p++[k]).length:Int)=p.length+1:=aF
   have:=ih (p++[k]) w P bD (λx hx=>bD) a6 a3 g
   unfold tA5 at this
   rw[h1]at this
   exact this
  refine bH akL.ok<|aJ zz<|aU.scope (aa (aa ?_))
  refine cZ zz<|aH zz bD<|aa (aa ?_)
  refine hxH [.iL 0] zz ⟨fR,⟨zz,zz,zz,zz,bD⟩,zq⟩<|ag (ai (aw (H':=TT d os es l bt bn (aP (p++[0]))++W .go (aZ f b x0).2 g) ?_) (au (l:=tE5 d os es l bt bn p) ⟨zz,zz,zz,zz,zz,zz,zz,zz,zq⟩)) ?_
  show (bt,dp.cells _ (bU (jJ (aP p)) (0+p.length*1) [I (0:Nat)]))::_=_;rw[Aa _ _ T,Ia zz (λ_ _=>rfl)];rfl;obtain⟨r0,b9⟩:=lU ch (k:=0) (n:=d.cs.length) af;have U:=z 0 b ((bk d.cs.length).flatMap ch++Z) af bD F g;rw[Dr,zy zz,yW,zy zz]at U;refine aa (aA ?_);refine mO [.at 1] 6 zz zz ⟨zz,⟨af,af⟩,⟨af,af⟩,zq⟩<|ah (cq (Hin:=TT d os es l bt bn (aP (p++[0]))++W .go (aZ f b x0).2 g) (H0:=[]) zz (show iM an 426 _ _ _ from U) zz zz (aW _) aF ?_)
  rintro res a0 ⟨a',g',rfl,rfl,S⟩;refine gk zz ?_;generalize R:aZ f (b++du (kS d) m (p++[0])) x0=R0 at S;cases hj:R0.1.on with
  |false=>
   have u:R0.1≠.go:=λe=>(by rw[e]at hj;cases hj);refine aC zz zz<|ag (aw (bI _))<|aJ zz ?_
   have v:aZ f (b++(du (kS d) m (p++[0])++(bk d.cs.length).flatMap ch)) x0=R0:=(by rw[<-cx,pg (by rw[R];exact u),R]);rw[v];refine ab (Oh l bt bn W ?_ (λe=>absurd e u));show B false=B _;rw[hj]
  |true=>
  have J:=QB.1 hj;refine aH zz zz<|ag (ai (aw (H':=TT d os es l bt bn a'++W .go R0.2 g') bD) (au (l:=tE5 d os es l bt bn p) ⟨zz,zz,zz,zz,zz,zz,zz,zz,zq⟩)) ?_
  have a7: ∀i,i≠p.length->a' i=aP p i:=by intro i hi;rw[S J,kQ];by_cases e:i<p.length;rw[zy e];rw[zj e,zj hi,nH p e]
  clear S U;have a1: ∀n,b++(du (kS d) m (p++[0])++(bk (n+1)).flatMap ch)=b++(du (kS d) m (p++[0])++(bk n).flatMap ch)++ch n:=by intro n;rw[nB];simp only[cx]
  have Q:(aZ f (b++(du (kS d) m (p++[0])++(bk 0).flatMap ch)) x0)=R0:=by rw[<-R];simp
  have v: ∀n,n<=d.cs.length->(aZ f (b++(du (kS d) m (p++[0])++(bk n).flatMap ch)) x0).1≠.go->aZ f (b++(du (kS d) m (p++[0])++(bk d.cs.length).flatMap ch)) x0=aZ f (b++(du (kS d) m (p++[0])++(bk n).flatMap ch)) x0:=by intro n hn u;obtain⟨r,N⟩:=lU ch (k:=n) (n:=d.cs.length) hn;rw[N,<-cx (du (kS d) m (p++[0])),<-cx b,pg u]
  have E: ∀n,n<d.cs.length->ch n=du (kS d) m (p++[n+1])-> ∃r,L=b++(du (kS d) m (p++[0])++(bk n).flatMap ch)++du (kS d) m (p++[n+1])++r:=by intro n hn o;obtain⟨r,N⟩:=lU ch (k:=n+1) (n:=d.cs.length) hn;rw[nB,o]at N;exact⟨r++Z,by rw[hL,N];simp only[cx]⟩
  generalize hS:du (kS d) m (p++[0])=S0 at a1 Q v E;let q:Nat->List (List Nat):=λn=>b++(S0++(bk n).flatMap ch);refine aa (aU.label ?_);refine aa (aa ?_);refine cZ zz<|aU.iN (Y:=(Nat->Nat)×M) (λa=>(aZ f (q d.cs.length) x0).1= .go/\ ∀i,i≠p.length->a.1 i=aP p i) (λ_=>el (tE5 d os es l bt bn p)) (λa=>TT d os es l bt bn a.1++W .go (aZ f (q d.cs.length) x0).2 a.2) (λ_=>[]) ?_ ?_
  ·refine bJ (X:=Nat×(Nat->Nat)×M) (λy=>y.1<=d.cs.length/\(aZ f (q y.1) x0).1= .go/\ ∀i,i≠p.length->y.2.1 i=aP p i)
    (λy=>el (tE5 d os es l bt bn p [(39,mW d.cs),(40,I d.cs.length),(41,I y.1)])) (λy=>TT d os es l bt bn y.2.1++W .go (aZ f (q y.1) x0).2 y.2.2) (λ_=>[]) (λy=>d.cs.length-y.1) (0,a',g') ⟨h0 _,by show (aZ f (b++(S0++_)) x0).1=_;rw[Q];exact J,a7⟩
    (ai (aw (by show _=TT d os es l bt bn a'++W .go (aZ f (b++(S0++_)) x0).2 g';rw[Q])) (au ⟨zz,zz,zz,zz,zz,zz,zz,zz,zz,by show I _=I _;rw[b0],zz,zq⟩)) ?_
   rintro⟨n,a,g⟩ ⟨hn,t,ha⟩;simp only at hn t ha ⊢;refine aJ zz<|aa (aj zz (λhc=>?_) (λhc=>?_))
   ·simp only[nL]at hc;have C:=Tg ok (os:=os) K (h:=p.length) (c:=n) af hc;have H:da (nY p:Nat) n=p.contains (n+1):=(by rw[ng _ _ af,bs,FP]);have o:ch n=if (!p.contains (n+1)&&uV d p.length n)=true then du (kS d) m (p++[n+1])else[]:=by rw[<-a9];rfl
    have A:q (n+1)=q n++ch n:=a1 n;have b1:=E n hc;have hq:(0:Int)<=(nY p:Nat)/2^((n:Nat):Int).toNat:=fy af (hP (hY af));have b8:((nY p:Nat):Int)/2^((n:Nat):Int).toNat<=(nY p:Nat):=fr _ af;generalize uV d p.length n=fb at C o;generalize b':p.contains (n+1)=ub at H o;refine ak (aa (ay ?_));refine aJ zz<|aa (aU.G2 (Y:=Unit) (λ_=>True) (λ_=>el (tE5 d os es l bt bn p [(39,mW d.cs),(40,I d.cs.length),(41,I n),(12,I n),(55,B (!(!ub&&fb)))])) (λ_=>TT d os es l bt bn a++W .go (aZ f (q n) x0).2 g) (λ_=>[]) ?_ ?_)
    ·have hb:=H;unfold da at hb;cases ub with
     |true=>refine kD [(49,true)] [] zz (by(and_intros);(all_goals first|exact zk _|((first|exact hb|omega)))) ?_;exact⟨(),zq,eL⟩
     |false=>refine kD [(49,false)] [.ret (B fb)] zz (by(repeat' (with_reducible apply dn));(all_goals first|exact zk _|((first|exact hb|exact C|omega)))) ?_;exact⟨(),zq,au ⟨zz,zz,zz,zz,zz,zz,zz,zz,zz,zz,zz,zz,by show B _=B _;cases fb<;>rfl,zq⟩⟩
    intro _ _;cases s:(!ub&&fb)with
    |false=>rw[s,zj aG]at o;rw[o,bI]at A;refine aC zz zz (aE ?_);refine fE zz bL ?_;refine⟨(n+1,a,g),⟨by simp only;omega,by simp only;rw[A];exact t,ha⟩,by simp only;omega,ai (aw (by simp only;rw[A])) eL⟩
    |true=>
     rw[s,zy zz]at o;obtain⟨r,N⟩:=b1 o;rw[o]at A;have j:=z (n+1) (q n) r af N t g;have b3:ub=false:=by cases ub with
      |false=>rfl
      |true=>simp at s
     rw[Dr,zj af,yW,zj af,Nat.add_sub_cancel,hV,<-A]at j;refine aH zz zz<|nw [.iL 0] zz ⟨fR,fR,⟨zz,zz,zz,zz,by show 0+((p.length:Nat):Int).toNat*1+1<=4;omega⟩,zq⟩<|ag (ai (aw (H':=TT d os es l bt bn (aP (p++[n+1]))++W .go (aZ f (q n) x0).2 g) ?_) (au (l:=tE5 d os es l bt bn p [(39,mW d.cs),(40,I d.cs.length),(41,I n),(12,I n)]) ⟨zz,zz,zz,zz,zz,zz,zz,zz,zz,zz,zz,zz,zq⟩)) ?_
     show (bt,dp.cells _ (bU (jJ a) (0+p.length*1) [I (((n+1:Nat)):Int)]))::_=_;rw[Aa _ _ T,Ia zz ha];rfl;have b7:(2:Nat)^n<=8:=(by have:=bl (n:=2) af (show n<=3 from af);omega);have V:(1:Int)*2^((n:Nat):Int).toNat=((2^n:Nat):Int):=aF;have a4:(0:Int)<=1*2^((n:Nat):Int).toNat:=(by rw[V];exact e4 _);have O:(1:Int)*2^((n:Nat):Int).toNat<9223372036854775808:=(by rw[V];omega);refine aa (zg [] [.at 1] zz ⟨zz,fR,⟨af,af,af,O⟩,⟨fR,a4,O⟩,zq⟩ ?_);have eU:((((nY p:Nat):Int).toNat ||| ((1:Int)*2^((n:Nat):Int).toNat).toNat:Nat):Int)=((nY p ||| 2^n:Nat):Int):=(by rw[V,bs,bs]);rw[<-eU]at j;refine ah (cq (Hin:=TT d os es l bt bn (aP (p++[n+1]))++W .go (aZ f (q n) x0).2 g) (H0:=[]) zz (show iM an 426 _ _ _ from j) zz zz (aW _) aF ?_);rintro res a0 ⟨a2,g2,rfl,rfl,a8⟩;refine gk zz ?_;cases G:(aZ f (q (n+1)) x0).1.on with
     |false=>
      have u:(aZ f (q (n+1)) x0).1≠.go:=λe=>(by rw[e]at G;cases G);refine aC zz zz<|ag (aw (bI _))<|aJ zz ?_
      rw[v (n+1) hc u];refine ab (Oh l bt bn W ?_ (λe=>absurd e u));show B false=B _;rw[<-G]
     |true=>
      have D:=QB.1 G;refine aH zz zz<|fE zz bL ?_
      refine⟨(n+1,a2,g2),⟨by simp only;omega,D,λi hi=>?_⟩,by simp only;omega,ai (aw ?_) eL⟩;simp only;rw[a8 D,kQ];by_cases e:i<p.length;rw[zy e];rw[zj e,zj hi,nH p e];simp only;rw[D,bI]
   simp only[nL]at hc;have e:n=d.cs.length:=af;subst e;exact aE ⟨(a,g),⟨t,ha⟩,eL⟩
  rintro⟨a,g⟩ ⟨t,ha⟩;refine nw [.iL 0] zz ⟨fR,⟨zz,zz,zz,zz,by show 0+((p.length:Nat):Int).toNat*1+1<=4;omega⟩,zq⟩<|ag (aw (H':=TT d os es l bt bn (aP p)++W .go (aZ f (q d.cs.length) x0).2 g) ?_) ?_;show (bt,dp.cells _ (bU (jJ a) (0+p.length*1) [I (0:Nat)]))::_=_;rw[Aa _ _ T,K1 zz ha];rfl;refine aJ zz ?_;have N: ∀env:Env,env 11=B true->yH an [.tmp 11] (Xu d os es l bt bn W p (aZ f (q d.cs.length) x0)) .ret env (TT d os es l bt bn (aP p)++W .go (aZ f (q d.cs.length) x0).2 g) []:=(by intro env a5;have:=Oh (d:=d) (os:=os) (es:=es) l bt bn W (p:=p) (res:=aZ f (q d.cs.length) x0) (env:=env) (a:=aP p) (g:=g) (by rw[t,a5];rfl) (λ_=>rfl);rwa [t]at this);exact ab (N _ zz)
end
theorem NL (d:ln)(os:List (List AV))(es:List (Value×AV)):Ev an 395 [EJ d os es] (.fn (.func 424) [] [.pi [EJ d os es]]):=by refine ar ajt.ok<|bE [.bY] zz aK<|aJ zz<|ab (aD ?_);rfl
section
variable {d:ln} (ok:d.OK) {os:List (List AV)} {es:List (Value×AV)} (K:sQ d es) (l:Nat) {X M:Type} (f:X->List Nat->J×X) (W:J->X->M->av) (x0:X)
include ok K
theorem Iz (hy:acJ l f W x0 (dS d))(g:M):iM an 424 [Yv l,.pi [EJ d os es]] (W .go x0 g) (λ_ Ho=> ∃a:M,Ho=W (aZ f (dS d) x0).1 (aZ f (dS d) x0).2 a):=by
 refine bH ajK.ok<|bE [.bY] zz aK<|bE [.aT] zz cI<|bW (t:=3) zz λb=>bE [.aT] zz ⟨zz,⟨zz,zz,zz,c8 1⟩,zq⟩<|ag (aq (t:=4) zz)<|bE [.aT] zz cI<|bW (t:=5) zz λbn=>nw [.iL 0] zz ⟨⟨zz,zz,zz,zz,c8 1⟩,zq⟩<|ag (ai (aw zz) (cM (H':=TT d os es l b bn (aP [])++W .go x0 g) (e5 _ _ _)))<|aA<|mO [.at 1] 1 zz zz cI ?_;have hs:dS d=du (kS d) d.hs.length []:=rfl
 refine ah (cq (Hin:=TT d os es l b bn (aP [])++W .go x0 g) (H0:=[]) zz
  (show iM an 426 _ _ _ from Sm ok K l b bn f W x0 hy d.hs.length [] [] [] aF (λk hk=>by cases hk) (by rw[hs];simp) zz g) zz zz (aW _) aF ?_)
 rintro res c ⟨e,a,rfl,rfl,_⟩;apply bF;rw[fD,<-hs];exact⟨.inl zz,_,.cG [],W (aZ f (dS d) x0).1 (aZ f (dS d) x0).2 a,zz,.many aG zq,⟨a,zz⟩,bD⟩
end
theorem iu {d:ln}{t:List Nat}(h:t∈dS d):t.length=d.hs.length:=by have:=As _ _ _ _ h;simpa using this
theorem sS {d:ln}{t:List Nat}(h:t∈dS d): ∀k∈t,k<=d.cs.length:=
 zG _ (λk=>k<=d.cs.length) (λ_ _ hk=>Z7 hk) _ _ (λk hk=>by cases hk) _ h
theorem OB (a:p.length=n)(b:q.length=n)(h: ∀i,i<n->aP p i=aP q i):p=q:=by apply e9;intro k;by_cases hk:k<n;rw[km af,km af,h k hk];grind
theorem Gn (h4:n<=4)(e:p.length=n)(f:q.length=n)(h:jJ (aP p)=jJ (aP q)):p=q:=by
 apply OB e f;simp only[jJ,h7,AV.v.injEq,j2,true_and,h6,and_true]at h;obtain⟨a,b,c,d⟩:=h;intro i hi;match i with
 |0=>exact a
 |1=>exact b
 |2=>exact c
 |3=>exact d
 |i+4=>omega
section
theorem aU.XX {d:ln}(ok:d.OK){os:List (List AV)}{es:List (Value×AV)}(K:sQ d es){X M:Type}(f:X->List Nat->J×X)(U:X->M->av)(x0:X)(B:M){env:Env}{H0:av}{D:List Nat}{Q:dl}{fo:Operand}{ps:List Nat}{la L:bZ}(env0:Env)
  (hx:bG env fo= .fn (.func 424) [] [.pi [EJ d os es]]) (V:H=U x0 B++H0) (S: ∀u,env0 u= .any\/(env0 u=env u/\(env u).bT=false)) (A: ∀u∈ps,u<N) (x:ps.length=2)
  (g: ∀l a p c (m:M),dS d=a++p::c->(aZ f a x0).1= .go->
    aU an (some l) N la (λe b H' E=>e= .normal/\aU an (some l) N L (λe _ H' _=>e=(f (aZ f a x0).2 p).1.ex/\ ∃i:M,(U (f (aZ f a x0).2 p).2 i).Sublist H') b H' E) (wD ps [.agg (jJ (aP p)),I (dK p:Nat)] env0) (U (aZ f a x0).2 m) [])
  (k: ∀(i:M) O,Q (aZ f (dS d) x0).1.ex env ((O,.ri)::(U (aZ f (dS d) x0).2 i++H0)) (O::D)):aU an none N (.Az fo ps la L) Q env H D:=by
 refine aU.Cu (HS:=λy=>U y.1 y.2) (x0,B)
  (λj y=>j=(aZ f (dS d) x0).1/\y.1=(aZ f (dS d) x0).2)
  (λy args=> ∃a p c,dS d=a++p::c/\(aZ f a x0).1= .go/\y.1=(aZ f a x0).2/\args=[.agg (jJ (aP p)),I (dK p:Nat)])
  (λy args j C=> ∀p,p.length=d.hs.length->args=[.agg (jJ (aP p)),I (dK p:Nat)]->j=(f y.1 p).1/\C.1=(f y.1 p).2)
  env0 hx V S A ?_ ?_ ?_
 rintro l ⟨z,m⟩ args ⟨a,p,c,n,h,G,rfl⟩;simp only at G ⊢;subst G;refine⟨by simp [x],(g l a p c m n h).mono ?_⟩;rintro e b H' E ⟨rfl,Y⟩;refine⟨zz,Y.mono ?_⟩;rintro e v R P ⟨rfl,i,q⟩;refine⟨_,(_,i),zz,λZ w he=>?_,q⟩;simp at he;rw[Gn ok.h4 (iu (t:=p) (by rw[n];simp)) w bD];exact gJ;intro l lo T;have o:acJ l f (λj y m=>(l,lo j)::U y m) x0 (dS d):=by refine λa p c n h m=>Gl.perm (T ((aZ f a x0).2,m) _ ⟨a,p,c,n,h,zz,zz⟩) (j3 _) ?_;rintro r Ho ⟨j,C,W,rfl,rfl⟩;obtain⟨s,F⟩:=W p (iu (by rw[n];simp)) zz;simp only at s F;refine⟨_,j3 _,C.2,by rw[s],?_⟩;rw[s,F]
 refine(Iz ok K l f _ x0 o B).mono ?_;rintro r Ho ⟨i,rfl⟩;exact⟨_,((aZ f (dS d) x0).2,i),gJ,zz⟩
 grind
end
theorem xh (ext:List Nat->List Nat)(b:Nat)(h: ∀p,(ext p).length<=b): ∀(m:Nat) (p:List Nat),(du ext m p).length<=b^m
 |0,p=>by simp [du]
 |m+1,p=>by
  have key: ∀l:List Nat,(l.flatMap λk=>du ext m (p++[k])).length<=l.length*b^m:=by
   intro l;induction l with
   |nil=>simp
   |cons k l a=>rw[hQ,bA,cd,Nat.succ_mul];have:=xh ext b h m (p++[k]);omega
  refine ea (key (ext p)) ?_;rw[Nat.pow_succ,Nat.mul_comm (b^m)];exact Nat.mul_le_mul_right _ (h p)
theorem yN {d:ln}(ok:d.OK):(dS d).length<=625:=by have h4:=ok.h4;have c4:=ok.c4;refine ea (xh (kS d) 5 (λp=>?_) d.hs.length []) ?_;unfold kS;rw[cd,ap];have:=ds (λc=> !p.contains (c+1)&&uV d p.length c) (bk d.cs.length);rw[hU]at this;omega;exact bl af h4
abbrev Bn (x:List (List Nat)×Nat)(t:List Nat):J×(List (List Nat)×Nat):=(.go,qG x t)
theorem yE {X:Type}(f:X->List Nat->X): ∀(L:List (List Nat)) (x:X),aZ (λx t=>(J.go,f x t)) L x=(.go,L.foldl f x)
 |[],_=>rfl
 |t::L,x=>by simp only[aZ];exact yE f L (f x t)
structure FT (n:Nat)(L:List (List Nat))(x:List (List Nat)×Nat):Prop where
 nil:x.1=[]->x.2=n+1
 le:x.2<=n+1
 mem: ∀t∈x.1,t∈L
 len:x.1.length<=L.length
theorem CV {x:List (List Nat)×Nat}(h:FT n L x)(t:List Nat)(c:dK t<=n):FT n (L++[t]) (qG x t):=by
 unfold qG;by_cases a:dK t<x.2;rw[zy a];exact⟨(λe=>by cases e),bD,(λs hs=>bD),aF⟩;rw[zj a];by_cases b:dK t=x.2/\x.1.getLast? ≠some t;rw[zy b];refine⟨(λe=>by simp at e),h.le,λs hs=>?_,by simp;have:=h.len;omega⟩;rcases eT.1 hs with hs|hs
 exact gR _ (h.mem s hs);simp at hs;subst hs;simp
 rw[zj b];exact⟨h.nil,h.le,λs hs=>gR _ (h.mem s hs),by rw[bA];have:=h.len;omega⟩
theorem qd (n:Nat): ∀(L a:List (List Nat)) (x:List (List Nat)×Nat),FT n a x->(∀t∈L,t.length=n)->FT n (a++L) (L.foldl qG x)
 |[],a,x,h,_=>by rw[bI];exact h
 |t::L,a,x,h,hl=>by have:=qd n L (a++[t]) (qG x t) (CV h t (by rw[<-hl t aF];exact gQ)) (λs hs=>hl s (by simp [hs]));simpa using this
theorem qe (n:Nat):FT n [] ([],n+1):=⟨λ_=>rfl,c8 _,(λt a=>by cases a),aF⟩
abbrev aeN (p:List Nat):Value:=.agg #[.int .i64 (aP p 0:Nat),.int .i64 (aP p 1:Nat),.int .i64 (aP p 2:Nat),.int .i64 (aP p 3:Nat)]
theorem HA (h: ∀k∈p,k<=n)(i:Nat):aP p i<=n:=by
 unfold aP;cases e:p[i]? with
 |none=>simp
 |some k=>exact h k (cc e)
theorem aaG (h: ∀k∈p,k<=4):bS an 5 440 (aeN p):=by have b:an.cellsOf 440=4:=aX;have c:an.cellsOf 3=1:=aX;have a: ∀i,(cy .i64 (aP p i:Nat)).wf=true:=λi=>oE af (by have:=HA h i;omega);refine⟨?_,[.int .i64 (aP p 0:Nat),.int .i64 (aP p 1:Nat),.int .i64 (aP p 2:Nat),.int .i64 (aP p 3:Nat)],?_⟩;simp [e3,hN,b];simp [fk,ek,hN,ec,b,c,a 0,a 1,a 2,a 3,c7]
theorem YJ {t:Nat}{a b:Operand}{env:Env}(ha:bG env a= .agg (jJ (aP p)))(h:bG env b= .agg (jJ (aP q)))(l: ∀k∈p,k<=4)(o: ∀k∈q,k<=4)(h4:n<=4)(i:p.length=n)(j:q.length=n):
  ∀(r:Option Nat) (N:Nat) (D:List Nat),Q1 an r N (.pK true 440 a b) (some t) env H D [(t,B (!decide (p=q)))]:=by
 exact λr N D=>aO.pK (m:=5) aG aX aX aX aX (by rw[ha];rfl) (by rw[h];rfl) (aaG l) (aaG o) (decide (p=q)) (by
  rw[decide_eq_true_iff]
  constructor
  ·grind
  ·intro e
   apply Gn h4 i j
   simp at e
   obtain⟨c,d,f,g⟩:=e
   simp only[jJ,c,d,f,g]) dO
theorem MT (b:Nat):Ev an 328 [.po b 0] (.fn (.func 382) [] [.pi [.po b 0]]):=by refine ar aiK.ok<|bE [.bY] zz aK<|aJ zz<|ab (aD ?_);rfl
theorem Jy {m:gO}(ok:m.OK){came b g l:Nat}{lo:dp}(a:came<9223372036854775808)(hy:YM m came b g l lo (bu m came)):
  iM an 382 [Yv l,.pi [.po b 0]] ((l,lo)::LB m came b g []) (λ_ Ho=>Ho=(l,lo)::LB m came b g (bu m came)):=by
 refine bH ahA.ok<|bE [.bY] zz aK<|bE [.aT] zz cI<|bW (t:=3) zz λd=>bE [.aT] zz cI<|bW (t:=4) zz λbn=>nw [.iL 0] zz ⟨⟨zz,zz,zz,zz,c8 1⟩,zq⟩<|ag (ai (aw zz) (cM (H':=MH m came b g l d bn lo (aP []) []) (e5 _ _ _)))<|aA<|mO [.at 1] 1 zz zz cI ?_
 have hs:bu m came=du (wR m came) m.su.length []:=rfl;refine ah (cq (H0:=[]) zz
  (show iM an 383 _ _ _ from Vx ok a hy m.su.length [] [] [] aF (by rw[hs];simp)) zz zz (aW _) aF ?_)
 rintro res c ⟨rfl,rfl⟩;apply bF;rw[fD,<-hs];exact⟨.inl zz,_,.cG [],(l,lo)::LB m came b g (bu m came),zz,.many aG zq,zz,bD⟩
theorem lZ {m:gO}{came:Nat}{t:List Nat}(h:t∈bu m came):t.length=m.su.length:=by have:=As _ _ _ _ h;simpa using this
theorem qg {m:gO}{came:Nat}{t:List Nat}(h:t∈bu m came): ∀k∈t,k<m.cl.length:=
 zG _ (λk=>k<m.cl.length) (λ_ _ hk=>XE hk) _ _ (λk hk=>by cases hk) _ h
theorem LK (m:gO)(came:Nat)(p:List Nat):(wR m came p).Nodup:=kl List.filter_sublist List.nodup_range
theorem EH (m:gO)(came:Nat):(bu m came).Nodup:=by have:=(AU (wR m came) (LK m came) m.su.length).1;rwa [Hl]at this
theorem Qy (g:n<=5)(e:p.length=n)(f:q.length=n)(h:dX (aP p)=dX (aP q)):p=q:=by apply OB e f;simp only[dX,h7,AV.v.injEq,j2,true_and,h6,and_true]at h;obtain⟨a,b,c,d,h4⟩:=h;exact λi hi=>lt5 (C:=λi=>aP p i=aP q i) a b c d h4 af
theorem F9 (g:n<=5)(h:p.length=n)(i:q.length=n)(e:Ff p=Ff q):p=q:=by apply Qy g h i;simp at e;obtain⟨a,b,c,d,f⟩:=e;simp only[dX,a,b,c,d,f]
theorem LW (h: ∀k∈p,k<n){i:Nat}(hi:i<p.length):aP p i<n:=
 h _ (cc (km hi))
theorem O6 (h: ∀k∈p,k<=4):bS an 6 237 (Ff p):=by have b:an.cellsOf 237=5:=aX;have c:an.cellsOf 3=1:=aX;have a: ∀i,(cy .i64 (aP p i:Nat)).wf=true:=λi=>oE af (by have:=HA h i;omega);refine⟨?_,[.int .i64 (aP p 0:Nat),.int .i64 (aP p 1:Nat),.int .i64 (aP p 2:Nat),.int .i64 (aP p 3:Nat),.int .i64 (aP p 4:Nat)],?_⟩;simp [e3,hI,b];simp [fk,ek,hI,ec,b,c,a 0,a 1,a 2,a 3,a 4,c7]
theorem Yi:iQ an 237 (bS an 6 237):=iQ.wide (m:=6) aG aX aX aX
def ug (m:gO)(more n:Nat):Nat:=(bk n).foldl (λs i=>match m.wo[i]? with|some w=>if w.ca=true then s ||| 2^i else s|none=>s) more
theorem LP {m:gO}{more:Nat}{w:rc}(h:m.wo[n]? =some w):ug m more (n+1)=if w.ca=true then ug m more n ||| 2^n else ug m more n:=by unfold ug;rw[c7,fe,h8,j5,h]
theorem DQ {m:gO}{more:Nat}(hm:more<2^6): ∀n:Nat,n<=6->ug m more n<2^6
 |0,_=>hm
 |n+1,h=>by have a:=DQ (m:=m) hm n af;unfold ug at a ⊢;rw[c7,fe,h8,j5];split;split;exact hW a (gX af af);exact a;exact a
theorem KJ (x:List (List Nat))(p:List Nat)(i:Nat):dI (x++[p]) i=dI x i ||| 2^aP p i:=by unfold dI;rw[fe];rfl
theorem GG {x:List (List Nat)}{i:Nat}(h: ∀p∈x,aP p i<n):dI x i<2^n:=by
 have key: ∀(x:List (List Nat)) (s:Nat),s<2^n->(∀p∈x,aP p i<n)->x.foldl (λs t=>s ||| 2^aP t i) s<2^n:=by
  intro x;induction x with
  |nil=>grind
  |cons p x b=>exact λs hs h=>b _ (hW hs (gX af (h p aF))) (λq a=>h q (by simp [a]))
 exact key x 0 (j0 n) h
abbrev lM (m:gO)(came:Nat)(g:Nat)(e:Nat->Nat):List AV:=m.ao++I came::.mo g::dX e
theorem UG (m:gO)(came g:Nat)(f:Nat->Nat)(v:Int):bU (lM m came g f) (0+4) [I v]=m.ao++I v::.mo g::dX f:=rfl
theorem Qn (m:gO)(came g:Nat)(f:Nat->Nat)(h:k<5):gw none ((lM m came g f).drop (6+k*1))=some (I (f k:Nat)):=
 lt5 (C:=λk=>gw none ((lM m came g f).drop (6+k*1))=some (I (f k:Nat))) zz zz zz zz zz h
theorem QE (m:gO)(came g:Nat)(f:Nat->Nat)(v:Nat)(h:k<5):bU (lM m came g f) (6+k*1) [I (v:Nat)]=lM m came g (λj=>if j=k then v else f j):=
 lt5 (C:=λk=>bU (lM m came g f) (6+k*1) [I (v:Nat)]=lM m came g (λj=>if j=k then v else f j)) zz zz zz zz zz h
theorem Z5 {m:gO}{came:Nat}(s5:m.su.length<=5){x:List (List Nat)}{r:List (List Nat)}(c:bu m came=x++p::r):CC (x.map (Lj m)) (Ff p) none:=by have a:=EH m came;rw[c]at a;have f:p.length=m.su.length:=lZ (by rw[c];simp);refine .none λe he=>?_;obtain⟨q,g,rfl⟩:=e0.1 he;intro d;have b:q.length=m.su.length:=lZ (came:=came) bD;have:=F9 s5 b f d;subst this;rw[fj]at a;exact a.2.2 q g q aF zz
theorem Wq {m:gO}(ok:m.OK)(more:Nat)(hm:more<2^6):iM an 235 [.agg m.ao,I more] [] (λr _=>r=lp m (df m more) (.mi ((bu m (df m more)).map (Lj m))::dX (EF m (bu m (df m more))))):=by
 have s5:=ok.s5;have c4:=ok.c4;have w6:=ok.w6;have V:((m.su.map kW.ao).length:Int)=m.su.length:=aF;have W:((m.wo.map rc.ao).length:Int)=m.wo.length:=aF;refine bH ai0.ok<|bE [.bY] zz aK<|aa (aA ?_);refine lY 2 zz zz<|ah (aO.vY (λg=>?_));refine mO [.aT] 2 zz zz aK<|aY.ie (t:=14) zz (λb=>?_);refine VR [.aT] zz ⟨zz,⟨zz,zz,zz,c8 1⟩,zq⟩<|ag (aq (t:=5) zz)<|ag (aw zz)<|aa (aa ?_);refine cZ zz<|cj True (el [(2,.pi m.ao),(5,.pi [.po b 0])]) [(b,.cells 240 (lM m (df m more) g (λ_=>0))),(g,.map [])] [] ?_ ?_
 ·refine bJ (λk:Nat=>k<=m.wo.length) (λk=>el [(2,.pi m.ao),(5,.pi [.po b 0]),(16,qD m.wo),(17,I m.wo.length),(18,I k)]) (λk=>[(b,.cells 240 (lM m (ug m more k) g (λ_=>0))),(g,.map [])]) (λ_=>[]) (λk=>m.wo.length-k) 0 af
   (au ⟨zz,zz,zz,by show I _=I _;simp,zz,zq⟩) ?_
  refine λk hk=>aJ zz<|aa (aj zz (λhc=>?_) (λhc=>?_))
  ·simp at hc;obtain⟨w,hx⟩:=bq hc;have S:=DQ (m:=m) hm k af;have f:=LP (more:=more) hx;refine ak (aa (ay ?_));refine bE [.cells w.ao,.aT] zz ⟨⟨af,by simp [hx]⟩,zz,ef,zq⟩<|ag (aq (t:=7) zz)<|aa<|cZ zz ?_;cases M:w.ca with
   |false=>rw[M,zj aG]at f;refine aH zz zz<|fE zz bL ?_;exact⟨k+1,hc,af,ai (aw (by rw[f])) eL⟩
   |true=>
    rw[M,zy zz]at f;have H:(2:Nat)^k<=32:=(by have:=bl (n:=2) af (show k<=5 from af);omega);have a:(1:Int)*2^((k:Nat):Int).toNat=((2^k:Nat):Int):=aF;have c:(0:Int)<=1*2^((k:Nat):Int).toNat:=(by rw[a];exact e4 _);have d:(1:Int)*2^((k:Nat):Int).toNat<9223372036854775808:=(by rw[a];omega);refine aC zz zz<|zg [] [.at 0] zz (by(and_intros);(all_goals first|exact zk _|((first|exact c|exact d))))<|aY.hd (gs:=[]) (hs:=[.iL 0]) zz ⟨⟨zz,zz,zz,zz,by show 0+4+1<=11;decide⟩,zq⟩<|fE zz bL ?_;refine⟨k+1,hc,af,ai (aw ?_) eL⟩;have D:((((ug m more k:Nat):Int).toNat ||| ((1:Int)*2^((k:Nat):Int).toNat).toNat:Nat):Int)=((ug m more k ||| 2^k:Nat):Int):=by rw[a,bs,bs]
    show [(b,dp.cells _ (bU (lM m (ug m more k) g (λ_=>0)) (0+4) [I ((((ug m more k:Nat):Int).toNat ||| ((1:Int)*2^((k:Nat):Int).toNat).toNat:Nat):Int)])),_]=_;rw[UG,f,D]
  simp only[nL]at hc;have e:k=m.wo.length:=af;subst e;exact aE ⟨(),zq,eL⟩
 intro _ _;have E:df m more<2^6:=DQ hm m.wo.length w6;generalize df m more=came at E;refine aa (aa ?_);refine kn [.ret (.fn (.func 382) [] [.pi [.po b 0]])] zz ⟨MT b,zq⟩<|ay<|aU.Az (X:=List (List Nat)) (HS:=LB m came b g) (H0:=[]) [] (λx=>x=bu m came) (λx args N=> ∃p r,bu m came=x++p::r/\args=[.agg (dX (aP p))]/\N=x++[p]) (el [(2,.pi m.ao),(5,.pi [.po b 0])]) zz ?_ (td jA zz) aG ?_ ?_ ?_
 have P:EF m []=λ_=>0:=(by funext i;unfold EF dI;split<;>rfl);show _=[(b,_),(g,_)];rw[P];rfl
 ·rintro l x args N ⟨p,r,y,rfl,rfl⟩;refine⟨zz,?_⟩;have L:p∈bu m came:=(by rw[y];simp);have U:=lZ L;have u:=qg L;have s: ∀i,i<m.su.length->aP p i<4:=λi hi=>(by have:=LW u (i:=i) af;omega);have z:=abA ok came (.mo g::dX (EF m x)) (aP p) s;refine kn [.aT] zz ⟨zz,⟨zz,zz,zz,c8 5⟩,zq⟩ ?_;refine⟨zz,?_⟩;refine ag (aq (t:=8) zz)<|iF [(2,.pi m.ao),(5,.pi [.po b 0]),(8,.pi (dX (aP p)))]<|ay<|aa (zg [] [.at 0,.H9 [lp m came (.mo g::dX (EF m x)),.agg (dX (aP p))] (.agg (Al (vZ m (aP p) m.su.length)))] zz ⟨zz,⟨z,zz,.po (i:=0) zz,.refl _,zq⟩,zq⟩ ?_);have G: ∀e∈x.map (Lj m),bS an 6 237 e.1:=(by intro e he;obtain⟨q,J,rfl⟩:=e0.1 he;exact O6 (λk hk=>by have:=qg (m:=m) (came:=came) (t:=q) (by rw[y];simp [J]) k hk;omega));refine ah (aO.jH (n:=1) Yi zz zz (kv:=Ff p) zz (O6 (λk hk=>by have:=u k hk;omega)) G (Z5 s5 y) zz zz ?_);refine bF ?_;let h:Nat->Nat->Nat:=λn i=>if i<n then EF m (x++[p]) i else EF m x i
  refine ag (ai (aw (H':=[(b,.cells 240 (lM m came g (h 0))),(g,.map ((x++[p]).map (Lj m)))]) ?_) (au (l:=[(2,.pi m.ao),(5,.pi [.po b 0]),(8,.pi (dX (aP p)))]) xH)) ?_;show [_,(g,dp.map (mA (x.map (Lj m)) _ _ none))]=_;rw[bx];rfl;refine aJ zz<|ay<|bJ (λk:Nat=>k<=m.su.length) (λk=>el [(5,.pi [.po b 0]),(8,.pi (dX (aP p))),(48,I m.su.length),(49,I k)]) (λk=>[(b,.cells 240 (lM m came g (h k))),(g,.map ((x++[p]).map (Lj m)))]) (λ_=>[]) (λk=>m.su.length-k) 0 af
   (au ⟨zz,zz,by show I _=I _;simp,zz,zq⟩) ?_
  intro k hk;refine aJ zz<|aa (aj zz (λhc=>?_) (λhc=>?_))
  ·simp only[nL]at hc;have F:h k k=dI x k:=(by show (if k<k then _ else EF m x k)=_;rw[zj af];unfold EF;rw[zy hc]);have R:dI x k<2^4:=GG (λq J=>by
    have B:q∈bu m came:=by rw[y];simp [J]
    have:=LW (qg B) (i:=k) (by rw[lZ B];exact hc)
    omega)
   have T:=s k hc;have H:(2:Nat)^aP p k<=8:=(by have:=bl (n:=2) af (show aP p k<=3 from af);omega);have a:(1:Int)*2^((aP p k:Nat):Int).toNat=((2^aP p k:Nat):Int):=aF;have c:(0:Int)<=1*2^((aP p k:Nat):Int).toNat:=(by rw[a];exact e4 _);have d:(1:Int)*2^((aP p k:Nat):Int).toNat<9223372036854775808:=(by rw[a];omega);have o:=Qn m came g (h k) (k:=k) af;rw[F]at o;have A:=pd (aP p) (k:=k) af;refine ak (aa (ay ?_));refine aJ zz<|zg [] [.RY 0 (I (dI x k:Nat)),.pre [I (aP p k:Nat)]] zz (by(and_intros);(all_goals first|exact zk _|((first|exact c|exact d|exact o|exact A))))<|aY.hd (gs:=[]) (hs:=[.iL 0]) zz ⟨⟨zz,zz,zz,zz,by show 6+((k:Nat):Int).toNat*1+1<=11;omega⟩,zq⟩<|fE zz bL ?_;refine⟨k+1,hc,af,ai (aw ?_) eL⟩;have D:((((dI x k:Nat):Int).toNat ||| ((1:Int)*2^((aP p k:Nat):Int).toNat).toNat:Nat):Int)=((dI (x++[p]) k:Nat):Int):=by rw[a,bs,bs,KJ]
   show [(b,dp.cells _ (bU (lM m came g (h k)) (6+k*1) [I ((((dI x k:Nat):Int).toNat ||| ((1:Int)*2^((aP p k:Nat):Int).toNat).toNat:Nat):Int)])),_]=_;rw[D,QE _ _ _ _ _ af];have C:(λj=>if j=k then dI (x++[p]) k else h k j)=h (k+1):=by
    funext j;show _=if j<k+1 then _ else _
    by_cases e:j=k;subst e;rw[zy zz,zy af];unfold EF;rw[zy hc];rw[zj e];show (if j<k then _ else _)=_;by_cases v:j<k;rw[zy v,zy af];rw[zj v,zj af]
   rw[C]
  simp only[nL]at hc;have e:k=m.su.length:=af;subst e;have C:h m.su.length=EF m (x++[p]):=(by funext j;show (if j<m.su.length then _ else _)=_;by_cases v:j<m.su.length;rw[zy v];rw[zj v];unfold EF;rw[zj v,zj v]);rw[C];exact aE ⟨zz,cb _⟩
 intro l lo Q;refine(Jy ok af (λK p O y=>Q K _ (K++[p]) ⟨p,O,y,zz,zz⟩)).mono ?_;rintro r Ho rfl;exact⟨_,zz,zz⟩;rintro _ Y rfl;show aU _ _ _ _ _ _ _ _;refine ag (aw (H':=[(Y,.ri),(b,.cells 240 (lM m came g (EF m (bu m came)))),(g,.map ((bu m came).map (Lj m)))]) aF)<|aJ zz<|iF [(4,.po b 0)]<|ag (bO.jw (i:=1) 4 zz zz)<|ag (ai (au (l:=[(4,.pi (lM m came g (EF m (bu m came))))]) cI) (bO.nh (i:=1) (t:=4) (b:=g) (es:=(bu m came).map (Lj m)) zz zz))<|ag (au (l:=[(4,lp m came (.mi ((bu m came).map (Lj m))::dX (EF m (bu m came))))]) ⟨by show AV.pi _=_;simp [EP],zq⟩) ?_;exact ab ⟨.inr zz,_,_,[],⟨0,zz,zz⟩,.one (.tmp zz zz),zz,az _⟩
theorem pb {f:Nat->Int}{a:Nat}(h:(dv f n a).2=0):n<=a/\ ∀j,j<n->f j=0:=by grind [dv,eN]
theorem qU {lo hi:Int}(h:ae lo hi [v]=false):lo<=v/\v<=hi:=by have:=mt dc.2 (by rw[h];decide: ¬ae lo hi [v]=true);omega
theorem Dv {m:gO}(g:m.wf)(h:(ei m).2.2=0):m.OK:=by
 unfold ei at h;by_cases f:(dv (dT m.cl) m.cl.length 4).2≠0;grind;rw[zj f]at h;by_cases d:(dv (tc m) m.su.length 5).2≠0;grind;rw[zj d]at h;by_cases e:(dv (rj m) m.wo.length 6).2≠0;grind;rw[zj e]at h;by_cases h4:(dv (tD m) m.pa.length 5).2≠0;grind;obtain⟨n1,f1⟩:=pb (er.1 f);obtain⟨j,f2⟩:=pb (er.1 d);obtain⟨k,f3⟩:=pb (er.1 e);obtain⟨n4,f4⟩:=pb (er.1 h4);have c: ∀{α:Type} {l:List α} {x:α},x∈l-> ∃i,i<l.length/\l[i]? =some x:=by intro α l x hx;obtain⟨i,hi⟩:=gM.1 hx;exact⟨i,(cR.1 hi).1,hi⟩
 refine⟨g,n1,j,k,n4,?_,?_,?_⟩;intro x hx;obtain⟨i,hi,hx⟩:=c hx;have:=f2 i hi;unfold tc at this;rw[hx]at this;simp only at this;split at this;cases this;split at this;cases this;split at this;cases this;rename_i a;simp at a;have:=qU a.1;have:=qU a.2;omega;intro w hx;obtain⟨i,hi,hx⟩:=c hx;have:=f3 i hi;unfold rj at this;rw[hx]at this;simp only at this;by_cases a:ae 0 3 [w.sa]=true;grind;rw[zj a]at this;by_cases b:(ae 0 ((m.su.length:Int)-1) [w.su]||ae 0 ((if 2<=w.sa then(m.su.length:Int)else m.cl.length)-1) [w.of]||ae (-1) ((m.wo.length:Int)-1) [w.ba])=true;grind;simp at a b;have:=qU a;have d:=qU b.1.1;have e:=qU b.1.2;have:=qU b.2;refine⟨af,af,af,af,af,λh=>?_,λh=>?_,af,af⟩;grind;grind;intro p hx;obtain⟨i,hi,hx⟩:=c hx;have:=f4 i hi;unfold tD at this;rw[hx]at this;simp only at this;split at this;cases this;rename_i a;simp at a;have:=qU a.1;have:=qU a.2;omega
abbrev lpL (m:gO):AV:=lp m (df m 0) (.mi ((bu m (df m 0)).map (Lj m))::dX (EF m (bu m (df m 0))))
theorem Aq {m:gO}(g:m.wf)(below:Int)(h:0<=below)(b:below<=9223372036854775807)(l:List Int):iM an 141 [.agg m.ao,I below,ints l] [] (λr _=>(ig m below l=0/\r= .cG [lpL m,I 0])\/(ig m below l≠0/\r= .cG [.v (.pointer none),I (ig m below l)])):=by
 have hc:=FB m g;have f:=jl 0 (below-1) l;have a:ig m below l=if (ei m).2.2≠0 then(ei m).2.2 else if ae 0 (below-1) l=true then 4 else if (bu m (df m 0)).isEmpty=true then 8 else 0:=rfl
 refine bH al2.ok<|bE [.bY] zz aK<|bE [.ret (.cG [I (ei m).1,I (ei m).2.1,I (ei m).2.2])] zz ⟨hc,zq⟩ ?_;generalize ae 0 (below-1) l=bb at f a;refine dw ((ei m).2.2=0/\bb=false) (el [(3,.pi m.ao)]) [] [] ?_ ?_
 ·apply aJ zz;by_cases b:(ei m).2.2=0;case neg=>rw[zy b]at a;refine aC zz bD<|aJ zz ?_;exact ab ⟨.inr zz,_,.cG [.v (.pointer none),I (ei m).2.2],[],zz,.many aG ⟨.tmp zz zz,.tmp zz zz,zq⟩,.inr ⟨bD,by rw[a]⟩,az _⟩
  rw[zj (by simp [b])]at a;refine dm zz (by rw[b];rfl)<|bE [.ret (B bb)] zz ⟨fR,f,zq⟩ ?_;cases bb with
  |true=>rw[zy zz]at a;refine aC zz zz<|aJ zz ?_;exact ab ⟨.inr zz,_,.cG [.v (.pointer none),I 4],[],zz,.many aG ⟨.tmp zz zz,.tmp zz zz,zq⟩,.inr ⟨by rw[a];decide,by rw[a]⟩,az _⟩
  |false=>exact aH zz zz ⟨(),⟨b,zz⟩,eL⟩
 rintro _ ⟨b,rfl⟩;rw[zj (by simp [b]),zj aG]at a;refine aa (aA ?_);refine lY 1 zz zz<|ah (cC (Wq (Dv g b) 0 aG) zz zz (aW _) zz ?_);rintro r Ho rfl;refine aR (dW (az _))<|gk zz<|aa (aa (aA ?_));refine lY 4 zz zz<|ah (aO.afd zz ?_);apply gk zz;have d:(((bu m (df m 0)).map (Lj m)).length:Int)=(bu m (df m 0)).length:=aF;cases c:(bu m (df m 0)).isEmpty with
 |true=>rw[c,zy zz]at a;refine aC zz (by rw[beq_iff_eq,d,List.isEmpty_iff.1 c];rfl)<|aJ zz ?_;exact ab ⟨.inr zz,_,.cG [.v (.pointer none),I 8],[],zz,.many aG ⟨.tmp zz zz,.tmp zz zz,zq⟩,.inr ⟨by rw[a];decide,by rw[a]⟩,az _⟩
 |false=>rw[c,zj aG]at a;refine aH zz (by rw[beq_eq_false_iff_ne,d];intro e;rw[List.isEmpty_eq_false_iff]at c;exact c (fs.1 af))<|aJ zz ?_;exact ab ⟨.inr zz,_,.cG [lpL m,I 0],[],zz,.many aG ⟨.tmp zz zz,.tmp zz zz,zq⟩,.inl ⟨a,zz⟩,az _⟩
theorem vk {m:gO}(a:m.wf){below:Int}{l:List Int}(h:ig m below l=0):m.OK/\ae 0 (below-1) l=false/\bu m (df m 0)≠[]:=by grind [ig,ei,ae,Dv]
theorem R4 {m:gO}{i:Nat}(h:L≠[]):0<dI L i:=by
 obtain⟨p,a,rfl⟩: ∃p a,L=p::a:=by cases L with|nil=>exact absurd zz h|cons p a=>exact⟨p,a,zz⟩
 have key: ∀(x:List (List Nat)) (s:Nat),0<s->0<x.foldl (λs t=>s ||| 2^aP t i) s:=by
  intro x;induction x with
  |nil=>grind
  |cons q x b=>grind
 exact key a _ (hF (j0 _) Nat.right_le_or)
theorem X3 {m:gO}(came:Nat)(es:List (Value×AV))(e:Nat->Nat)(i:Nat)(hi:i<5)(a:0<e i)(b:e i<2^60):Ev an 359 [lp m came (.mi es::dX e),I i] (B (vd (e i))):=by
 refine ar aip.ok<|aJ zz<|xe [] [.pre [I (e i:Nat)],.pre [I (e i:Nat)]] zz (by(and_intros);(all_goals first|exact zk _|((exact pd e hi))))<|ab (aD ?_);apply congrArg B;unfold vd;rw[fx,beq_iff_eq,beq_iff_eq];have:(((e i:Nat):Int)-1).toNat=e i-1:=af
 rw[this];simp
theorem K2 (set:Int)(n:Nat)(a:0<=set)(f:set<9223372036854775808)(g:n<=60):Ev an 360 [I set,I n] (.aT 3 1 ((dx set n).map λx=>[I x])):=by
 refine ar ah9.ok<|aJ zz<|aa (aa ?_);refine cZ zz<|cj True (el [(4,.aT 3 1 ((dx set n).map λx=>[I x]))]) [] [] ?_ ?_
 refine gf (λk:Nat=>k<=n) (λk=>el [(0,I set),(4,.aT 3 1 ((dx set k).map λx=>[I x])),(6,I n),(7,I k)]) (λk=>n-k) 0 af
  (ai (bO.mM (t:=4) 3 1 zz) eL) ?_
 refine λk hk=>aJ zz<|aa (aj zz (λhc=>?_) (λhc=>?_))
 simp at hc;have d:0<=set/2^((k:Nat):Int).toNat:=fy a (hP (hY af));have e:set/2^((k:Nat):Int).toNat<=set:=fr _ a;refine ak (aa (ay ?_));refine aJ zz<|aa<|fE zz ⟨⟨a,af,af⟩,⟨⟨d,af⟩,af,af⟩,zq⟩<|aj (b:=da set k) zz (λc=>?_) (λc=>?_)
 have hl:=oW set k;refine kn [.bY] zz ⟨zz,⟨by simp only[ap,chunk,cd,de];omega,by simp only[ap,chunk,cd,de];omega⟩,zq⟩<|fE zz bL ?_;refine⟨k+1,hc,af,au ⟨zz,?_,zz,zz,zq⟩⟩;rw[jd,c,bx];rfl
 refine ak<|fE zz bL ?_;refine⟨k+1,hc,af,au ⟨zz,?_,zz,zz,zq⟩⟩;show AV.aT 3 1 _=AV.aT 3 1 _;rw[jd,c];simp
 simp at hc;have:k=n:=af;subst this;exact aE ⟨(),zq,eL⟩
 refine λ_ _=>aJ zz ?_;exact ab (gv (.inr zz) (.aT zz zz))
theorem Dc {m:gO}(ok:m.OK){came:Nat}(a:bu m came≠[]){i:Nat}(hi:i<m.su.length):EF m (bu m came) i=dI (bu m came) i/\0<dI (bu m came) i/\dI (bu m came) i<2^m.cl.length:=by refine⟨by unfold EF;rw[zy hi],R4 (m:=m) a,GG λp b=>LW (qg b) (by rw[lZ b];exact hi)⟩
theorem Jw {m:gO}(ok:m.OK)(a:bu m (df m 0)≠[]){i:Nat}(hi:i<m.su.length):Ev an 359 [lpL m,I i] (B (vd (dI (bu m (df m 0)) i))):=by obtain⟨c,b,d⟩:=Dc ok a hi;have s5:=ok.s5;have:=bl (n:=2) af ok.c4;rw[<-c]at b d ⊢;exact X3 (df m 0) ((bu m (df m 0)).map (Lj m)) _ i af b af
def AX (L:List (List Nat))(n:Nat):List Int:=((bk n).filter λi=> !vd (dI L i)).map λ(i:Nat)=>(i:Int)
theorem NA (L:List (List Nat))(n:Nat):AX L (n+1)=AX L n++(if vd (dI L n)=true then[]else[(n:Int)]):=by unfold AX;rw[c7,List.filter_append,bx];cases h:vd (dI L n)<;>simp [h]
theorem Sb (L:List (List Nat))(n:Nat):(AX L n).length<=n:=by grind [AX]
theorem XP {m:gO}(ok:m.OK)(f:bu m (df m 0)≠[]):Ev an 363 [lpL m] (.aT 3 1 ((E7 m (bu m (df m 0))).map λx=>[I x])):=by
 have g:((m.su.map kW.ao).length:Int)=m.su.length:=aF;have s5:=ok.s5;have h:=λ(i:Nat) (hi:i<m.su.length)=>Jw ok f hi;have l:E7 m (bu m (df m 0))=AX (bu m (df m 0)) m.su.length:=rfl;rw[l];have b:=NA (bu m (df m 0));have c:=Sb (bu m (df m 0));have a:AX (bu m (df m 0)) 0=[]:=rfl;generalize AX (bu m (df m 0))=hk at b c a;refine ar ajX.ok<|aJ zz<|aa (aa ?_);refine cZ zz<|cj True (el [(2,.aT 3 1 ((hk m.su.length).map λx=>[I x]))]) [] [] ?_ ?_
 refine gf (λk:Nat=>k<=m.su.length) (λk=>el [(0,lpL m),(2,.aT 3 1 ((hk k).map λx=>[I x])),(9,I m.su.length),(10,I k)]) (λk=>m.su.length-k) 0 af
  (ai (bO.mM (t:=2) 3 1 zz) (au ⟨zz,by rw[a];rfl,by show I _=I _;rw[g],zz,zq⟩)) ?_
 refine λk n=>aJ zz<|aa (aj zz (λhc=>?_) (λhc=>?_))
 simp at hc;have hs:=h k hc;have d:=b k;have hl:=c k;generalize vd (dI (bu m (df m 0)) k)=j at hs d;refine ak (aa (ay ?_));refine aJ zz<|aa<|kn [.ret (B j)] zz ⟨hs,zq⟩ ?_;cases j with
 |true=>refine aH zz zz<|fE zz bL ?_;refine⟨k+1,hc,af,au ⟨zz,?_,zz,zz,zq⟩⟩;show AV.aT 3 1 _=AV.aT 3 1 _;rw[d];simp
 |false=>refine aC zz zz<|kn [.bY] zz ⟨zz,⟨by simp only[ap,chunk,cd,de];omega,by simp only[ap,chunk,cd,de];omega⟩,zq⟩<|fE zz bL ?_;refine⟨k+1,hc,af,au ⟨zz,?_,zz,zz,zq⟩⟩;rw[d,bx];rfl
 simp at hc;have e:k=m.su.length:=af;subst e;exact aE ⟨(),zq,eL⟩
 refine λ_ _=>aJ zz ?_;exact ab (gv (.inr zz) (.aT zz zz))
theorem T3 {m:gO}(d:m.wf):Ev an 270 [.agg m.ao] (.cG [ints (rK m).1,I (rK m).2]):=by
 have e:=Aq d 0 aG aG [];have a:rK m=if ig m 0 []≠0 then([],ig m 0 [])else(E7 m (bu m (df m 0)),0):=rfl
 refine ar ahY.ok<|bE [.bY] zz aK<|aa (aA ?_);refine lY 1 zz zz<|ah (cC e zz zz (.cons (.cons (.ky (.refl _)))) zz ?_);rintro r Ho f;rcases f with⟨b,rfl⟩|⟨b,rfl⟩
 case inr=>
  rw[zy b]at a;refine aR (dW (az _))<|gk zz<|aa (aa ?_);refine cZ zz<|aC zz (by simp_all)<|aJ zz<|ag (bO.ky (t:=2) 1 zz)<|ab (fJ ?_ ?_)
  rw[a];rfl;rw[a];rfl
 rw[zj (by rw[b];decide)]at a;obtain⟨ok,-,c⟩:=vk d b;refine aR (dW (az _))<|gk zz<|aa (aa ?_);refine cZ zz<|aH zz zz<|bE [.ret (ints (E7 m (bu m (df m 0))))] zz ⟨eB (XP ok c),zq⟩<|ab (fJ ?_ ?_)
 rw[a];rfl;rw[a];rfl
theorem Ze {m:gO}(x:m.wf)(b:Int):Ev an 268 [.agg m.ao,I b] (.cG [I (qY m b).1,I (qY m b).2]):=by
 have q:((m.su.map kW.ao).length:Int)=m.su.length:=aF;have D:=x.sn;have z:=Aq x m.su.length af af [b];have c:qY m b=if ig m m.su.length [b]≠0 then(0,ig m m.su.length [b])
  else if vd (dI (bu m (df m 0)) b.toNat)=false then(0,9)
  else((dx (dI (bu m (df m 0)) b.toNat:Nat) m.cl.length).headD 0,0):=rfl
 refine ar amc.ok<|bE [.bY] zz aK<|aa (aA ?_);refine mO [.bY] 6 zz zz cI ?_;rw[<-q]at z;refine ah (cC z zz zz (aW _) zz ?_);rw[q];rintro r Ho C;rcases C with⟨t,rfl⟩|⟨t,rfl⟩
 case inr=>
  rw[zy t]at c;refine aR (dW (az _))<|gk zz<|dw False (el []) [] [] ?_ (λ_ h=>h.elim);refine aJ zz<|aC zz bD<|aJ zz<|ab (fJ ?_ ?_)
  rw[c];rfl;rw[c];rfl
 rw[zj (by rw[t];decide)]at c;obtain⟨ok,u,p⟩:=vk x t;have w:=qU u;obtain⟨i,rfl⟩:=Int.eq_ofNat_of_zero_le w.1;have hi:i<m.su.length:=af;obtain⟨v1,F,G⟩:=Dc ok p hi;have j:=Jw ok p hi;have c4:=ok.c4;have s5:=ok.s5;have A:=bl (n:=2) af c4;have v:((m.cl.map λs=>[bh s]).length:Int)=m.cl.length:=aF;have d:=eB (K2 (dI (bu m (df m 0)) i:Nat) m.cl.length af af af);have g:[I (dI (bu m (df m 0)) i:Nat)]<+:(dX (EF m (bu m (df m 0)))).drop (i*1):=by rw[<-v1];exact pd _ af
 obtain⟨n,k,o⟩:=wO (s:=(dI (bu m (df m 0)) i:Nat)) (n:=m.cl.length) af bD;have f: ∃a l,dx (dI (bu m (df m 0)) i:Nat) m.cl.length=a::l:=by
  cases e:dx (dI (bu m (df m 0)) i:Nat) m.cl.length with
  |cons a l=>grind
  |nil=>have:(n:Int)∈dx (dI (bu m (df m 0)) i:Nat) m.cl.length:=e0.2 ⟨n,dk.2 ⟨e6.2 k,o⟩,zz⟩;rw[e]at this;cases this
 obtain⟨a,E,f⟩:=f;rw[bs]at c;rw[f]at c d;rw[<-v]at d;clear f o k;generalize dI (bu m (df m 0)) i=ev at j c d g v1 F G;generalize vd ev=y at j c;refine aR (dW (az _))<|gk zz<|dw (y=true) (el [(1,I i),(2,.pi m.ao),(6,lpL m)]) [] [] ?_ ?_;refine aJ zz<|dm zz zz<|bE [.ret (B y)] zz ⟨j,zq⟩ ?_;cases y with
 |false=>
  rw[zy zz]at c;refine aC zz zz<|aJ zz<|ab (fJ ?_ ?_)
  rw[c];rfl;rw[c];rfl
 |true=>exact aH zz zz ⟨(),zz,eL⟩
 rintro _ rfl;rw[zj aG]at c;refine xe [] [.pre [I (ev:Nat)],.ret (ints (a::E)),.cells [I a]] zz (by(repeat' (with_reducible apply dn));(all_goals first|exact zk _|((first|exact d|exact g|rfl))))<|ab (fJ ?_ ?_);rw[c];rfl;rw[c];rfl
theorem XZ {t:Nat}{a b:Operand}{env:Env}(ha:bG env a= .agg (dX (aP p)))(d:bG env b= .agg (dX (aP q)))(h: ∀k∈p,k<=4)(i: ∀k∈q,k<=4)(c:n<=5)(f:p.length=n)(g:q.length=n):
  ∀(r:Option Nat) (N:Nat) (D:List Nat),Q1 an r N (.pK true 237 a b) (some t) env H D [(t,B (!decide (p=q)))]:=by
 exact λr N D=>aO.pK (m:=6) aG aX aX aX aX (by rw[ha];rfl) (by rw[d];rfl) (O6 h) (O6 i) (decide (p=q)) (by
  rw[decide_eq_true_iff]
  constructor
  ·grind
  ·exact λe=>F9 c f g e) dO
theorem Qh {m:gO}(Z:m.wf):Ev an 67 [.agg m.ao] (.cG [.any,.any,I (ig m 0 [])]):=by
 have hE:=Aq Z 0 aG aG [];have G:((m.su.map kW.ao).length:Int)=m.su.length:=aF;refine ar S67.ok<|bE [.bY] zz aK<|aa (aA ?_);refine lY 1 zz zz<|ah (cC hE zz zz (.cons (.cons (.ky (.refl _)))) zz ?_);rintro r Ho hr;rcases hr with⟨N,rfl⟩|⟨N,rfl⟩;case inr=>refine aR (dW (az _))<|gk zz<|aa (aa ?_);refine cZ zz<|aC zz bD<|aJ zz<|iF [(4,I (ig m 0 []))] ?_;exact ab (gv (.inr zz) (.many aG ⟨.tmp zz zz,.tmp zz zz,.tmp zz zz,zq⟩))
 rw[N];obtain⟨ok,-,a0⟩:=vk Z N;have s5:=ok.s5;have c4:=ok.c4;refine aR (dW (az _))<|gk zz<|aa (aa ?_);refine cZ zz<|aH zz zz ?_;have o:=λt (h:t∈bu m (df m 0))=>lZ h;have w:=λt (h:t∈bu m (df m 0))=>qg h;have F:(bu m (df m 0)).length<=4^5:=by refine ea (xh (wR m (df m 0)) 4 (λp=>?_) m.su.length []) (bl af s5);have:=ds (λc=>JB m p.length c&&yA m (df m 0) (aP (p++[c])) p.length) (bk m.cl.length);rw[hU]at this;exact ea this c4
 generalize bu m (df m 0)=T at o w F;refine bE [.aT] zz cI<|bW (t:=6) zz λA=>aa (aa (aA ?_));refine lY 4 zz zz<|ah (aO.zV zz (λK mi=>?_));refine gk zz<|aU.iN (Y:=List Nat×List Nat) (λ_=>True) (λy=>el [(1,.pi m.ao),(3,I y.2.length),(6,.po A 0)]) (λy=>[(A,.cells 237 (dX (aP y.1)))]) (λ_=>[]) ?_ ?_
 ·refine bJ (λy=>y.1.Nodup/\(∀j∈y.1,j<T.length)/\(y.1≠[]->y.2∈T)) (λy=>el [(1,.pi m.ao),(3,I y.1.length),(6,.po A 0),(20,.po K 0)])
   (λy=>[(K,.tl mi (T.map (Lj m)) y.1),(A,.cells 237 (dX (aP y.2)))]) (λ_=>[]) (λy=>T.length-y.1.length) ([],[]) ⟨aF,aF,λh=>absurd zz h⟩ eL ?_
  rintro⟨seen,d⟩ ⟨Q,s,f⟩;simp only at Q s f ⊢;have X:seen.length<=T.length:=by have hs:=eP Q (λj E=>e6.2 (s j E));simpa using hs
  refine aa (aA (ah (aO.aae (i:=0) zz zz (λj kv p E he=>?_) (λV=>?_))))
  ·have C:=he;rw[ff,ew]at C;obtain⟨q,W,v⟩:=C;unfold Lj at v;simp at v;obtain⟨rfl,rfl⟩:=v;have P:=(cR.1 W).1;have z:=cc W;have x:(seen++[j]).Nodup:=(by rw[fj];exact⟨Q,aF,by intro a ha c hc e;simp at hc;subst hc e;exact E ha⟩);have g: ∀i∈seen++[j],i<T.length:=by
    intro i hi;rcases eT.1 hi with hi|hi
    exact s i hi;simp at hi;subst hi;exact P
   have J:(seen++[j]).length<=T.length:=(by have hs:=eP x (λj E=>e6.2 (g j E));simpa using hs);simp at J;refine gk zz<|aa (aj (b:=true) zz (λ_=>ak ?_) (λh=>by cases h));refine ay (aa (aA (ah (aO.entry (i:=0) zz zz he ?_))));refine VR [.aT] zz eQ<|ag (aq (t:=7) zz)<|Ik zz bL<|aU.G2 (Y:=Bool) (λc=>c=true\/d∈T) (λc=>el [(1,.pi m.ao),(3,I (seen.length+1)),(6,.po A 0),(7,.pi (dX (aP q))),(20,.po K 0),(39,B c)]) (λ_=>[(K,.tl mi (T.map (Lj m)) (seen++[j])),(A,.cells 237 (dX (aP d)))]) (λ_=>[]) ?_ ?_
   ·by_cases O:seen=[]
    ·subst O;refine tI [(29,true)] [] zz (by(and_intros);(all_goals first|exact zk _|((rfl)))) ?_;exact⟨true,.inl zz,eL⟩
    have L:=f O;have S:((((seen.length:Nat):Int)+1)==1)=false:=(by rw[beq_eq_false_iff_ne];have:seen.length≠0:=λe=>O (fs.1 e);omega);have D:=λ(env:Env) (H:av) (ha:bG env (tm 30)= .agg (dX (aP d))) (hc:bG env (tm 31)= .agg (dX (aP q)))=>XZ (t:=32) (H:=H) ha hc (λk hk=>by have:=w _ L k hk;omega) (λk hk=>by have:=w _ z k hk;omega) s5 (o _ L) (o _ z);by_cases U:d=q
    ·have M:(!decide (d=q))=false:=(by simp [U]);refine tI [(29,false),(33,false)] [.at 1,.op (B (!decide (d=q)))] zz (by(and_intros);(all_goals first|exact zk _|((first|exact S|exact M|exact D _ _ rfl rfl)))) ?_;exact⟨false,.inr L,eL⟩
    have M:(!decide (d=q))=true:=(by simp [U]);have u:=En [(aP q 0:Int),aP q 1,aP q 2,aP q 3,aP q 4] [(aP d 0:Int),aP d 1,aP d 2,aP d 3,aP d 4];generalize cmpL [(aP q 0:Int),aP q 1,aP q 2,aP q 3,aP q 4] [(aP d 0:Int),aP d 1,aP d 2,aP d 3,aP d 4]=R at u;refine tI [(29,false),(33,true)] [.at 1,.op (B (!decide (d=q))),.H9 [ints [(aP q 0:Int),aP q 1,aP q 2,aP q 3,aP q 4],ints [(aP d 0:Int),aP d 1,aP d 2,aP d 3,aP d 4]] (I R)] zz (by(repeat' (with_reducible apply dn));(all_goals first|exact zk _|((first|exact S|exact M|exact D _ _ rfl rfl|exact u|exact c8 5|exact h0 _|decide|exact⟨.refl _,jC.slc (i:=1) (n:=5) (kk:=1) (cs:=dX (aP d)) rfl (c8 5) aG,trivial⟩)))) ?_;exact⟨decide (R<0),.inr L,eL⟩
   rintro c hc;cases c with
   |true=>refine aC zz zz<|hxH [.iL 1] zz ⟨⟨zz,zz,zz,zz,c8 5⟩,zq⟩ ?_;exact⟨(seen++[j],q),⟨x,g,λ_=>z⟩,by simp only[bA,cd,de];omega,ai (aw zz) (au ⟨zz,by show I _=I _;simp,zz,zz,zq⟩)⟩
   |false=>exact aH zz zz ⟨(seen++[j],d),⟨x,g,λ_=>hc.elim (λh=>by cases h) id⟩,by simp only[bA,cd,de];omega,au ⟨zz,by show I _=I _;simp,zz,zz,zq⟩⟩
  refine gk zz<|aa (dm zz zz ?_);exact aE ⟨(d,seen),zq,ai (dW (et _ _)) eL⟩
 rintro⟨d,k⟩ _;refine ag (bO.jw (i:=0) 6 zz zz)<|ag (ai (aw (H':=[]) zz) (au (l:=[(1,.pi m.ao),(3,I k.length),(6,.pi (dX (aP d)))]) xH))<|aa (aA ?_);refine lY 3 zz zz<|ah (aO.ji m.su.length zz zz G G af af zz (λb=>?_));refine gk zz<|aa (aA ?_);refine Rz 2 zz zz ⟨⟨⟨zq,zq⟩,⟨c8 5,aG⟩,aG,aG⟩,zq⟩<|ah (aO.Ot (i:=0) (ys:=[[I (aP d 0:Nat)],[I (aP d 1:Nat)],[I (aP d 2:Nat)],[I (aP d 3:Nat)],[I (aP d 4:Nat)]]) zz zz zz ?_);refine gk zz<|aJ zz<|ag (ai (dW (H':=[]) (az _)) (au (l:=[(4,I 0)]) cI)) ?_;exact ab (gv (.inr zz) (.many aG ⟨.tmp zz zz,.tmp zz zz,.tmp zz zz,zq⟩))
theorem T1:an.underlying 179=some (.pointer 182):=aX
theorem aaj:an.underlying 379=some .unsafePointer:=aX
theorem aeH:((an.info? 182).map λi=>i.size)=some 2:=aX
theorem Yz:liesAt an an.depth 182 (2/an.cellsOf 182) 0 182 1=true:=aX
set_option maxHeartbeats 1000000 in
set_option maxRecDepth 100000 in
theorem Z0 (b:Nat)(w:World)(c:w.cell? ⟨b,0,none⟩=some (.pointer (some ⟨b,0,none⟩))):
  Calls an 197 #[.pointer (some ⟨b,0,none⟩)] w λe w'=>e= .returned (.tuple #[])/\w'=w:=by
 obtain⟨j,a,_⟩:=ew.1 aeH
 go_enter hX,ka
 go_wp2
 rw[Lib.run_neq_ptr_same w _ T1 a]
 go_wp2
 go_end0
 exact⟨zz,zz⟩
set_option maxHeartbeats 1000000 in
set_option maxRecDepth 100000 in
theorem Uu (b:Nat)(w:World)(g:w.cell? ⟨b,0,none⟩=some (.pointer none))(a:w.shape? b=some (182,2))(f:w.frozen? ⟨b,0,none⟩=false):
  Calls an 197 #[.pointer (some ⟨b,0,none⟩)] w λe w'=>e= .returned (.tuple #[])/\w'=w.setCell ⟨b,0,none⟩ (.pointer (some ⟨b,0,none⟩)):=by
 obtain⟨j,d,c⟩:=ew.1 aeH
 go_enter hX,ka
 go_wp2
 rw[Lib.run_to_unsafe w ⟨b,0,none⟩ T1 aaj d (by rw[c];decide) a (Nat.zero_lt_succ 1)]
 simp only[ht]
 rw[ga]
 go_wp2
 rw[run_callFunc_extern Tryz.func299 (by kernel_rfl) (by kernel_rfl) (by kernel_rfl) (e:=kb) (by kernel_rfl)]
 rw[Lib.run_noEscape]
 simp only[ht]
 rw[ga]
 go_wp2
 rw[Lib.run_from_unsafe w ⟨b,0,none⟩ aaj T1 d a Yz]
 simp only[ht]
 rw[ga]
 go_wp2
 go_end0
 exact⟨zz,zz⟩
theorem Ht:uc an 197:=⟨_,hX,aX,aX⟩
theorem xR (b:Nat)(c0 x:AV)(h:c0= .v (.pointer none)\/c0= .po b 0):iM an 197 [.po b 0] [(b,.cells 182 [c0,x])] (λ_ Ho=>Ho=[(b,.cells 182 [.po b 0,x])]):=by
 refine⟨Ht,?_⟩;intro S w A _ k f l u;simp only[aS,bf]at f;obtain⟨c,t,rfl,rfl,rfl⟩:=f;have n:=l _ (en.2 zz);obtain⟨o,a,hh⟩:=n.holds;obtain⟨cs,rfl,s,r⟩:=hh;simp only[aS]at s;obtain⟨v0,y,rfl,i,v1,z,rfl,m,rfl⟩:=s;have q:w.cell? ⟨b,0,none⟩=some v0:=by rw[Lib.cell_of_heap a];rfl
 rcases h with rfl|rfl;simp only[bf]at i;subst i;refine(Uu b w q (by simp [World.shape?,a]) (Lib.frozen_of_heap a 0)).mono ?_;rintro e w' ⟨rfl,rfl⟩;have d: ∀g,g≠b->(w.setCell ⟨b,0,none⟩ (.pointer (some ⟨b,0,none⟩))).heap[g]? =w.heap[g]? :=by intro g hg;simp only[hB,gm];rw[zj (λe=>hg e.symm)]
 have j:(w.setCell ⟨b,0,none⟩ (.pointer (some ⟨b,0,none⟩))).heap[b]? =some (.cells #[.pointer (some ⟨b,0,none⟩),v1] 182 (0,0)):=by simp only[hB,gm,a,if_true,Option.map_some];rfl
 refine⟨.tuple #[],S,none,.cG [],[(b,.cells 182 [.po b 0,x])],zz,zz,qT S,k.uw (λg hg=>d g (λe=>n.apart (e▸hg))),λ_ p=>.inl p,?_,cH.gW zz (by simp only[bf];exact⟨[],zz,by simp [aS]⟩),?_,aF,λ_ e=>by cases e⟩;exact⟨zz,zz,zz,by simp [hB],λg _ hg=>d g (λe=>hg (.inr (by simp [e])))⟩;intro e he;rw[en]at he;subst he;refine⟨.inr aF,n.apart,_,j,[.pointer (some ⟨b,0,none⟩),v1],zz,?_,?_⟩;simp only[aS,bf];exact⟨_,_,zz,zz,_,_,zz,m,zz⟩;intro c hc;simp at hc;rcases hc with rfl|rfl
 rfl;exact r _ aF
 simp only[bf]at i;subst i;refine(Z0 b w q).mono ?_;rintro e w' ⟨rfl,rfl⟩;refine⟨.tuple #[],S,none,.cG [],[(b,.cells 182 [.po b 0,x])],zz,zz,qT S,k,λ_ p=>.inl p,iC.refl _ _,cH.gW zz (by simp only[bf];exact⟨[],zz,by simp [aS]⟩),?_,aF,λ_ e=>by cases e⟩;intro e he;rw[en]at he;subst he;refine⟨.inr aF,n.apart,_,a,[.pointer (some ⟨b,0,none⟩),v1],zz,?_,r⟩;simp only[aS,bf];exact⟨_,_,zz,zz,_,_,zz,m,zz⟩
def xP (b:Nat)(c0:AV):Option (Nat×Nat)->List UInt8->av
 |none,_=>[(b,.cells 182 [c0,.nil])]
 |some (g,cap),l=>[(b,.cells 182 [c0,.so g l.length cap]),(g,.arr 5 1 cap (l.map λc=>[U c.toNat]))]
def wG:Option (Nat×Nat)->List UInt8->Prop
 |none,l=>l=[]
 |some _,l=>l≠[]
theorem wf_i64 {n:Int}(c: -9223372036854775808<=n)(d:n<=9223372036854775807):(cy .i64 n).wf=true:=by have a:kj.min= -9223372036854775808:=rfl;have b:kj.max=9223372036854775807:=rfl;simp [Lit.wf];omega
theorem aaH {a b:Int}(ha:(cy .i64 a).wf=true)(e:(cy .i64 b).wf=true):bS an 3 128 (.agg #[.int .i64 a,.int .i64 b]):=by have c:an.cellsOf 128=2:=aX;have d:an.cellsOf 3=1:=aX;refine⟨?_,[.int .i64 a,.int .i64 b],?_⟩;simp [e3,hH,c];simp [fk,ek,hH,ec,c,d,ha,e]
theorem PR {a b c d:Int}(ha:(cy .i64 a).wf=true)(e:(cy .i64 b).wf=true)(hc:(cy .i64 c).wf=true)(hd:(cy .i64 d).wf=true){neg:Bool}{y:Operand}{env:Env}{t:Nat}
  (hx:valOf (bG env x)=some (.agg #[.int .i64 a,.int .i64 b])) (hy:valOf (bG env y)=some (.agg #[.int .i64 c,.int .i64 d])):
  ∀(r:Option Nat) (N:Nat) (D:List Nat),Q1 an r N (.pK neg 128 x y) (some t) env H D [(t,B (if neg=true then !decide (a=c/\b=d)else decide (a=c/\b=d)))]:=by exact λr N D=>aO.pK (m:=3) aG aX aX aX aX hx hy (aaH ha e) (aaH hc hd) (decide (a=c/\b=d)) bD dO
theorem Vy (p:Part):mH p=if 3<p.words.length then 3 else if iU p.words=true then(if 0<p.words.length then(if p.lo=0/\p.hi=0 then 0 else 2)else if (ae 0 3 [p.lo,p.hi]||decide (p.hi=0))=true then 7 else if p.hi<p.lo then 2 else 0)else 6:=by unfold mH;have e:(p.words≠[])=(0<p.words.length):=bD;simp only[e]
theorem Qd (p:Part)(g:p.wf):Ev an 103 [.agg p.ao] (I (mH p)):=by
 have k:=wf_i64 g.Xp g.lo1;have j:=wf_i64 g.uT g.MR;have d:=wf_i64 (n:=0) aG aG;have f:(p.words.map λs=>[bh s]).length=p.words.length:=ap _;have b:=Ii 0 3 [p.lo,p.hi];apply ar aj5.ok;rw[Vy];refine bE [.bY] zz aK<|bE [.ret (I (if iU p.words=true then 0 else 6))] zz ⟨Fa _,zq⟩<|aU.pD<|aJ zz<|aj zz (λh=>?_) (λh=>?_)
 have h:3<p.words.length:=bD;rw[zy h];refine aJ zz<|ab (aD ?_);rfl
 have h: ¬3<p.words.length:=bD;rw[zj h];by_cases a:iU p.words=true;case neg=>rw[zj a];refine ag (au (l:=[(1,.pi p.ao),(3,I 6)]) ⟨zz,by rw[zj a];rfl,zq⟩)<|aJ zz<|aC zz zz<|aJ zz<|ab (aD ?_);rfl
 rw[zy a];refine ag (au (l:=[(1,.pi p.ao),(3,I 0)]) ⟨zz,by rw[zy a];rfl,zq⟩)<|aJ zz<|dm zz zz ?_;by_cases hl:0<p.words.length
 ·rw[zy hl];have g1:decide (((p.words.map λs=>[bh s]).length:Int)>0)=true:=decide_eq_true (by rw[f];omega);refine vS [(21,true)] [.op (B (!decide (p.lo=0/\p.hi=0)))] zz (by(and_intros);(all_goals try exact zt _);exact PR k j d d zz zz)<|aj zz (λc=>?_) (λc=>?_)
  have c: ¬(p.lo=0/\p.hi=0):=(by intro e;simp [e.1,e.2]at c);rw[zj c];refine aJ zz<|ab (aD ?_);rfl
  have c:p.lo=0/\p.hi=0:=(by simpa using c);rw[zy c];refine aJ zz<|aj zz (λ_=>?_) (λh=>absurd hl (by simpa using h));refine aJ zz<|ab (aD ?_);rfl
 rw[zj hl];have g1:decide (((p.words.map λs=>[bh s]).length:Int)>0)=false:=decide_eq_false (by rw[f];omega);refine vS [(21,false)] [] zz bD<|dm zz zz<|aJ zz<|aj zz (λh=>absurd (by simpa using h) (show ¬(0<p.words.length)from hl)) (λ_=>?_);generalize m:ae 0 3 [p.lo,p.hi]=bb at b;refine eZ True (el [(1,.pi p.ao),(32,B (bb||decide (p.hi=0)))]) [] [] ?_ (λ_ _=>?_)
 ·cases bb with
  |true=>refine kD [(41,true)] [.bY,.ret (B true)] zz (by(repeat' (with_reducible apply dn));(all_goals try exact zt _);exact b) ?_;exact⟨(),zq,eL⟩
  |false=>refine kD [(41,false)] [.bY,.ret (B false)] zz (by(repeat' (with_reducible apply dn));(all_goals try exact zt _);exact b) ?_;refine⟨(),zq,au ⟨zz,?_,zq⟩⟩;have:(false||decide (p.hi=0))=(p.hi==0):=(by rw[Bool.false_or,fx];simp);rw[this];rfl
 refine aj zz (λi=>?_) (λi=>?_);rw[zy i];refine aJ zz<|ab (aD ?_);rfl
 rw[zj (by simp [i])];refine aJ zz<|aj zz (λh=>?_) (λh=>?_)
 have h:p.hi<p.lo:=(by simpa using h);rw[zy h];refine aJ zz<|ab (aD ?_);rfl
 have h: ¬p.hi<p.lo:=(by simpa using h);rw[zj h];refine ak<|aJ zz<|ab (aD ?_);rfl
theorem Bl {f:Nat->Int}(h:k<n):(aB f (n-k) k)=if f k=0 then aB f (n-(k+1)) (k+1)else((k:Int),f k):=by rw[show n-k=(n-(k+1))+1 by omega,aB]
theorem LU (x f:Form):Ev an 102 [.agg x.ao,.pi f.ao] (B (x.name==f.name)):=by refine ar ak8.ok<|bE [.bY] zz aK<|aJ zz<|ab (aD ?_);show B _=B _;simp
theorem F7 (s:Shelf)(D:s.wf):Ev an 48 [.agg s.ao] (.cG [I (eh s).1,I (eh s).2.1,I (eh s).2.2]):=by
 apply ar S48.ok;have y:(s.bi.map Form.ao).length=s.bi.length:=ap _;have res: ∀{env:Env} {H:av} {p q r:Int},eh s=(p,q,r)->env 2=I p->env 3=I q->env 4=I r->qn an [.tmp 2,.tmp 3,.tmp 4] (.cG [I (eh s).1,I (eh s).2.1,I (eh s).2.2]) .ret env H []:=by intro env H p q r h l i h4;rw[h];exact gv (.inr zz) (.many aG ⟨.tmp l zz,.tmp i zz,.tmp h4 zz,zq⟩)
 refine bE [.bY] zz aK<|aU.pD<|bE [.bY,.ret (B (ae 8 30 [s.w]))] zz ⟨zz,Ii 8 30 [s.w],zq⟩<|aj zz (λhc=>?_) (λhc=>?_)
 apply aJ zz;exact ab (res (by simp only[eh,hc,if_true]) zz zz zz);refine aJ zz<|aj zz (λhd=>?_) (λhd=>?_)
 have hd:4<s.bi.length:=bD;apply aJ zz;exact ab (res (by simp only[eh,hc,hd,if_true,if_false,hD]) zz zz zz);have hd: ¬4<s.bi.length:=bD;apply ak;have u:eh s=if (aB (iY s.bi) s.bi.length 0).2=0 then(0,0,0)else(2,(aB (iY s.bi) s.bi.length 0).1,(aB (iY s.bi) s.bi.length 0).2):=by simp only[eh,hc,hd,if_false,hD]
 refine aa (aa ?_);refine cZ zz<|cj ((aB (iY s.bi) s.bi.length 0).2=0) (el []) [] [] ?_ ?_
 refine gf (λk:Nat=>k<=s.bi.length/\aB (iY s.bi) s.bi.length 0=aB (iY s.bi) (s.bi.length-k) k) (λk=>el [(1,.pi s.ao),(20,uO s.bi),(21,I s.bi.length),(22,I k)]) (λk=>s.bi.length-k) 0 nN
  (au ⟨zz,zz,by show I _=I _;rw[y],zz,zq⟩) ?_
 rintro k ⟨hk,hi⟩;refine aJ zz<|aa (aj zz (λhe=>?_) (λhe=>?_));simp only[nL]at he;obtain⟨f,v⟩:=bq he;have n:=D.bi f (cc v);have C:(f.parts.map Part.ao).length=f.parts.length:=ap _;rw[Bl he]at hi;have a:iY s.bi k=if eI f.name=true then(if (s.bi.take k).any (λx=>x.name==f.name)=true then 5 else if 5<f.parts.length then 3 else(aB (lE f.parts) f.parts.length 0).2)else 6:=by simp only[iY,v]
 have d: ∀{e:Int},iY s.bi k=e->e≠0->eh s=(2,(k:Int),e):=(by intro e g l;rw[g,zj l]at hi;rw[u,hi,zj l]);refine ak<|dw (iY s.bi k=0) (el [(1,.pi s.ao),(20,uO s.bi),(21,I s.bi.length),(22,I k)]) [] [] ?_ ?_
 refine bE [.cells f.ao,.aT] zz ⟨⟨af,by simp [v]⟩,zz,ef,zq⟩<|ag (aq (t:=6) zz)<|aU.pD<|bE [.ret (B (eI f.name))] zz ⟨vM f.name n.name,zq⟩<|aj zz (λg=>?_) (λg=>?_)
 have g:eI f.name=false:=(by simpa using g);refine aJ zz ?_;exact ab (res (d (by rw[a,zj (by simp [g])]) aG) zz zz zz);have g:eI f.name=true:=(by simpa using g);rw[zy g]at a;refine bE [.yt [uO (s.bi.take k),.fn (.func 102) [] [.pi f.ao]] (B ((s.bi.take k).any (λx=>x.name==f.name)))] zz ⟨⟨⟨zq,af⟩,aF,by simp;omega⟩,⟨He _ _ _ _ (λx _=>LU x f),gN (by show [AV.sl 2 ((s.bi.map Form.ao).take k),.fn (.func 102) [] [.pi f.ao]]=_;rw[<-j8])⟩,zq⟩<|aj zz (λl=>?_) (λl=>?_)
 rw[zy l]at a;refine aJ zz ?_;exact ab (res (d a aG) zz zz zz);rw[zj (by simp [l])]at a;refine aJ zz<|aj zz (λi=>?_) (λi=>?_)
 have i:5<f.parts.length:=(by simp at i;omega);rw[zy i]at a;refine aJ zz ?_;exact ab (res (d a aG) zz zz zz);have i: ¬5<f.parts.length:=(by simp at i;omega);rw[zj i]at a;refine ak<|aJ zz<|ay<|gf (λj:Nat=>j<=f.parts.length/\aB (lE f.parts) f.parts.length 0=aB (lE f.parts) (f.parts.length-j) j) (λj=>el [(1,.pi s.ao),(5,I k),(20,uO s.bi),(21,I s.bi.length),(22,I k),(48,ic f.parts),(49,I f.parts.length),(50,I j)]) (λj=>f.parts.length-j) 0 nN
  (au ⟨zz,zz,zz,zz,zz,zz,by show I _=I _;rw[C],zz,zq⟩) ?_
 rintro j ⟨E,b⟩;refine aJ zz<|aa (aj zz (λc=>?_) (λc=>?_));simp only[nL]at c;obtain⟨p,z⟩:=bq c;have A:lE f.parts j=mH p:=(by simp only[lE,z]);rw[Bl c,A]at b;refine ak<|dw (mH p=0) (el [(1,.pi s.ao),(5,I k),(20,uO s.bi),(21,I s.bi.length),(22,I k),(48,ic f.parts),(49,I f.parts.length),(50,I j)]) [] [] ?_ ?_
 refine bE [.cells p.ao,.aT] zz ⟨⟨af,by simp [z]⟩,zz,ef,zq⟩<|ag (aq (t:=8) zz) ?_;have m:=Qd p (n.parts p (cc z));generalize mH p=e at b m;refine bE [.ret (I e)] zz ⟨m,zq⟩<|aJ zz<|aj zz (λh4=>?_) (λh4=>?_)
 have h4:e≠0:=(by simpa using h4);rw[zj h4]at b;rw[b]at a;refine aJ zz ?_;exact ab (res (d a h4) zz zz zz);have h4:e=0:=(by simpa using h4);exact ak ⟨(),h4,eL⟩
 intro _ o;rw[zy o]at b;refine fE zz bL ?_;exact⟨j+1,⟨af,b⟩,af,eL⟩
 simp only[nL]at c;refine aE ⟨(),?_,eL⟩;rw[a,b,show f.parts.length-j=0 from af];rfl
 intro _ o;rw[zy o]at hi;refine fE zz bL ?_;exact⟨k+1,⟨af,hi⟩,af,eL⟩
 simp only[nL]at he;refine aE ⟨(),?_,au zq⟩;rw[hi,show s.bi.length-k=0 from af];rfl
 intro _ o;refine aJ zz ?_;exact ab (res (p:=0) (q:=0) (r:=0) bD zz zz zz)
abbrev Dp (l:List (Int×Int)):AV:=.sl 2 (l.map λr=>[I r.1,I r.2])
theorem KN (ps:List Part)(p:Part):bK (ps++[p])=if p.roomy=true then bK ps++[(p.lo,p.hi)]else bK ps:=by grind [bK]
theorem xv (ps:List Part):(bK ps).length<=ps.length:=by unfold bK;rw[ap];exact ds _ _
theorem E5 {s:Shelf}{n:Int}(h:iw s n=0):(eh s).2.2=0/\DU s/\0<=n/\n.toNat<s.bi.length/\s.bi.length<=4/\ ∃f,s.bi[n.toNat]? =some f/\Df f/\partsOf s n=f.parts:=by unfold iw at h;split at h;rename_i c;have V:=zF.1 c;split at h;cases h;rename_i d;simp only[ae,List.any_cons,List.any_nil,Bool.or_false,Bool.or_eq_true,decide_eq_true_eq,not_or]at d;have a:n.toNat<s.bi.length:=af;obtain⟨f,b⟩:=bq a;exact⟨c,V,af,a,V.f4,f,b,(V.bi f (cc b)).2,by simp only[partsOf,b]⟩;grind
theorem FU {l m:List e}(h:l.length=m.length)(k:Nat)(hk:l.length<=k)(hi: ∀i,i<k->l[i]? =m[i]?):l=m:=by apply e9;intro i;by_cases a:i<k;grind;grind
theorem Gf (l m:List Wd):Ev an 8 [strs l,strs m] (B (l==m)):=by
 refine ar S8.ok<|gn 0 zz λd=>?_;have hl:(l.map λs=>[bh s]).length=l.length:=ap _;have hm:(m.map λs=>[bh s]).length=m.length:=ap _;refine aJ zz<|aa (aa ?_);refine cZ zz<|aj zz (λhc=>?_) (λhc=>?_)
 have hc:l.length≠m.length:=bD;refine aJ zz<|ab (aD ?_);show B _=B _;have:l≠m:=λe=>hc (by rw[e]);simp [this]
 have hc:l.length=m.length:=bD;refine ak<|aa (aa ?_);refine cZ zz<|cj (l=m) (el []) [] [] ?_ ?_
 refine gf (λk:Nat=>k<=l.length/\ ∀i,i<k->l[i]? =m[i]?) (λk=>el [(0,strs l),(1,strs m),(5,I k)]) (λk=>l.length-k) 0 ⟨af,λi hi=>af⟩
  eL ?_
 rintro k ⟨hk,hi⟩;refine aa (aa ?_);refine cZ zz<|aj zz (λhe=>?_) (λhe=>?_);simp at he;obtain⟨x,hx⟩:=bq he;obtain⟨y,hy⟩:=bq (l:=m) (k:=k) af;refine ak<|dw (x=y) (el [(0,strs l),(1,strs m),(5,I k)]) [] [] ?_ ?_
 refine aa<|tI [] [.cells [bh x],.cells [bh y]] zz ⟨⟨af,by simp [hx]⟩,⟨af,by simp [hy]⟩,zq⟩<|aj zz (λa=>?_) (λa=>?_)
 have a:x≠y:=(by intro e;subst e;simp at a);refine aJ zz<|ab (aD ?_);show B _=B _;have:l≠m:=by intro e;rw[e,hy]at hx;exact a (j1 hx).symm
 simp [this]
 have a:x=y:=(by simpa using a);exact ak ⟨(),a,eL⟩
 refine λ_ b=>fE zz bL ?_;refine⟨k+1,⟨af,?_⟩,af,eL⟩;intro i h;by_cases c:i<k;exact hi i c;have:i=k:=af;subst this;rw[hx,hy,b]
 simp at he;exact aE ⟨(),FU hc k af hi,au zq⟩
 refine λ_ b=>aJ zz<|ab (aD ?_);show B _=B _;simp [b]
theorem Ro (l m:List (List Wd)):Ev an 29 [sR l,sR m] (B (l==m)):=by
 refine ar S29.ok<|gn 0 zz λd=>?_;have hl:(l.map λs=>[strs s]).length=l.length:=ap _;have hm:(m.map λs=>[strs s]).length=m.length:=ap _;refine aJ zz<|aa (aa ?_);refine cZ zz<|aj zz (λhc=>?_) (λhc=>?_)
 have hc:l.length≠m.length:=bD;refine aJ zz<|ab (aD ?_);show B _=B _;have:l≠m:=λe=>hc (by rw[e]);simp [this]
 have hc:l.length=m.length:=bD;refine ak<|aa (aa ?_);refine cZ zz<|cj (l=m) (el []) [] [] ?_ ?_
 refine gf (λk:Nat=>k<=l.length/\ ∀i,i<k->l[i]? =m[i]?) (λk=>el [(0,sR l),(1,sR m),(5,I k)]) (λk=>l.length-k) 0 ⟨af,λi hi=>af⟩
  eL ?_
 rintro k ⟨hk,hi⟩;refine aa (aa ?_);refine cZ zz<|aj zz (λhe=>?_) (λhe=>?_);simp at he;obtain⟨x,hx⟩:=bq he;obtain⟨y,hy⟩:=bq (l:=m) (k:=k) af;refine ak<|dw (x=y) (el [(0,sR l),(1,sR m),(5,I k)]) [] [] ?_ ?_
 refine aa<|tI [] [.cells [strs x],.cells [strs y],.ret (B (x==y))] zz ⟨⟨af,by simp [hx]⟩,⟨af,by simp [hy]⟩,Gf x y,zq⟩<|aj zz (λa=>?_) (λa=>?_)
 have a:x≠y:=(by intro e;subst e;simp at a);refine aJ zz<|ab (aD ?_);show B _=B _;have:l≠m:=by intro e;rw[e,hy]at hx;exact a (j1 hx).symm
 simp [this]
 have a:x=y:=(by simpa using a);exact ak ⟨(),a,eL⟩
 refine λ_ b=>fE zz bL ?_;refine⟨k+1,⟨af,?_⟩,af,eL⟩;intro i h;by_cases c:i<k;exact hi i c;have:i=k:=af;subst this;rw[hx,hy,b]
 simp at he;exact aE ⟨(),FU hc k af hi,au zq⟩
 refine λ_ b=>aJ zz<|ab (aD ?_);show B _=B _;simp [b]
theorem uy: ∀(ps:List Part) (ms:List Nat),ms.length=(bK ps).length->gu ps ms=uo ps (ms.map sY)
 |[],ms,h=>by simp [gu,uo]
 |p::ps,ms,h=>by
  rw[ul]at h;simp only[gu,uo];by_cases a:p.roomy=true;rw[zy a]at h;rw[zy a,zy a];cases ms with
  |nil=>simp at h
  |cons m ms=>simp only[cd,Nat.add_right_cancel_iff]at h;rw[ej,e7,j7,ej,e7,uy ps ms h]
  rw[zj a]at h;rw[zj a,zj a,uy ps ms h]
theorem uE {f:Form}(d:Df f){ms:List Nat}(h:ms∈jW (bK f.parts)):ms.length=(bK f.parts).length/\(∀m∈ms,m<=3)/\(gu f.parts ms).length<=15:=by
 have hl:=JZ h;have a:=DK d.parts;have c:=(Jz (λr b=>(a r b).1)).1 h;have e: ∀m∈ms,m<=3:=by intro m hm;obtain⟨i,hi⟩:=gM.1 hm;have g:=(cR.1 hi).1;obtain⟨r,b⟩:=bq (l:=bK f.parts) (k:=i) af;have h4:=O7 c b hi;have n:=a r (cc b);omega
 refine⟨hl,e,?_⟩;rw[uy f.parts ms hl];have:=An f.parts (ms.map sY) (λp j=>(d.parts p j).w3) ?_;have:=d.p5;omega;intro x hx;obtain⟨m,hm,rfl⟩:=e0.1 hx;simp only[sY,cD];exact e m hm
theorem jT (a b:List UInt8):(⟨a.toArray⟩:ByteArray)++⟨b.toArray⟩=⟨(a++b).toArray⟩:=by apply j6;simp [ki]
theorem agi (a b:List UInt8):AV.v (.string ((⟨a.toArray⟩:ByteArray)++⟨b.toArray⟩))=bh (a++b):=congrArg (λs=>AV.v (.string s)) (jT a b)
theorem uZ (a:List UInt8):(⟨a.toArray⟩:ByteArray).size=a.length:=by show a.toArray.size=_;simp
theorem pJ (b:Nat)(c0:AV)(o:Option (Nat×Nat))(l s:List UInt8)(h:c0= .v (.pointer none)\/c0= .po b 0)(a:wG o l)(hs:s≠[])(hl:l.length+s.length<=1000000000):
  iM an 96 [.po b 0,bh s] (xP b c0 o l) (λ_ Ho=> ∃k,wG k (l++s)/\Ho=xP b (.po b 0) k (l++s)):=by
 refine bH S96.ok<|aJ zz ?_
 have p:(hO s.toArray).size=s.length:=rfl;cases o with
 |none=>
  simp only[wG]at a;subst a;refine aa (aA ?_);refine lY 1 zz zz<|ah (cC (xR b c0 .nil h) zz zz (aW _) zz ?_)
  rintro res f rfl;refine gk zz<|aa (aA ?_);refine mO [.at 0] 6 zz zz cI<|aR (bO.mM (t:=12) 5 1 zz)<|ah (aO.nF zz zz bD bD ?_);refine aY.mJ (t:=14) zz (λe=>absurd (by simpa using e) hs) (λg cap=>?_);refine aR (cM (e5 _ _ _))<|lY 2 zz zz<|ah (bz (i:=0) zz zz zz zz zz zz bD ?_);refine gk zz<|aJ zz<|ab ⟨.inr zz,_,.cG [I s.length,.v .nilIface],xP b (.po b 0) (some (g,cap)) ([]++s),zz,.many aG ⟨.tmp zz zz,.tmp zz zz,zq⟩,⟨some (g,cap),hs,zz⟩,?_⟩;have e:s.length=(s.map λc=>[U c.toNat]).length:=(ap _).symm;simp only[xP,fD];rw[e];exact cb _
 |some m=>obtain⟨g,cap⟩:=m;simp only[wG]at a;refine aa (aA ?_);refine lY 1 zz zz<|ah (cC (Hin:=[(b,.cells 182 [c0,.so g l.length cap])]) (H0:=[(g,.arr 5 1 cap (l.map λc=>[U c.toNat]))]) (xR b c0 _ h) zz zz (aW _) zz ?_);rintro res f rfl;refine gk zz<|aa (aA ?_);refine mO [.at 0] 6 zz zz cI<|aR (bO.lC (i:=1) (t:=12) (es:=l.map λc=>[U c.toNat]) (by simp;rfl) zz) ?_;have n:(l.map λc=>[U c.toNat]).length=l.length:=ap _;refine ah (aO.nF (es:=l.map λc=>[U c.toNat]) (s:=⟨s.toArray⟩) zz zz bD bD ?_);refine aY.mJ (t:=14) (es:=(l++s).map λc=>[U c.toNat]) (by rw[bx];rfl) (λe=>by simp at e;exact absurd e.1 a) (λj d=>?_);refine aR (cM (e5 _ _ _))<|lY 2 zz zz<|ah (bz (i:=0) zz zz zz zz zz zz bD ?_);refine gk zz<|aJ zz<|ab ⟨.inr zz,_,.cG [I s.length,.v .nilIface],xP b (.po b 0) (some (j,d)) (l++s),zz,.many aG ⟨.tmp zz zz,.tmp zz zz,zq⟩,⟨some (j,d),by simp [wG,a],zz⟩,?_⟩;have e:(l++s).length=((l++s).map λc=>[U c.toNat]).length:=(ap _).symm;simp only[xP];rw[e];exact cb _
theorem aa8:an.underlying 281=some (.pointer 5):=aX
theorem afb:an.cellsOf 5=1:=aX
theorem Ll (b:Nat)(c0:AV)(o:Option (Nat×Nat))(l:List UInt8)(a:wG o l)(hl:l.length<=1000000000):
  iM an 97 [.po b 0] (xP b c0 o l) (λr Ho=>r=bh l/\Ho=[]):=by
 refine bH S97.ok<|aJ zz ?_
 have h:(hO l.toArray).size=l.length:=rfl;cases o with
 |none=>simp only[wG]at a;subst a;refine aa (zg [] [.at 0,.op (.v (.pointer none)),.at 0] zz ⟨zz,λ_ _ _=>aO.acf zz dO,zz,zq⟩ ?_);refine ah (aO.ae4 zz zz ?_);refine gk zz<|ab ⟨.inr zz,_,_,[],zz,.one (.tmp zz zz),gJ,az _⟩
 |some j=>
  obtain⟨g,cap⟩:=j;simp only[wG]at a;have f:(l.map λc=>[U c.toNat]).length=l.length:=ap _;refine aU.ada 1 zz λd=>?_;have e:cap≠0:=by rw[f]at d;have:=List.length_pos_iff.2 a;omega
  refine aa (zg [] [.at 0,.op (.po g 0),.at 0] zz ⟨zz,λ_ _ _=>aO.ac6 zz e dO,zz,zq⟩ ?_);refine ah (aO.ad5 (i:=1) (s:=⟨l.toArray⟩) zz zz zz aa8 afb ?_ ?_ ?_);grind;rw[h];omega;refine gk zz<|ab ⟨.inr zz,_,_,[],zz,.one (.tmp zz zz),gJ,az _⟩
abbrev pv (l:List (Int×Int)):List (List AV):=l.map λr=>[I r.1,I r.2]
abbrev iX (f:Form):AV:=.pi [bh f.name,ic f.parts,Dp (bK f.parts)]
theorem zN {l:List e}{x:e}(h:l[k]? =some x):l.take (k+1)=l.take k++[x]:=by rw[List.take_add_one,h];rfl
abbrev Tc (l:List (Int×Int)):Option (Option Addr×Nat)->List (Nat×AV)
 |none=>[]
 |some (a,cap)=>[(28,.gT 128 2 (pv l) a cap)]
abbrev K8 (f:Form)(l:List (Int×Int)):Option (Option Addr×Nat)->List AV
 |none=>[bh f.name,ic f.parts,.nil]
 |some (a,cap)=>[bh f.name,ic f.parts,.v (.slice a l.length cap)]
theorem W3 (f:Form)(F:f.parts.length<=5):Ev an 385 [.agg f.ao] (iX f):=by
 have s:(f.parts.map Part.ao).length=f.parts.length:=ap _;refine ar alO.ok<|bE [.bY] zz aK<|aa (aA ?_);refine mO [.aT] 3 zz zz aK<|aY.ie (t:=8) zz (λb=>?_);refine gk zz<|ag (ai (cW (j:=0) [bh f.name,ic f.parts,.nil] zz ⟨bj _,bj _,(λS v h=>by simp only[bf]at h ⊢;exact h),zq⟩) (au (l:=[(1,.pi f.ao),(3,.po b 0)]) jA))<|aa (aa ?_);refine cZ zz<|aU.iN (λy=>y=none->bK f.parts=[]) (λy=>el ((3,.po b 0)::Tc (bK f.parts) y)) (λy=>[(b,.cells 415 (K8 f (bK f.parts) y))]) (λ_=>[]) ?_ ?_
 refine bJ (X:=Nat×Option (Option Addr×Nat)) (λx=>x.1<=f.parts.length/\(x.2=none->bK (f.parts.take x.1)=[])) (λx=>el ((3,.po b 0)::(10,ic f.parts)::(11,I f.parts.length)::(12,I x.1)::Tc (bK (f.parts.take x.1)) x.2))
  (λx=>[(b,.cells 415 (K8 f (bK (f.parts.take x.1)) x.2))]) (λ_=>[]) (λx=>f.parts.length-x.1) (0,none) ⟨aF,λ_=>rfl⟩ (au ⟨zz,zz,by show I _=I _;rw[s],zz,zq⟩) ?_
 rintro⟨k,y⟩ ⟨hk,hy⟩;simp only at hk hy ⊢;have E:(bK (f.parts.take k)).length<=5:=ea (RL _) (by simp;omega);have a:(pv (bK (f.parts.take k))).length=(bK (f.parts.take k)).length:=ap _;refine aJ zz<|aa (aj zz (λhc=>?_) (λhc=>?_));simp at hc;obtain⟨p,A⟩:=bq hc;have w:f.parts.take (k+1)=f.parts.take k++[p]:=zN A;have m:=KN (f.parts.take k) p;rw[<-w]at m;refine ak<|aU.sH (λy=>y=none->bK (f.parts.take (k+1))=[]) (λy=>el ((3,.po b 0)::(10,ic f.parts)::(11,I f.parts.length)::(12,I k)::Tc (bK (f.parts.take (k+1))) y))
  (λy=>[(b,.cells 415 (K8 f (bK (f.parts.take (k+1))) y))]) (λ_=>[]) ?_ ?_
 refine bE [.cells p.ao,.aT] zz ⟨⟨af,by simp [A]⟩,zz,ef,zq⟩<|ag (aq (t:=5) zz)<|aJ zz<|aj zz (λo=>?_) (λo=>?_)
 have u:p.roomy=true:=(by simp at o;simp [Part.roomy,o]);rw[zy u]at m;cases y with
 |none=>have hy:=hy zz;rw[hy]at m ⊢;refine zg [] [.at 0,.bY] zz ⟨zz,zz,⟨by show 1*16<=_;decide,by show 1<=_;decide⟩,zq⟩<|aY.mJ (t:=28) zz (λe=>by cases e) (λg cap=>?_);refine ah (bz (i:=1) zz zz zz zz zz zz (by show 3<=3;decide) ?_);refine aR (bO.soV (i:=0) (t:=28) zz zz zz)<|aR (cW (j:=0) (K8 f [(p.lo,p.hi)] (some (some ⟨g,0,none⟩,cap))) zz ⟨bj _,bj _,(λS v h=>by simp only[bf]at h ⊢;exact h),zq⟩)<|bF ⟨some (some ⟨g,0,none⟩,cap),(λe=>by cases e),?_⟩;rw[m];exact eL
 |some z=>obtain⟨B,cap⟩:=z;refine zg [] [.at 0,.bY,.own 28] zz ⟨zz,zz,⟨⟨zz,zz,by rw[a]⟩,by rw[a];show ((bK (f.parts.take k)).length+1)*16<=_;omega,by rw[a];show (bK (f.parts.take k)).length+1<=_;omega⟩,zq⟩ ?_;have D:pv (bK (f.parts.take k)++[(p.lo,p.hi)])=pv (bK (f.parts.take k))++[[I p.lo,I p.hi]]:=bx;refine aY.mJ (t:=28) (es:=pv (bK (f.parts.take k)++[(p.lo,p.hi)])) (by rw[D];rfl) (λe=>by simp [pv]at e) (λg cap=>?_);refine ah (bz (i:=1) zz zz zz zz zz zz (by show 3<=3;decide) ?_);refine aR (bO.soV (i:=0) (t:=28) zz zz zz) ?_;have n:(pv (bK (f.parts.take k)++[(p.lo,p.hi)])).length=(bK (f.parts.take k)++[(p.lo,p.hi)]).length:=ap _;refine aR (cW (j:=0) (K8 f (bK (f.parts.take k)++[(p.lo,p.hi)]) (some (some ⟨g,0,none⟩,cap))) zz ⟨bj _,bj _,(λS v h=>by simp only[bf]at h ⊢;rw[<-n];exact h),zq⟩)<|bF ⟨some (some ⟨g,0,none⟩,cap),(λe=>by cases e),?_⟩;rw[m];exact eL
 have u:p.roomy=false:=(by simp at o;simp [Part.roomy,o]);rw[zj (by simp [u])]at m;rw[m];refine ak ⟨y,hy,?_⟩;cases y with
 |none=>exact eL
 |some z=>exact eL
 intro y hy;cases y with
 |none=>refine fE zz bL ?_;exact⟨(k+1,none),⟨af,hy⟩,by simp only;omega,eL⟩
 |some z=>refine fE zz bL ?_;exact⟨(k+1,some z),⟨af,hy⟩,by simp only;omega,eL⟩
 simp only[nL]at hc;rw[eu af]at hy ⊢;cases y with
 |none=>exact aE ⟨none,hy,eL⟩
 |some z=>exact aE ⟨some z,hy,eL⟩
 intro y hy;have a:(pv (bK f.parts)).length=(bK f.parts).length:=ap _;have fin: ∀(c:AV) (d:List (Nat×AV)),fK c (Dp (bK f.parts))->aU an none 33 (.seq (.ops [⟨some 32,none,.tJ (tm 3)⟩,⟨some 2,none,.tJ (tm 32)⟩]) .ret) (qn an [.tmp 2] (iX f)) (el ((3,.po b 0)::d)) [(b,.cells 415 [bh f.name,ic f.parts,c])] []:=by intro c d hc;refine ag (cW (j:=0) [bh f.name,ic f.parts,Dp (bK f.parts)] zz ⟨bj _,bj _,hc,zq⟩)<|ag (bO.jw (i:=0) 3 zz zz)<|aJ zz<|ab (aD ?_);rfl
 cases y with
 |none=>exact fin .nil [] (by rw[hy zz];exact iP 2)
 |some z=>obtain⟨B,cap⟩:=z;refine aU.SN 28 zz (λq r C=>?_) (λg r=>?_);have q:bK f.parts=[]:=(by simpa [pv]using q);subst r C;refine iF [(3,.po b 0)]<|fin (.v (.slice none (bK f.parts).length 0)) [] ?_;rw[q];intro S v h;rw[bf]at h;show bf S (.sl 2 []) v;rw[bf];exact .inl ⟨⟨none,h⟩,zz⟩;subst r;refine ag (cW (j:=1) [bh f.name,ic f.parts,.so g (pv (bK f.parts)).length cap] zz ⟨bj _,bj _,(λS v h=>(a.symm▸h:v=Value.slice (some ⟨g,0,none⟩) (pv (bK f.parts)).length cap)),zq⟩)<|ag (bO.nU (i:=0) (j:=0) [bh f.name,ic f.parts,Dp (bK f.parts)] zz zz ⟨.inl zz,.inl zz,.inr gJ,zq⟩)<|iF [(3,.po b 0)] ?_;exact fin _ [] (bj _)
def tX (s:Shelf)(n:Int):Form:=match s.bi[n.toNat]? with|some f=>f|none=>⟨[],[]⟩
def lN (s:Shelf)(n:Int):AV:=if iw s n=0 then iX (tX s n)else .v (.pointer none)
theorem Q6 (s:Shelf)(t:s.wf)(n:Int):Ev an 331 [.agg s.ao,I n] (.cG [lN s n,I (iw s n)]):=by
 have j:(s.bi.map Form.ao).length=s.bi.length:=ap _;have c:=F7 s t;apply ar akn.ok;by_cases e:(eh s).2.2=0;have V:=zF.1 e;have p:=V.f4;rw[e]at c;refine bE [.bY] zz aK<|aa (aa ?_);refine kn [.ret (.cG [I (eh s).1,I (eh s).2.1,I 0])] zz ⟨c,zq⟩<|aa<|cZ zz<|aH zz zz<|aa (aa ?_);have d:=Ii 0 ((s.bi.length:Int)-1) [n];by_cases g:ae 0 ((s.bi.length:Int)-1) [n]=true
 have a:iw s n=4:=(by unfold iw;rw[zy e,zy g]);have i:lN s n= .v (.pointer none):=(by unfold lN;rw[zj (by rw[a];decide)]);rw[g]at d;rw[a,i];refine kn [.bY,.yt [I 0,I ((s.bi.length:Int)-1),ints [n]] (B true)] zz ⟨fR,zz,⟨d,gN (by rw[<-j];rfl)⟩,zq⟩<|aC zz zz<|aJ zz<|ab (fJ ?_ ?_)
 rfl;rfl
 have g:ae 0 ((s.bi.length:Int)-1) [n]=false:=(by simpa using g);have a:iw s n=0:=(by unfold iw;rw[zy e,zj (by simp [g])]);have i:lN s n=iX (tX s n):=(by unfold lN;rw[zy a]);obtain⟨_,_,o,u,w,f,l,r,q⟩:=E5 a;have k:tX s n=f:=(by unfold tX;rw[l]);rw[g]at d;rw[a,i,k];refine kn [.bY,.yt [I 0,I ((s.bi.length:Int)-1),ints [n]] (B false)] zz ⟨fR,zz,⟨d,gN (by rw[<-j];rfl)⟩,zq⟩<|aH zz zz<|bE [.cells f.ao,.ret (iX f)] zz ⟨⟨o,by simp [l]⟩,W3 f r.p5,zq⟩<|ab (fJ ?_ ?_)
 rfl;rfl
 have a:iw s n=(eh s).2.2:=by unfold iw;rw[zj e]
 have i:lN s n= .v (.pointer none):=by unfold lN;rw[zj (by rw[a];exact e)]
 rw[a,i];generalize (eh s).2.2=m at e c;refine bE [.bY] zz aK<|aa (aa ?_);refine kn [.ret (.cG [I (eh s).1,I (eh s).2.1,I m])] zz ⟨c,zq⟩<|aa<|cZ zz<|aj (b:=true) (by show B _=B _;simp [e]) (λ_=>?_) (λh=>by cases h);refine aJ zz<|ab (fJ ?_ ?_)
 rfl;rfl
abbrev eg (ms:List Int):List AV:=ms.map λn=>I n
def gU (c:List Nat):List Int:=(c.map λ(n:Nat)=>(n:Int))++cB (5-c.length) 0
abbrev wL (c:List Nat):AV:=.agg (eg (gU c))
theorem QW (f:Form):Ev an 386 [iX f] (.fn (.func 418) [] [.pi [iX f]]):=by refine ar ahb.ok<|bE [.bY] zz aK<|aJ zz<|ab (aD ?_);rfl
def ab6 (f:Form)(y:AV)(bm b5:Nat):AV:=.fn (.func 419) [] [.pi [iX f],.pi [y],.po bm 0,.po b5 0]
def wT (f:Form)(y:AV)(bm b5:Nat):Nat×dp:=(b5,.cells 200 [ab6 f y bm b5])
def cmH (bm:Nat)(ms:List Int):Nat×dp:=(bm,.cells 411 (eg ms))
structure RT (L k:Nat)(pre:List Nat)(ms:List Int):Prop where
 len:ms.length=5
 pre:ms.take k=pre.map λ(n:Nat)=>(n:Int)
 zero:ms.drop L=cB (5-L) 0
theorem Nx (ms:List Int)(k:Nat)(n:Int)(h:k<ms.length):bU (eg ms) (0+(k:Int).toNat*1) [I n]=eg (ms.set k n):=by unfold bU eg;rw[bs,Nat.zero_add,hZ,List.map_set,List.set_eq_take_append_cons_drop,zy (by simpa using h)];simp
theorem Ks {l:List A}(h:l.length=5): ∃a b c d e,l=[a,b,c,d,e]:=by
 match l,h with
 |[a,b,c,d,e],_=>grind
section
variable (T:List (List Nat)->av) (all:List (List Nat)) (y:Fn) (f:Form) (bm b5:Nat)
theorem UH (h5:(bK f.parts).length<=5)(V: ∀r∈bK f.parts,0<=r.1/\r.1<=r.2/\1<=r.2/\r.2<=3)(hy: ∀d c a,d++c::a=all->Sr an y [] [wL c] (T d) (λr Ho=>r=B true/\Ho=T (d++[c]))):
  ∀(rs:List (Int×Int)) (k:Nat) (pre:List Nat) (ms:List Int) (d a:List (List Nat)),(bK f.parts).drop k=rs->k<=(bK f.parts).length->pre.length=k->RT (bK f.parts).length k pre ms->d++((jW rs).map (pre++ ·)++a)=all->
   iM an 419 [I k,.pi [iX f],.pi [.fn y [] []],.po bm 0,.po b5 0] (wT f (.fn y [] []) bm b5::cmH bm ms::T d)
    (λr Ho=>r=B true/\ ∃E,RT (bK f.parts).length k pre E/\Ho=wT f (.fn y [] []) bm b5::cmH bm E::T (d++(jW rs).map (pre++ ·))):=by
 generalize hR:bK f.parts=R at h5 V;have o:iX f= .pi [bh f.name,ic f.parts,Dp R]:=by rw[<-hR]
 have A:(R.map λr=>[I r.1,I r.2]).length=R.length:=ap _;intro rs;induction rs with
 |nil=>
  intro k pre ms d a hd hk F hm g;have t:k=R.length:=by have:=congrArg List.length hd;simp at this;omega
  have D:ms=gU pre:=by have v:=hm.pre;have Z:=hm.zero;rw[t]at v;have:=eM R.length ms;rw[v,Z]at this;rw[<-this];unfold gU;rw[F,t]
  obtain⟨a0,a1,J,K,L,rfl⟩:=Ks hm.len;refine bH al8.ok<|aJ zz<|aa (aa ?_);rw[o];refine cZ zz<|aj (b:=true) (by show B _=B _;rw[A,t];simp) (λ_=>?_) (λh=>by cases h);refine aa (aA ?_);refine mO [.at 1] 2 zz zz cI<|aR (cM (cA (l₁:=[wT f (.fn y [] []) bm b5,cmH bm [a0,a1,J,K,L]])))<|ah (cq zz (hy d pre a (by simpa [jW]using g)) zz zz (gN (by show [AV.agg (eg [a0,a1,J,K,L])]=[wL pre];rw[D])) zz ?_);rintro res w ⟨rfl,rfl⟩;refine aR (cM (cA))<|gk zz<|ab ⟨.inr zz,_,_,_,zz,.one (.tmp zz zz),⟨zz,[a0,a1,J,K,L],hm,?_⟩,cb _⟩;simp [jW]
 |cons r rs ih=>
  intro k pre ms d a hd hk F hm g;have p:R[k]? =some r:=by have:=congrArg (λl=>l[0]?) hd;simpa using this
  have O:R.drop (k+1)=rs:=by have:=drop_cons p;rw[hd]at this;exact(ku this).2.symm
  have t:k<R.length:=(cR.1 p).1;obtain⟨r0,r1,r2,r3⟩:=V r (cc p);refine bH al8.ok<|aJ zz<|aa (aa ?_)
  rw[o];refine cZ zz<|aj (b:=false) (by show B _=B _;rw[A];congr 2;simp;omega) (λh=>by cases h) (λ_=>ak ?_)
  refine aa (aa ?_);refine kn [.cells [I r.1,I r.2]] zz ⟨⟨af,by simp [p]⟩,zq⟩ ?_;rw[<-o];generalize hq:(r.2+1-r.1).toNat=q;have U:upto r.1 r.2=(bk q).map λj=>r.1.toNat+j:=by unfold upto;rw[hq]
  let G:Nat->List (List Nat):=λj=>((bk j).map λj=>r.1.toNat+j).flatMap λn=>(jW rs).map ((pre++[n])++ ·);have hG:(jW (r::rs)).map (pre++ ·)=G q:=by show ((upto r.1 r.2).flatMap λn=>(jW rs).map (n:: ·)).map (pre++ ·)=_;rw[U,List.map_flatMap];show _=((bk q).map λj=>r.1.toNat+j).flatMap λn=>(jW rs).map ((pre++[n])++ ·);congr 1;funext n;rw[List.map_map];congr 1;funext l;simp
  have N: ∀j,G (j+1)=G j++(jW rs).map ((pre++[r.1.toNat+j])++ ·):=by intro j;show ((bk (j+1)).map λj=>r.1.toNat+j).flatMap _=_;rw[c7,bx,hz];simp [G]
  let H:Nat->List (List Nat):=λj=>(((bk q).drop (j+1)).map λj=>r.1.toNat+j).flatMap (λn=>(jW rs).map ((pre++[n])++ ·))++a;have M: ∀j,j<q->G j++((jW rs).map ((pre++[r.1.toNat+j])++ ·)++H j)=G q++a:=by
   intro j P;have e:bk q=bk j++j::(bk q).drop (j+1):=(by have v:=(eM j (bk q)).symm;rw[drop_cons (x:=j) (by simp [P])]at v;rw[List.take_range,h9 af]at v;exact v);have:G q=G j++((jW rs).map ((pre++[r.1.toNat+j])++ ·)++(((bk q).drop (j+1)).map λj=>r.1.toNat+j).flatMap (λn=>(jW rs).map ((pre++[n])++ ·))):=by
    show ((bk q).map λj=>r.1.toNat+j).flatMap _=_;conv=>lhs;rw[e]
    rw[bx,hz,j7,hQ]
   rw[this];simp [H]
  rw[hG]at g ⊢;have a5:=hm;refine aU.iN (Y:=List Int) (λm=>RT R.length k pre m) (λ_=>el []) (λm=>wT f (.fn y [] []) bm b5::cmH bm m::T (d++G q)) (λ_=>[]) ?_ ?_;refine bJ (X:=Nat×List Int) (λz=>z.1<=q/\RT R.length k pre z.2) (λz=>el [(0,I k),(1,.pi [iX f]),(2,.pi [.fn y [] []]),(3,.po bm 0),(4,.po b5 0),(7,I (r.1+z.1))])
   (λz=>wT f (.fn y [] []) bm b5::cmH bm z.2::T (d++G z.1)) (λ_=>[]) (λz=>q-z.1) (0,ms) ⟨aF,hm⟩
   (ai (aw (by simp [G])) (au ⟨zz,zz,zz,zz,zz,by show I _=I _;simp,zq⟩)) ?_
  rintro⟨j,m⟩ ⟨P,hm⟩;simp only at P hm ⊢;have C:=hm.len;refine aa (aa ?_);rw[o];refine kn [.cells [I r.1,I r.2]] zz ⟨⟨af,by simp [p]⟩,zq⟩ ?_;rw[<-o];refine aj zz (λhc=>?_) (λhc=>?_);simp only[decide_eq_true_eq]at hc;have s:j<q:=af;refine ak (aa (ay ?_));refine aa (aA ?_);refine Rz 3 zz zz uD<|ah (bz (i:=1) zz zz zz zz zz zz (by simp [C];omega) ?_)
  refine aR (aw (H':=wT f (.fn y [] []) bm b5::cmH bm (m.set k (r.1+j))::T (d++G j)) (by
   have:=Nx m k (r.1+j) af
   show _::(bm,dp.cells 411 (bU (eg m) (0+(k:Int).toNat*1) [I (r.1+j)]))::_=_
   rw[this];rfl))<|gk zz<|aa (aA ?_)
  refine mO [.at 0] 3 zz zz ⟨zz,af,zq⟩ ?_;have Q:RT R.length (k+1) (pre++[r.1.toNat+j]) (m.set k (r.1+j)):=(by refine⟨by rw[List.length_set,C],?_,?_⟩;rw[zN (x:=r.1+j) (by simp [hT];omega),List.take_set_of_le af,hm.pre,bx];simp;omega;rw[List.drop_set_of_lt af,hm.zero]);refine ah (cq (Hin:=wT f (.fn y [] []) bm b5::cmH bm (m.set k (r.1+j))::T (d++G j)) (H0:=[]) zz (ih (k+1) (pre++[r.1.toNat+j]) _ (d++G j) (H j) O af (by simp [F]) Q (by rw[<-g,<-M j s];simp)) zz zz (aW _) aF ?_);rintro res w ⟨rfl,W,u,rfl⟩;refine gk zz<|aH zz zz ?_
  have S:RT R.length k pre W:=(by refine⟨u.len,?_,u.zero⟩;have:=congrArg (List.take k) u.pre;rw[List.take_take,h9 af]at this;rw[this,bx,List.take_left' (by simp [F])]);refine fE zz bL ?_;refine⟨(j+1,W),⟨s,S⟩,by simp only;omega,ai (aw ?_) (au ⟨zz,zz,zz,zz,zz,?_,zq⟩)⟩;rw[N];simp;refine congrArg (λz:Int=>I z) ?_;simp only[Int.natCast_add,Int.natCast_one];omega
  simp only[decide_eq_false_iff_not]at hc;have s:j=q:=af;subst s;exact aE ⟨m,hm,au zq⟩
  intro m hm;refine aJ zz<|ab ⟨.inr zz,_,_,_,zz,.one (.tmp zz zz),⟨zz,m,hm,zz⟩,cb _⟩
theorem Mh (g:(bK f.parts).length<=5)(j: ∀r∈bK f.parts,0<=r.1/\r.1<=r.2/\1<=r.2/\r.2<=3)(a:all=jW (bK f.parts))(hy: ∀d c b,d++c::b=all->Sr an y [] [wL c] (T d) (λr Ho=>r=B true/\Ho=T (d++[c]))):
  iM an 418 [.fn y [] [],.pi [iX f]] (T []) (λ_ Ho=>Ho=T all):=by
 refine bH aha.ok<|bE [.bY] zz aK<|aa (aA (ah (aO.alloc zz (λbm=>?_))))
 refine gk zz<|aa (aA (ah (aO.alloc zz (λb5=>?_))))
 refine gk zz<|aa (aA ?_)
 refine lY 1 zz zz<|ah (bz (i:=0) zz zz zz zz zz zz aG ?_)
 refine gk zz<|aA<|mO [.at 0] 1 zz zz cI<|ah (cq (H0:=[]) zz (UH T all y f bm b5 g j hy (bK f.parts) 0 [] [0,0,0,0,0] [] [] zz af zz ⟨zz,zz,?_⟩ (by rw[a];simp)) zz zz (aW _) (by simp only[bI];rfl) ?_)
 generalize (bK f.parts).length=L at g;match L,g with
 |0,_=>rfl
 |1,_=>rfl
 |2,_=>rfl
 |3,_=>rfl
 |4,_=>rfl
 |5,_=>rfl
 rintro res h ⟨rfl,m,hm,rfl⟩;apply gk zz;refine⟨.inl zz,_,.cG [],_,zz,.many aG zq,zz,?_⟩;simp only[bI];have e:[]++(jW (bK f.parts)).map ([]++ ·)=all:=by rw[a];simp
 rw[e];exact kp (et _ _) (et _ _)
end
theorem Jk {c:List Nat}{q m:Nat}(h:c[q]? =some m):(eg (gU c)).drop q=I m::(eg (gU c)).drop (q+1):=by apply drop_cons;unfold eg gU;rw[ff,List.getElem?_append_left bD,ff,h];rfl
theorem Bi (ms:List Int):(eg ms).all AV.dG=true:=by unfold eg;rw[List.all_map,List.all_eq_true];intro n _;rfl
theorem Nb (m:Nat):(cB m ([ey ⟨#[]⟩].map AV.v))=(sY m).map λs=>[bh s]:=by rw[sY,List.map_replicate];rfl
theorem VA (f:Form)(c:List Nat)(A:c.length=(bK f.parts).length)(C:c.length<=5)(u:(gu f.parts c).length<=1000):Ev an 388 [iX f,wL c] (strs (gu f.parts c)):=by
 have o:(f.parts.map Part.ao).length=f.parts.length:=ap _;refine ar ajl.ok<|bE [.bY] zz ⟨⟨zz,by exact Bi _⟩,zq⟩<|iF [(0,iX f),(3,.pi (eg (gU c))),(4,.nil)]<|aJ zz<|aa (aa ?_);refine cZ zz<|gn 12 zz λz=>cj True (el [(4,.aT 9 1 ((gu f.parts c).map λs=>[bh s]))]) [] [] ?_ ?_
 refine bJ (λx:Nat×Nat×List Wd=>x.1<=f.parts.length/\x.2.1+(bK (f.parts.drop x.1)).length=c.length/\gu f.parts c=x.2.2++gu (f.parts.drop x.1) (c.drop x.2.1)) (λx=>el [(3,.pi (eg (gU c))),(4,.aT 9 1 (x.2.2.map λs=>[bh s])),(5,I x.2.1),(12,ic f.parts),(13,I f.parts.length),(14,I x.1)]) (λ_=>[]) (λ_=>[]) (λx=>f.parts.length-x.1) (0,0,[]) ⟨af,by simp [A],zz⟩
  (ai (bO.mM (t:=4) 9 1 zz) (au ⟨zz,zz,zz,zz,by show I _=I _;rw[o],zz,zq⟩)) ?_
 rintro⟨k,q,acc⟩ ⟨hk,h,hi⟩;simp only at hk h hi;have y:acc.length<=1000:=bD;have a:(acc.map λs=>[bh s]).length=acc.length:=ap _;refine iF [(3,.pi (eg (gU c))),(4,.aT 9 1 (acc.map λs=>[bh s])),(5,I q),(12,ic f.parts),(13,I f.parts.length),(14,I k)]<|aJ zz<|aa (aj zz (λhe=>?_) (λhe=>?_));simp at he;obtain⟨p,hx⟩:=bq he;rw[drop_cons hx,ul]at h;rw[drop_cons hx,gu]at hi;refine ak<|aU.sH (λx:Nat×List Wd=>x.1+(bK (f.parts.drop (k+1))).length=c.length/\gu f.parts c=x.2++gu (f.parts.drop (k+1)) (c.drop x.1)) (λx=>el [(3,.pi (eg (gU c))),(4,.aT 9 1 (x.2.map λs=>[bh s])),(5,I x.1),(12,ic f.parts),(13,I f.parts.length),(14,I k)]) (λ_=>[]) (λ_=>[]) ?_ ?_
 refine bE [.cells p.ao,.aT] zz ⟨⟨af,by simp [hx]⟩,zz,ef,zq⟩<|ag (aq (t:=7) zz) ?_;have b:(p.words.map λs=>[bh s]).length=p.words.length:=ap _;refine aa (aa ?_);refine cZ zz<|aj zz (λd=>?_) (λd=>ak ?_)
 have g:p.words≠[]:=(by intro e;simp [e]at d);have d: ¬p.roomy=true:=(by simp [Part.roomy,g]);rw[zj d]at h hi;have r:acc.length+p.words.length<=1000:=(by rw[hi,bA,bA]at u;omega);refine Ik zz ⟨⟨by rw[a,b];omega,by rw[a,b];omega⟩,zq⟩ ?_;exact aE ⟨(q,acc++p.words),⟨h,by rw[hi,cx]⟩,au ⟨zz,by show AV.aT _ _ _=_;rw[bx],zz,zz,zz,zz,zq⟩⟩;have g:p.words=[]:=(by simpa using d);have d:p.roomy=true:=(by simp [Part.roomy,g]);rw[zy d]at h hi;simp at h;obtain⟨m,hg⟩:=bq (l:=c) (k:=q) af;rw[drop_cons hg,ej,e7]at hi;have j:(sY m).length=m:=cD;have r:acc.length+m<=1000:=(by rw[hi,bA,bA,j]at u;omega);refine aa (aA ?_);refine Rz 3 zz zz uD<|aR (au (l:=[(3,.pi (eg (gU c))),(26,.aT 9 1 (acc.map λs=>[bh s])),(28,.pi (I m::(eg (gU c)).drop (q+1))),(5,I q),(12,ic f.parts),(13,I f.parts.length),(14,I k)]) ⟨zz,zz,by
  show AV.pi ((eg (gU c)).drop ((q:Int).toNat*1))=_
  rw[bs,hZ,Jk hg],zz,zz,zz,zz,zq⟩)<|lY 1 zz zz<|ah (aO.oL m zz zz zz (by rw[a];omega) (by rw[a];omega) zz ?_);refine gk zz<|fE zz bL ?_;refine⟨(q+1,acc++sY m),⟨by simp only;omega,by rw[hi,cx]⟩,au ⟨zz,?_,zz,zz,zz,zz,zq⟩⟩;show AV.aT _ _ _=_;rw[bx,<-Nb]
 rintro⟨B,i⟩ ⟨v,w⟩;refine fE zz bL ?_;exact⟨(k+1,B,i),⟨by simp only;omega,v,w⟩,by simp only;omega,eL⟩
 simp only[nL]at he;refine aE ⟨(),zq,au ⟨?_,zq⟩⟩;have n:f.parts.drop k=[]:=cr af;rw[hi,n,gu,bI];rfl
 intro _ _;refine aJ zz<|ag (bO.gp (t:=4) zz)<|ab (aD ?_);rfl
theorem Uj (s w:Wd):Ev an 389 [bh s,bh w] (B (ra s w)):=by
 refine ar alu.ok<|aJ zz ?_;by_cases h:s=[]
 subst h;refine vS [(7,true)] [] zz aF<|ab (aD ?_);rfl
 refine vS [(7,false)] [] zz (by simp [h])<|ab (aD ?_);show B _=B _;have e:(s==w)=decide (s=w):=bD
 simp [ra,h];exact e
theorem Qm (s l:List Wd)(g:Nat)(h: ∀x y,Ev an g [bh x,bh y] (B (ra x y))):Ev an 387 [strs s,strs l,.fn (.func g) [] []] (B (zH s l)):=by
 have hs:(s.map λs=>[bh s]).length=s.length:=ap _;have hl:(l.map λs=>[bh s]).length=l.length:=ap _;refine ar aiE.ok<|gn 0 zz λe=>aJ zz<|aa (aa ?_);refine cZ zz<|aj zz (λhc=>?_) (λhc=>ak ?_)
 have hc:s.length≠l.length:=bD;refine aJ zz<|ab (aD ?_);cases d:zH s l with
 |false=>rfl
 |true=>exact absurd (CZ d) hc
 have hc:s.length=l.length:=bD;refine aa (aa ?_);refine cZ zz<|cj (zH s l=true) (el []) [] [] ?_ ?_
 refine gf (λk:Nat=>k<=s.length/\zH s l=zH (s.drop k) (l.drop k)) (λk=>el [(1,strs l),(2,.fn (.func g) [] []),(15,strs s),(16,I s.length),(17,I k)]) (λk=>s.length-k) 0 nN
  (au ⟨zz,zz,zz,by show I _=I _;rw[hs],zz,zq⟩) ?_
 rintro k ⟨hk,hi⟩;refine aJ zz<|aa (aj zz (λhe=>?_) (λhe=>?_));simp at he;obtain⟨x,hx⟩:=bq he;obtain⟨z,b⟩:=bq (l:=l) (k:=k) af;rw[drop_cons hx,drop_cons b,zH]at hi;refine ak (aa (ay ?_));refine bE [.cells [bh x]] zz ⟨⟨af,by simp [hx]⟩,zq⟩<|bE [.cells [bh z]] zz ⟨⟨af,by simp [b]⟩,zq⟩<|aa<|kn [.ret (B (ra x z))] zz ⟨h x z,zq⟩<|aj zz (λa=>?_) (λa=>ak ?_)
 have a:ra x z=false:=(by simpa using a);refine aJ zz<|ab (aD ?_);rw[hi,a];rfl
 have a:ra x z=true:=(by simpa using a);rw[a,Bool.true_and]at hi;refine fE zz bL ?_;exact⟨k+1,⟨af,hi⟩,af,eL⟩
 simp at he;refine aE ⟨(),?_,au zq⟩;rw[hi,cr af,cr af];rfl
 refine λ_ c=>aJ zz<|ab (aD ?_);show B _=B _;rw[c]
theorem aaf (c1 a b c4 c:Int)(f:(cy .i64 c1).wf=true)(g:(cy .i64 a).wf=true)(h:(cy .i64 b).wf=true)(h4:(cy .i64 c4).wf=true)(i:(cy .i64 c).wf=true):
  bS an 5 411 (.agg #[.int .i64 c1,.int .i64 a,.int .i64 b,.int .i64 c4,.int .i64 c]):=by have d:an.cellsOf 411=5:=aX;have e:an.cellsOf 3=1:=aX;refine⟨?_,[.int .i64 c1,.int .i64 a,.int .i64 b,.int .i64 c4,.int .i64 c],?_⟩;simp [e3,hM,d];simp [fk,ek,hM,ec,d,e,f,g,h,h4,i,c7]
theorem XB {a b:List Int}(ha:a.length=5)(l:b.length=5)(c: ∀n∈a,(cy .i64 n).wf=true)(d: ∀n∈b,(cy .i64 n).wf=true){y:Operand}{env:Env}{t:Nat}
  (hx:bG env x= .agg (eg a)) (hy:bG env y= .agg (eg b)):
  ∀(r:Option Nat) (N:Nat) (D:List Nat),Q1 an r N (.pK false 411 x y) (some t) env H D [(t,B (decide (a=b)))]:=by
 intro r N D;obtain⟨a0,a1,e,f,g,rfl⟩:=Ks ha;obtain⟨h,i,b2,j,k,rfl⟩:=Ks l;exact aO.pK (m:=3) aG aX aX aX aX (by rw[hx];rfl) (by rw[hy];rfl)
  (aaf _ _ _ _ _ (c _ aF) (c _ aF) (c _ aF) (c _ aF) (c _ aF)) (aaf _ _ _ _ _ (d _ aF) (d _ aF) (d _ aF) (d _ aF) (d _ aF))
  (decide ([a0,a1,e,f,g]=[h,i,b2,j,k])) bD dO
abbrev okW (f:Form)(l:List Wd)(a:List (List Nat)):List (List Nat):=a.filter λm=>zH (gu f.parts m) l
def ry (a:List (List Nat)):List Int:=match a.getLast? with|none=>[-1,0,0,0,0]|some c=>gU c
def Dq (f:Form)(l:List Wd)(b b5 c:Nat)(a:List (List Nat)):av:=
 [(b,.cells 411 (eg (gU ((okW f l a).headD [])))),(b5,.cells 3 [I (okW f l a).length]),(c,.cells 411 (eg (ry a)))]
theorem uj {c:List Nat}(h:c.length<=5):(gU c).length=5:=by unfold gU;rw[bA,ap,cD];omega
theorem Og {c:List Nat}(h: ∀n∈c,n<=3): ∀n∈gU c,(cy .i64 n).wf=true:=by grind [gU,wf_i64]
theorem UO {c d:List Nat}(h:c.length=d.length)(e:gU c=gU d):c=d:=by unfold gU at e;have e:=(List.append_inj e (by simpa using h)).1;have:c.map (λ(n:Nat)=>(n:Int))=d.map (λ(n:Nat)=>(n:Int)):=e;exact(List.map_inj_right (λa b h=>af)).1 this
theorem lS.same {P:Program}{r:Option Nat}{env:Env}{D:List Nat}{T i b:Nat}{c:TypeId}{y:Operand}{cs:List AV}{q:AV}(hx:bG env x= .po b 0)(d:H[i]? =some (b,.cells c cs))(hy:bG env y=q)
  (e:q.cS=true) (a:ct q=cs) (f:cs.length=n) (hc:cs.all AV.dG=true):lS P r N ⟨none,none,.store T x y n⟩ env H D []:=by
 refine bz hx d hy e bD bD af ⟨zz,?_,zz⟩;rw[a];have:bU cs 0 cs=cs:=by unfold bU;simp
 rw[this];apply e9;intro j;rw[hT];split;grind;rfl
theorem VI {env:Env}: ∀{l:List (Nat×AV)},uX env l->l.all (λp=> !p.2.bT)=true-> ∀t,el l t= .any\/(el l t=env t/\(env t).bT=false)
 |[],_,_,t=>.inl zz
 |(u,p)::l,h,hl,t=>by
  simp only[List.all_cons,Bool.and_eq_true,Bool.not_eq_true']at hl;simp only[el];cases a:Nat.beq t u with
  |true=>have:=Nat.eq_of_beq_eq_true a;subst this;exact .inr ⟨h.1.symm,by rw[h.1];exact hl.1⟩
  |false=>exact VI h.2 hl.2 t
theorem Ng (a:List (List Nat))(c:List Nat):ry (a++[c])=gU c:=by unfold ry;rw[List.getLast?_append];rfl
theorem UY (f:Form)(l:List Wd)(a:List (List Nat))(c:List Nat):okW f l (a++[c])=okW f l a++(if zH (gu f.parts c) l=true then[c]else[]):=bD
theorem Zw (f:Form)(V:Df f)(l:List Wd):Ev an 332 [iX f,strs l] (.cG [wL ((nS f.parts l).headD []),I (nS f.parts l).length]):=by
 have E:=DK V.parts;have Z:(bK f.parts).length<=5:=ea (xv _) V.p5;have hC:=Af (λr hr=>⟨(E r hr).1,(E r hr).2.2.2⟩);have a0:4^(bK f.parts).length<=4^5:=bl af Z;have C:=MM (bK f.parts);have P:=QW f;have X:nS f.parts l=okW f l (jW (bK f.parts)):=rfl;have p: ∀c∈jW (bK f.parts),c.length=(bK f.parts).length/\(∀m∈c,m<=3)/\(gu f.parts c).length<=15:=λc hc=>uE V hc;rw[X];generalize G:jW (bK f.parts)=z at hC C p;refine ar ajB.ok<|aa (aA ?_);refine mO [.bY,.bY] 2 zz zz eE<|ah (aO.alloc zz (λo=>?_));refine ah (aO.alloc zz (λb5=>?_));refine gk zz<|aa (aA ?_);refine lY 1 zz zz<|ah (aO.alloc zz (λq=>?_));refine ah (bz (i:=0) zz zz zz zz zz zz aG ?_);refine aR (ai (cM (List.reverse_perm _).symm) (ai (aw (H':=Dq f l o b5 q []) zz) (au (l:=[(2,.pi [iX f]),(3,.pi [strs l]),(4,.po o 0),(5,.po b5 0),(6,.po q 0)]) jt)))<|gk zz<|aa (aa ?_);refine kn [.ret (.fn (.func 418) [] [.pi [iX f]])] zz ⟨P,zq⟩<|ay<|aU.Az (HS:=Dq f l o b5 q) (H0:=[]) [] (λa=>a=z) (λa args F=> ∃c j,a++c::j=z/\args=[wL c]/\F=a++[c])
  (el [(2,.pi [iX f]),(3,.pi [strs l]),(4,.po o 0),(5,.po b5 0),(6,.po q 0)]) zz aF (VI jt zz) aF ?_ ?_ ?_
 rintro lp a args F ⟨c,j,k,rfl,rfl⟩;refine⟨zz,?_⟩;obtain⟨c1,c2,c3⟩:=p c (by rw[<-k];simp);have J:c.length<=5:=af;have K:=uj J;have Q:=Og c2;have T:(ry a).length=5/\(∀n∈ry a,(cy .i64 n).wf=true)/\gU c≠ry a:=by
  unfold ry;cases hg:a.getLast? with
  |none=>
   refine⟨zz,?_,?_⟩;intro n hn;simp at hn;rcases hn with rfl|rfl|rfl|rfl|rfl<;>exact wf_i64 aG aG
   intro e;have:(-1:Int)∈gU c:=(by rw[e];simp);unfold gU at this;rcases eT.1 this with h|h
   obtain⟨m,_,h⟩:=e0.1 h;omega;have:=(List.mem_replicate.1 h).2;omega
  |some d=>have hd:d∈a:=List.mem_of_getLast? hg;obtain⟨d1,d2,d3⟩:=p d (by rw[<-k];simp [hd]);refine⟨uj af,Og d2,?_⟩;intro e;have:=UO af e;subst this;rw[<-k,fj]at C;exact C.2.2 c hd c aF zz
 obtain⟨l1,l2,l3⟩:=T;have L:(okW f l a).length<=1024:=bD;have M:=VA f c c1 J af;have A:=Qm (gu f.parts c) l 389 (λx y=>Uj x y);have w:=λ{x y:Operand} {env:Env} {H:av} {t:Nat} (hx:bG env x= .agg (eg (gU c))) (hy:bG env y= .agg (eg (ry a)))=>XB K l1 Q l2 (x:=x) (y:=y) (env:=env) (H:=H) (t:=t) hx hy;have R:decide (gU c=ry a)=false:=decide_eq_false l3;rw[R]at w;have g:(gU ((okW f l a).headD [])).length=5:=by
  cases hg:okW f l a with
  |nil=>rfl
  |cons d Y=>have hd:d∈a:=(by have:d∈okW f l a:=(by rw[hg];simp);exact(dk.1 this).1);obtain⟨d1,d2,d3⟩:=p d (by rw[<-k];simp [hd]);exact uj (by simp;omega)
 have O:Dq f l o b5 q (a++[c])=[(o,.cells 411 (eg (gU ((okW f l (a++[c])).headD [])))),(b5,.cells 3 [I (okW f l (a++[c])).length]),(q,.cells 411 (eg (gU c)))]:=by unfold Dq;rw[Ng]
 rw[O,UY];unfold Dq;generalize okW f l a=W at L g;generalize ry a=a2 at w l1;obtain⟨c0,s,u,v,c4,D⟩:=Ks K;obtain⟨p0,p1,p2,p3,p4,rfl⟩:=Ks l1;show aU an (some lp) 29 _ _ (wD [11] [.agg (eg (gU c))] _) _ [];rw[D]at w ⊢;refine kn [.aT] zz eQ ?_;refine⟨zz,ag (aq (t:=7) zz) ?_⟩;refine iF [(2,.pi [iX f]),(3,.pi [strs l]),(4,.po o 0),(5,.po b5 0),(6,.po q 0),(7,.pi (eg [c0,s,u,v,c4]))]<|ay (aa (aa ?_));refine kn [.at 2,.op (B false)] zz ⟨zz,w zz zz,zq⟩<|aH zz zz<|aa (aA ?_);refine lY 1 zz zz<|ah (bz (i:=2) zz zz zz zz zz zz bD ?_);refine aR (aw (H':=[(o,.cells 411 (eg (gU (W.headD [])))),(b5,.cells 3 [I W.length]),(q,.cells 411 (eg [c0,s,u,v,c4]))]) zz)<|gk zz<|aa (aa ?_);generalize gu f.parts c=S at M A;generalize a1:zH S l=N at A;refine tI [] [.yt [iX f,wL c] (strs S),.ret (B N)] zz ⟨⟨M,gN (by show [iX f,AV.agg (eg [c0,s,u,v,c4])]=[iX f,wL c];rw[<-D])⟩,A,zq⟩<|aj zz (λb=>?_) (λb=>ak ?_)
 have b:N=false:=(by simpa using b);refine aE ?_;refine⟨zz,?_⟩;rw[zj (by simp [b]),bI];exact cb _;have b:N=true:=(by simpa using b);rw[zy b];refine aa (aA ?_);refine mO [.at 1] 2 zz zz ⟨zz,af,zq⟩<|ah (bz (i:=1) zz zz zz zz zz zz (by show 1<=1;decide) ?_);refine aR (aw (H':=[(o,.cells 411 (eg (gU (W.headD [])))),(b5,.cells 3 [I ((W.length:Int)+1)]),(q,.cells 411 (eg [c0,s,u,v,c4]))]) zz)<|gk zz ?_;have e1:(((W++[c]).length:Nat):Int)=(W.length:Int)+1:=aF
 rw[e1];refine aa<|kn [.at 1] zz cI<|aj zz (λb=>?_) (λb=>ak ?_)
 have b:W=[]:=(by have:(W.length:Int)+1=1:=(by simpa using b);exact List.eq_nil_of_length_eq_zero af);subst b;refine aA<|lY 1 zz zz<|ah (bz (i:=0) zz zz zz zz zz zz (by show 5<=5;decide) ?_);refine bF ⟨zz,?_⟩;show List.Sublist [(o,dp.cells 411 (eg (gU c))),_,_] _;rw[D];exact cb _
 have b:W≠[]:=(by intro e;subst e;simp at b);refine⟨zz,?_⟩;have e2:(W++[c]).headD []=W.headD []:=by
  cases W with
  |nil=>exact absurd zz b
  |cons d Y=>rfl
 rw[e2];exact cb _
 intro lp lo hy;refine(Mh (λa=>(lp,lo)::Dq f l o b5 q a) z (.yield lp) f Z E G.symm ?_).mono ?_;intro a c j k;exact⟨zz,hy a _ _ ⟨c,j,k,zz,zz⟩⟩;grind;rintro a rD rfl;have g:(gU ((okW f l a).headD [])).length=5:=by
  cases hg:okW f l a with
  |nil=>rfl
  |cons d Y=>have hd:d∈a:=(by have:d∈okW f l a:=(by rw[hg];simp);exact(dk.1 this).1);obtain⟨d1,d2,d3⟩:=p d hd;exact uj (by simp;omega)
 unfold Dq;generalize okW f l a=W at g ⊢;unfold wL;obtain⟨p0,p1,p2,p3,p4,U⟩:=Ks g;rw[U];refine aa (aU.nj zx (wg.run (gs:=[]) (hs:=[.at 1,.at 2]) zz jA (wg.cons [4,27] (lS.same (i:=1) zz zz zz zz zz zz zz) zz zz (wg.cons [5,28] (lS.same (i:=2) zz zz zz zz zz zz zz) zz zz wg.nil))) aX (bF ?_));refine ab ⟨.inr zz,_,⟨0,zz,zz⟩,.many aG ⟨.dY (i:=0) (n:=some 5) zz zz aX zz,.dY (i:=1) (n:=none) zz zz aX zz,zq⟩⟩
theorem N8 {f:Form}(b:Df f)(l:List Wd):(gU ((nS f.parts l).headD [])).length=5/\(nS f.parts l).length<=1024:=by
 have a:=DK b.parts;have e:(bK f.parts).length<=5:=ea (xv _) b.p5;constructor;cases hg:nS f.parts l with
 |nil=>rfl
 |cons d g=>have hd:d∈nS f.parts l:=(by rw[hg];simp);obtain⟨d1,d2,d3⟩:=uE b (dk.1 hd).1;exact uj (by simp;omega)
 have h:(nS f.parts l).length<=(jW (bK f.parts)).length:=ds _ _;have i:=Af (λr c=>⟨(a r c).1,(a r c).2.2.2⟩);have j:4^(bK f.parts).length<=4^5:=bl af e;omega
theorem Wi (s:Shelf)(hw:s.wf)(n:Int)(l:List Wd):Ev an 244 [.agg s.ao,I n,strs l] (.cG [sR (gh s n l).1,I (gh s n l).2.1,I (gh s n l).2.2]):=by
 have o:=Q6 s hw n;have P:=uL l;have res: ∀{env:Env} {H:av} {x:List (List Wd)} {q r:Int},gh s n l=(x,q,r)->env 6=sR x->env 7=I q->env 8=I r->qn an [.tmp 6,.tmp 7,.tmp 8] (.cG [sR (gh s n l).1,I (gh s n l).2.1,I (gh s n l).2.2]) .ret env H []:=by intro env H p q r h h2 h3 h4;rw[h];exact gv (.inr zz) (.many aG ⟨.tmp h2 zz,.tmp h3 zz,.tmp h4 zz,zq⟩)
 have hE: ∀e,iw s n=e->rZ e l=if e=0 then cJ l else e:=λe _=>rfl
 refine ar ajY.ok<|bE [.bY] zz aK<|aU.scope<|eZ True (el [(2,strs l),(6,.nil),(8,I (iw s n)),(9,lN s n)]) [] [] ?_ ?_
 by_cases h:iw s n=0;have B:lN s n=iX (tX s n):=(by unfold lN;rw[zy h]);rw[B]at o ⊢;refine kn [.ret (.cG [iX (tX s n),I (iw s n)])] zz ⟨o,zq⟩ ?_;exact⟨(),zq,eL⟩;have B:lN s n= .v (.pointer none):=(by unfold lN;rw[zj h]);rw[B]at o ⊢;refine kn [.ret (.cG [.v (.pointer none),I (iw s n)])] zz ⟨o,zq⟩ ?_;exact⟨(),zq,eL⟩;refine λ_ _=>eZ True (el [(2,strs l),(6,.nil),(8,I (rZ (iw s n) l)),(9,lN s n)]) [] [] ?_ ?_;refine aa<|cZ zz<|aj zz (λh=>?_) (λh=>ak ?_)
 have h:iw s n=0:=(by simpa using h);have e:rZ (iw s n) l=cJ l:=(by unfold rZ;rw[zy h]);rw[e];refine kn [.ret (I (cJ l))] zz ⟨P,zq⟩ ?_;exact⟨(),zq,eL⟩;have h:iw s n≠0:=(by simpa using h);have e:rZ (iw s n) l=iw s n:=(by unfold rZ;rw[zj h]);rw[e];exact⟨(),zq,eL⟩
 refine λ_ _=>aa (aa ?_);refine cZ zz<|aj zz (λh=>?_) (λh=>ak ?_)
 have h:rZ (iw s n) l≠0:=by simpa using h
 refine aJ zz<|ag (bO.ky (t:=6) 1 zz) ?_;exact ab (res (by rw[gh,zj h]) zz zz zz)
 have h:rZ (iw s n) l=0:=by simpa using h
 have A:iw s n=0:=by by_cases g:iw s n=0;exact g;grind
 have O:cJ l=0:=by rw[rZ,zy A]at h;exact h
 have a0:=(lX.1 O).1;obtain⟨_,V,n0,n1,n2,f,hf,G,T⟩:=E5 A;have N:tX s n=f:=by unfold tX;rw[hf]
 have B:lN s n=iX f:=by unfold lN;rw[zy A,N]
 have j:gh s n l=match nS f.parts l with
  |[]=>([],0,9)
  |m::ms=>(ll f.parts m l,((m::ms).length:Nat),0):=by
  rw[gh,zy h,T]
  cases nS f.parts l<;>rfl
 rw[B];have X:=Zw f G l;obtain⟨U,a4⟩:=N8 G l;have u:(eg (gU ((nS f.parts l).headD []))).length=5:=by rw[ap];exact U
 refine bE [.ret (.cG [wL ((nS f.parts l).headD []),I (nS f.parts l).length]),.aT] zz ⟨X,zz,⟨zz,u,Bi _,by decide⟩,zq⟩<|aa (aa ?_);apply cZ zz;cases J:nS f.parts l with
 |nil=>rw[J]at j;refine aC zz zz<|aJ zz<|ag (bO.ky (t:=6) 1 zz) ?_;exact ab (res j zz zz zz)
 |cons c cs=>
  rw[J]at j u;have M:c∈nS f.parts l:=by rw[J];simp
  obtain⟨K,L⟩:=dk.1 M;obtain⟨c1,c2,c3⟩:=uE G K;have W:(gu f.parts c).length=l.length:=CZ L;have a2:=G.p5;have a3:=xv f.parts;refine aj zz (λh=>?_) (λ_=>ak ?_);grind;have E:bU (List.map AV.v [hv .i64 0,hv .i64 0,hv .i64 0,hv .i64 0,hv .i64 0]) 0 (eg (gU c))=eg (gU c):=by unfold bU;simp only[ej]at u;rw[u];simp
  refine ag (au (l:=[(2,strs l),(6,.nil),(7,I ((c::cs).length:Nat)),(9,iX f),(10,.eR 411 (eg (gU c)))]) ⟨zz,zz,zz,zz,by show AV.eR _ _=_;rw[<-E];rfl,zq⟩)<|ag (aq (t:=10) zz)<|ag (bO.mM (t:=6) 25 1 zz)<|aJ zz<|aa (aU.label (aa (aa ?_)));refine cZ zz<|gn 40 zz λa1=>?_;have S:(f.parts.map Part.ao).length=f.parts.length:=ap _;refine cj True (el [(6,.aT 25 1 ((ll f.parts c l).map λs=>[strs s])),(7,I ((c::cs).length:Nat))]) [] [] ?_ ?_
  refine bJ (λx:Nat×Nat×List (List Wd)=>x.1<=f.parts.length/\x.2.2.length<=x.1/\x.2.2.length+(bK (f.parts.drop x.1)).length=c.length/\x.2.1+(gu (f.parts.drop x.1) (c.drop x.2.2.length)).length=l.length/\ll f.parts c l=x.2.2++ll (f.parts.drop x.1) (c.drop x.2.2.length) (l.drop x.2.1))
   (λx=>el [(2,strs l),(6,.aT 25 1 (x.2.2.map λs=>[strs s])),(7,I ((c::cs).length:Nat)),(10,.pi (eg (gU c))),(11,I x.2.1),(40,ic f.parts),(41,I f.parts.length),(42,I x.1)]) (λ_=>[]) (λ_=>[]) (λx=>f.parts.length-x.1) (0,0,[]) ⟨af,aF,by simp [c1],by simp [W],zz⟩
   (au ⟨zz,zz,zz,zz,zz,zz,by show I _=I _;rw[S],zz,zq⟩) ?_
  rintro⟨k,a,out⟩ ⟨hk,ho,z,ha,hi⟩;simp only at hk ho z ha hi;refine iF [(2,strs l),(6,.aT 25 1 (out.map λs=>[strs s])),(7,I ((c::cs).length:Nat)),(10,.pi (eg (gU c))),(11,I a),(40,ic f.parts),(41,I f.parts.length),(42,I k)]<|aJ zz<|aa (aj zz (λhe=>?_) (λhe=>?_));simp only[nL]at he;obtain⟨p,hx⟩:=bq he;rw[drop_cons hx,ul]at z;rw[drop_cons hx,gu]at ha;rw[drop_cons hx,ll]at hi;refine ak<|aU.sH (λx:Nat×List (List Wd)=>x.2.length<=k+1/\x.2.length+(bK (f.parts.drop (k+1))).length=c.length/\x.1+(gu (f.parts.drop (k+1)) (c.drop x.2.length)).length=l.length/\ll f.parts c l=x.2++ll (f.parts.drop (k+1)) (c.drop x.2.length) (l.drop x.1))
   (λx=>el [(2,strs l),(6,.aT 25 1 (x.2.map λs=>[strs s])),(7,I ((c::cs).length:Nat)),(10,.pi (eg (gU c))),(11,I x.1),(40,ic f.parts),(41,I f.parts.length),(42,I k)]) (λ_=>[]) (λ_=>[]) ?_ ?_
  refine bE [.cells p.ao,.aT] zz ⟨⟨af,by simp [hx]⟩,zz,ef,zq⟩<|ag (aq (t:=13) zz) ?_;have d:(p.words.map λs=>[bh s]).length=p.words.length:=ap _;refine aa (aa ?_);refine cZ zz<|aj zz (λw=>?_) (λw=>ak ?_)
  have y:p.words≠[]:=(by intro e;simp [e]at w);have w: ¬p.roomy=true:=(by simp [Part.roomy,y]);rw[zj w]at z hi ha;rw[bA]at ha;refine Ik zz (by exact⟨⟨by rw[d];omega,by rw[d];omega⟩,zq⟩)<|aE ⟨(a+p.words.length,out),⟨by simp only;omega,z,by simp only;omega,by rw[hi,j4]⟩,au ⟨zz,zz,zz,zz,?_,zz,zz,zz,zq⟩⟩;show I _=I _;rw[d];simp
  have y:p.words=[]:=(by simpa using w);have w:p.roomy=true:=(by simp [Part.roomy,y]);rw[zy w]at z hi ha;simp only[cd]at z;obtain⟨m,hm⟩:=bq (l:=c) (k:=out.length) af;rw[drop_cons hm,ej,e7]at ha hi;simp only[sY,bA,cD]at ha;have b:(out.map λs=>[strs s]).length=out.length:=ap _;refine aU.Ei 6 zz (λad cap=>?_);refine aa (aA ?_);refine Rz 3 zz zz ⟨⟨by rw[b];omega,by rw[b];omega⟩,zq⟩<|aR (au (l:=[(2,strs l),(6,.gT 25 1 (out.map λs=>[strs s]) ad cap),(7,I ((c::cs).length:Nat)),(57,.pi (I m::(eg (gU c)).drop (out.length+1))),(10,.pi (eg (gU c))),(11,I a),(40,ic f.parts),(41,I f.parts.length),(42,I k)]) ⟨zz,zz,zz,by
   show AV.pi ((eg (gU c)).drop (((out.map λs=>[strs s]).length:Int).toNat*1))=_
   rw[bs,hZ,b,Jk hm],zz,zz,zz,zz,zz,zq⟩)<|lY 1 zz zz<|ah (aO.ji m zz zz zz zz af af zz (λg=>?_));refine gk zz<|aa (aA ?_);have Z:(l.map λs=>[bh s]).length=l.length:=ap _;refine Rz 5 zz zz (by exact⟨⟨bL,by simp only[fv,fu];omega,aF⟩,zq⟩) ?_;have Y:kI (l.map λs=>[bh s]) (some (a:Int).toNat) none=(l.drop a).map λs=>[bh s]:=by unfold kI;rw[bs,List.map_drop]
  refine ah (aO.Ot (i:=0) (es:=cB m ([ey ⟨#[]⟩].map AV.v)) (ys:=(l.drop a).map λs=>[bh s]) zz zz (by show AV.sl 1 _=_;rw[<-Y]) ?_);have Q:min ((l.drop a).map λs=>[bh s]).length (cB m ([ey ⟨#[]⟩].map AV.v)).length=m:=(by rw[ap,List.length_drop,cD];omega);rw[Q];have C:((l.drop a).map λs=>[bh s]).take m++(cB m ([ey ⟨#[]⟩].map AV.v)).drop m=((l.drop a).take m).map λs=>[bh s]:=(by have A:(cB m ([ey ⟨#[]⟩].map AV.v)).drop m=[]:=cr aF;rw[A,bI,j8]);rw[C];have D:(cB m ([ey ⟨#[]⟩].map AV.v)).length=(((l.drop a).take m).map λs=>[bh s]).length:=(by simp;omega);refine xdA zz uD<|ag (bO.lC (i:=0) (t:=14) (es:=((l.drop a).take m).map λs=>[bh s]) (by rw[<-D];rfl) zz)<|ag (bO.gp (t:=14) zz)<|kn [.bY,.own 6] zz ⟨zz,⟨⟨zz,zz,zz⟩,by show ((out.map λs=>[strs s]).length+1)*24<=_;rw[b];omega,by show (out.map λs=>[strs s]).length+1<=_;rw[b];omega⟩,zq⟩ ?_;refine⟨(a+m,out++[(l.drop a).take m]),⟨by simp;omega,by simp;omega,by simp;omega,by rw[hi];simp [j4]⟩,au ⟨zz,?_,zz,zz,zz,zz,zz,zz,zq⟩⟩;show AV.aT _ _ _=_;rw[bx];rfl
  rintro⟨a',F⟩ ⟨g1,g2,g3,g4⟩;refine fE zz bL ?_;exact⟨(k+1,a',F),⟨by simp only;omega,g1,g2,g3,g4⟩,by simp only;omega,eL⟩
  simp only[nL]at he;refine aE ⟨(),zq,au ⟨?_,zz,zq⟩⟩;have R:f.parts.drop k=[]:=cr af;rw[hi,R,ll,bI];rfl
  intro _ _;refine aJ zz<|ag (bO.gp (t:=6) zz) ?_;exact ab (res (x:=ll f.parts c l) (q:=((c::cs).length:Nat)) (r:=0) j zz zz zz)
theorem EK (t:List UInt8)(a b:Nat):e8 ⟨t.toArray⟩ a b=⟨((t.take b).drop a).toArray⟩:=by apply j6;rw[kd,List.extract_toArray];congr 1;rw[List.extract_eq_drop_take',List.drop_take]
theorem Zq (t:List UInt8)(a b:Nat):AV.v (.string (e8 ⟨t.toArray⟩ a b))=bh ((t.take b).drop a):=congrArg (λs=>AV.v (.string s)) (EK t a b)
theorem Ex {c:UInt8}: ∀{s:List UInt8} {t:List UInt8},(∀x∈s,x≠c)->br c (s++c::t)=s::br c t
 |[],t,_=>by simp [br]
 |x::s,t,h=>by simp only[List.cons_append,br];rw[zj (h x aF),Ex (λy hy=>h y (by simp [hy]))]
theorem Cd {c:UInt8}: ∀{s:List UInt8},(∀x∈s,x≠c)->br c s=[s]
 |[],_=>by simp [br]
 |x::s,h=>by simp only[br];rw[zj (h x aF),Cd (λy hy=>h y (by simp [hy]))]
theorem aav {a b:UInt8}:((a.toNat:Int)==(b.toNat:Int))=decide (a=b):=by rw[fx];simp;constructor;exact λh=>UInt8.toNat_inj.1 af;intro h;rw[h]
theorem Qa (t:List UInt8)(c:UInt8)(o:t.length<=1000000):Ev an 293 [bh t,U c.toNat] (strs (br c t)):=by
 have k:(hO t.toArray).size=t.length:=rfl;refine ar ahv.ok<|aJ zz<|aJ zz<|aJ zz<|aa (aa ?_);refine cZ zz<|aU.iN (λx:List Wd×Nat=>x.2<=t.length/\x.1.length<=t.length/\br c t=x.1++[t.drop x.2]) (λx=>el [(0,bh t),(5,.aT 9 1 (x.1.map λs=>[bh s])),(6,I x.2)]) (λ_=>[]) (λ_=>[]) ?_ ?_
 refine bJ (λx:Nat×List Wd×Nat=>x.1<=t.length/\x.2.2<=x.1/\x.2.1.length<=x.1/\br c t=x.2.1++br c (t.drop x.2.2)/\ ∀y∈(t.take x.1).drop x.2.2,y≠c) (λx=>el [(0,bh t),(1,U c.toNat),(5,.aT 9 1 (x.2.1.map λs=>[bh s])),(6,I x.2.2),(7,I x.1)]) (λ_=>[]) (λ_=>[]) (λx=>t.length-x.1) (0,[],0) ⟨af,aF,aF,zz,aF⟩
  (ai (bO.mM (t:=5) 9 1 zz) eL) ?_
 rintro⟨i,out,b⟩ ⟨hi,g,j,a,e⟩;simp only at hi g j a e;have f:(out.map λs=>[bh s]).length=out.length:=ap _;refine iF [(0,bh t),(1,U c.toNat),(5,.aT 9 1 (out.map λs=>[bh s])),(6,I b),(7,I i)]<|aa (aa ?_);refine cZ zz<|aj zz (λhe=>?_) (λhe=>?_);have he:i<t.length:=(by simp at he;exact he);obtain⟨x,hx⟩:=bq he;have l:(t.take (i+1)).drop b=(t.take i).drop b++[x]:=(by rw[zN hx,eS (by simp;omega)]);refine ak (aa (ay ?_));refine aa<|kn [.byte x] zz ⟨⟨af,by simpa using hx⟩,zq⟩<|aj zz (λd=>?_) (λd=>ak ?_)
 have d:x=c:=(by have d:((x.toNat:Int)==(c.toNat:Int))=true:=d;rw[aav]at d;exact of_decide_eq_true d);subst d;have h:t.drop b=(t.take i).drop b++x::t.drop (i+1):=(by have n:=eM i t;have m:=congrArg (List.drop b) n;rw[eS (by simp;omega),drop_cons hx]at m;exact m.symm);rw[h,Ex e]at a;refine bE [.bY] zz (⟨⟨fR,by simp;omega,by simp;omega⟩,zz,⟨by show (_+1)*16<=_;rw[f];omega,by show _+1<=_;rw[f];omega⟩,zq⟩)<|fE zz bL<|fE zz bL ?_;refine⟨(i+1,out++[(t.take i).drop b],i+1),⟨by simp only;omega,by simp only;omega,by simp;omega,by rw[a];simp,aF⟩,by simp only;omega,au ⟨zz,zz,?_,zz,zz,zq⟩⟩;rw[bx];rw[Zq];simp;rfl
 have d:x≠c:=(by have d:((x.toNat:Int)==(c.toNat:Int))=false:=d;rw[aav]at d;exact of_decide_eq_false d);refine fE zz bL ?_;refine⟨(i+1,out,b),⟨by simp only;omega,by simp only;omega,by simp only;omega,a,?_⟩,by simp only;omega,eL⟩;intro y hy;rw[l]at hy;rcases eT.1 hy with hy|hy
 exact e y hy;rw[en]at hy;rw[hy];exact d
 have he: ¬i<t.length:=(by simp only[nL]at he;exact he);rw[eu af]at e;rw[Cd e]at a;exact aE ⟨(out,b),⟨by simp only;omega,by simp only;omega,a⟩,eL⟩
 rintro⟨out,b⟩ ⟨g,j,a⟩;simp only at g j a;have f:(out.map λs=>[bh s]).length=out.length:=ap _;refine bE [.bY] zz (by exact⟨⟨bL,by simp only[fv,fu];omega,aF⟩,zz,⟨by show (_+1)*16<=_;rw[f];omega,by show _+1<=_;rw[f];omega⟩,zq⟩)<|ag (bO.gp (t:=4) zz)<|ab (aD ?_);show AV.sl 1 _=_;rw[a,strs,bx];show AV.sl 1 (_++[[AV.v (.string (e8 ⟨t.toArray⟩ _ _))]])=_;rw[Zq];simp only[fv,fu,bs,k];rw[eu af];rfl
theorem Mq {a b:Int}(ha:(cy .i64 a).wf=true)(e:(cy .i64 b).wf=true):bS an 3 305 (.agg #[.int .i64 a,.int .i64 b]):=by have c:an.cellsOf 305=2:=aX;have d:an.cellsOf 3=1:=aX;refine⟨?_,[.int .i64 a,.int .i64 b],?_⟩;simp [e3,hJ,c];simp [fk,ek,hJ,ec,c,d,ha,e]
theorem UI {a b c d:Int}(ha:(cy .i64 a).wf=true)(e:(cy .i64 b).wf=true)(hc:(cy .i64 c).wf=true)(hd:(cy .i64 d).wf=true){y:Operand}{env:Env}{t:Nat}
  (hx:valOf (bG env x)=some (.agg #[.int .i64 a,.int .i64 b])) (hy:valOf (bG env y)=some (.agg #[.int .i64 c,.int .i64 d])):
  ∀(r:Option Nat) (N:Nat) (D:List Nat),Q1 an r N (.pK false 305 x y) (some t) env H D [(t,B (decide (a=c/\b=d)))]:=by exact λr N D=>aO.pK (m:=3) aG aX aX aX aX hx hy (Mq ha e) (Mq hc hd) (decide (a=c/\b=d)) bD dO
theorem Md:iQ an 305 (bS an 3 305):=iQ.wide (m:=3) aG aX aX aX
abbrev sF (a b:Nat):AV:=.agg [I a,I b]
abbrev fP (a shape:List Wd)(bm:Nat):AV:=.pi [strs a,strs shape,.mo bm]
theorem OW (F S:List Wd)(bm:Nat)(a b:Nat)(w s:Wd)(c:F[a]? =some w)(hs:S[b]? =some s):Ev an 321 [fP F S bm,sF a b] (B (ra s w)):=by
 refine ar ajG.ok<|bE [.bY] zz aK ?_;by_cases h:s=[]
 subst h;refine xe [(14,true)] [.cells [bh []]] zz bD<|ab (aD ?_);rfl
 refine xe [(14,false)] [.cells [bh s],.cells [bh s],.cells [bh w]] zz (by(repeat' apply dn);(all_goals first|exact trivial|rfl|omega|simp [hs,h,c]))<|ab (aD ?_);show B _=B _;have e:(s==w)=decide (s=w):=bD
 simp [ra,h];exact e
def cE (F S:List Wd)(k a b:Nat):Nat×Nat×Int:=match k,F[a]?,S[b]? with
 |0,some w,some s=>if ra s w=true then(a+1,b+1,0)else(a,b,-1)
 |1,some w,some s=>if ra s w=true then(a,b,-1)else(a+1,b+1,1)
 |2,some _,_=>(a+1,b,1)
 |3,_,some _=>(a,b+1,1)
 |_,_,_=>(a,b,-1)
theorem Da {S:List Wd}{a b:Nat}(hk:k<=3)(ha:a<=F.length)(e:b<=S.length)(h:F.length<(if k≠3 then a+1 else a)\/S.length<(if k≠2 then b+1 else b)):cE F S k a b=(a,b,-1):=by
 have c:F.length<=a->F[a]? =none:=λh=>gx h;have d:S.length<=b->S[b]? =none:=λh=>gx h;match k,hk with
 |0,_=>
  simp at h;rcases h with h|h
  simp [cE,c af];simp [cE,d af]
 |1,_=>
  simp at h;rcases h with h|h
  simp [cE,c af];simp [cE,d af]
 |2,_=>
  simp at h;rcases h with h|h
  simp [cE,c af];omega
 |3,_=>
  simp at h;rcases h with h|h
  omega;simp [cE,d af]
theorem PH (F S:List Wd)(bm k a b:Nat)(hk:k<=3)(ha:a<=F.length)(J:b<=S.length)(T:F.length<=1000)(U:S.length<=1000):
  Ev an 228 [fP F S bm,I k,sF a b] (.cG [sF (cE F S k a b).1 (cE F S k a b).2.1,I (cE F S k a b).2.2]):=by
 have N:(F.map λs=>[bh s]).length=F.length:=ap _;have O:(S.map λs=>[bh s]).length=S.length:=ap _;have P:an.underlying 4=some .bool:=aX;generalize u:cE F S k a b=R;refine ar aku.ok<|bE [.bY,.aT] zz ⟨⟨zz,zz⟩,zz,zq⟩<|aJ zz<|aa (aA ?_)
 refine mO [.aT] 3 zz zz eQ<|aY.ie (t:=9) zz (λp=>?_)
 apply gk zz;have v: ∀{Q:dl} {env:Env} {H:av} {c:List AV},(∀env H,qn an [.cell 6 305,.tmp 7] (.cG [sF R.1 R.2.1,I R.2.2]) .ret env H []->Q .ret env H [])->R=(a,b,-1)->env 6= .eR 305 c->env 5= .pi [I a,I b]->c.length=2->aU an none 61 (.seq (.ops [⟨some 57,none,.load 305 (tm 5) (some 2)⟩,⟨none,none,.store 305 (tm 6) (tm 57) 2⟩,⟨some 7,none,.tJ (kc (-1))⟩]) .ret) Q env H []:=by
  intro Q env H c E A z D hc;obtain⟨x,y,rfl⟩: ∃x y,c=[x,y]:=by
   match c,hc with
   |[x,y],_=>exact⟨x,y,zz⟩
  refine ag (ai (dW (az _)) (au (l:=[(5,.pi [I a,I b]),(6,.eR 305 [x,y])]) ⟨D,z,zq⟩))<|Ik zz ⟨⟨zz,zz,zz,bD⟩,zq⟩<|ag (aq (t:=6) zz)<|ab (E _ _ ?_)
  rw[A];exact gv (.inr zz) (.many aG ⟨.nP (n:=some 2) zz aX zz,.tmp zz zz,zq⟩)
 have r: ∀{Q:dl} {env:Env} {H:av} {c:List AV},(∀env H,qn an [.cell 6 305,.tmp 7] (.cG [sF R.1 R.2.1,I R.2.2]) .ret env H []->Q .ret env H [])->R=(a,b,-1)->env 6= .eR 305 c->env 5= .pi [I a,I b]->c.length=2->aU an none 61 (.seq (.ops [⟨some 44,none,.load 305 (tm 5) (some 2)⟩,⟨none,none,.store 305 (tm 6) (tm 44) 2⟩,⟨some 7,none,.tJ (kc (-1))⟩]) .ret) Q env H []:=by
  intro Q env H c E A z D hc;obtain⟨x,y,rfl⟩: ∃x y,c=[x,y]:=by
   match c,hc with
   |[x,y],_=>exact⟨x,y,zz⟩
  refine ag (ai (dW (az _)) (au (l:=[(5,.pi [I a,I b]),(6,.eR 305 [x,y])]) ⟨D,z,zq⟩))<|Ik zz ⟨⟨zz,zz,zz,bD⟩,zq⟩<|ag (aq (t:=6) zz)<|ab (E _ _ ?_)
  rw[A];exact gv (.inr zz) (.many aG ⟨.nP (n:=some 2) zz aX zz,.tmp zz zz,zq⟩)
 have G: ∀(o m:Nat),el [(0,fP F S bm),(1,I k),(5,.pi [I a,I b]),(6,.eR 305 [I 0,I 0]),(8,.fn (.func 321) [fP F S bm] []),(9,.po p 0),(10,I 1)]=el [(0,fP F S bm),(1,I k),(5,.pi [I a,I b]),(6,.eR 305 [I 0,I 0]),(8,.fn (.func 321) [fP F S bm] []),(9,.po p 0),(10,I 1)]:=λ_ _=>rfl;refine eZ True (el [(0,fP F S bm),(1,I k),(5,.pi [I a,I b]),(6,.eR 305 [I 0,I 0]),(8,.fn (.func 321) [fP F S bm] []),(9,.po p 0),(10,I 1)]) [(p,.cells 305 [I a,I (if k≠2 then b+1 else b:Nat)])] [] ?_ ?_;by_cases h:k=2;subst h;refine aJ zz<|aH zz zz ?_
 exact⟨(),zq,eL⟩
 refine aJ zz<|aj (b:=true) (by show B _=B _;exact congrArg B (by rw[bne_iff_ne];omega)) (λ_=>?_) (λh=>by cases h)
 refine aA<|mO [.at 0] 4 zz zz ⟨zz,af,zq⟩<|ah (bz (i:=0) zz zz zz zz zz zz (by show 2<=2;decide) ?_)
 refine bF ⟨(),zq,ai (aw ?_) eL⟩;rw[zy h];rfl
 intro _ _;generalize j:(if k≠2 then b+1 else b:Nat)=m;refine eZ True (el [(0,fP F S bm),(1,I k),(5,.pi [I a,I b]),(6,.eR 305 [I 0,I 0]),(8,.fn (.func 321) [fP F S bm] []),(9,.po p 0),(10,I 1)]) [(p,.cells 305 [I (if k≠3 then a+1 else a:Nat),I m])] [] ?_ ?_;by_cases h:k=3;subst h;refine aJ zz<|aH zz zz ?_
 exact⟨(),zq,eL⟩
 refine aJ zz<|aj (b:=true) (by show B _=B _;exact congrArg B (by rw[bne_iff_ne];omega)) (λ_=>?_) (λh=>by cases h)
 refine aA<|mO [.at 0] 4 zz zz ⟨zz,af,zq⟩<|ah (bz (i:=0) zz zz zz zz zz zz (by show 1<=2;decide) ?_)
 refine bF ⟨(),zq,ai (aw ?_) eL⟩;rw[zy h];rfl
 intro _ _;generalize g:(if k≠3 then a+1 else a:Nat)=o;refine aa (aa ?_);by_cases K:F.length<o;have g1:decide ((o:Int)>((F.map λs=>[bh s]).length:Int))=true:=decide_eq_true af;refine tI [(34,true)] [.at 0] zz bD<|aC zz zz ?_
 exact r (c:=[I 0,I 0]) (λ_ _ h=>h) (by rw[<-u];exact Da hk ha J (.inl (g▸K))) zz zz zz
 have g1:decide ((o:Int)>((F.map λs=>[bh s]).length:Int))=false:=decide_eq_false af;by_cases L:S.length<m;have g2:decide ((m:Int)>((S.map λs=>[bh s]).length:Int))=true:=decide_eq_true af;refine tI [(34,false)] [.at 0,.at 0] zz bD<|aj (b:=true) (by show B _=B _;exact congrArg B g2) (λ_=>?_) (λh=>by cases h)
 exact r (c:=[I 0,I 0]) (λ_ _ h=>h) (by rw[<-u];exact Da hk ha J (.inr (j▸L))) zz zz zz
 have g2:decide ((m:Int)>((S.map λs=>[bh s]).length:Int))=false:=decide_eq_false af;refine tI [(34,false)] [.at 0,.at 0] zz bD<|aj (b:=false) (by show B _=B _;exact congrArg B g2) (λh=>by cases h) (λ_=>ak ?_)
 have fin: ∀(c:Int) (env:Env),R=(o,m,c)->env 6= .eR 305 [I 0,I 0]->env 9= .po p 0->env 10=I c->aU an none 61 (.seq (.ops [⟨some 59,none,.load 305 (tm 9) (some 2)⟩,⟨some 60,none,.tJ (tm 10)⟩,⟨none,none,.store 305 (tm 6) (tm 59) 2⟩,⟨some 7,none,.tJ (tm 60)⟩]) .ret) (qn an [.cell 6 305,.tmp 7] (.cG [sF R.1 R.2.1,I R.2.2])) env [(p,.cells 305 [I o,I m])] []:=by
  intro c env A z M C;refine ag (au (l:=[(6,.eR 305 [I 0,I 0]),(9,.po p 0),(10,I c)]) ⟨z,M,C,zq⟩)<|bE [.at 0] zz ⟨zz,⟨zz,zz,zz,bD⟩,zq⟩<|ag (aq (t:=6) zz) ?_
  rw[A];exact ab (gv (.inr zz) (.many aG ⟨.nP (n:=some 2) zz aX zz,.tmp zz zz,zq⟩))
 refine aa (aa ?_);match k,hk with
 |0,_=>
  obtain⟨w,q⟩:=bq (l:=F) (k:=a) bD;obtain⟨s,hs⟩:=bq (l:=S) (k:=b) bD;have e:=OW F S bm a b w s q hs;refine kD [(47,true)] [] zz bD<|aC zz zz<|aa (aa ?_);by_cases f:ra s w=true
  ·rw[f]at e;have d:R=(o,m,0):=(by rw[<-u,<-g,<-j];simp [cE,q,hs,f]);refine kn [.ret (B true)] zz (by(repeat' (with_reducible apply dn));(all_goals try exact zt _);exact e)<|aH zz zz<|cZ zz<|fin 0 _ d ?_ ?_ ?_<;>rfl
  have f:ra s w=false:=(by simpa using f);rw[f]at e;have d:R=(a,b,-1):=(by rw[<-u];simp [cE,q,hs,f]);refine kn [.ret (B false)] zz (by(repeat' (with_reducible apply dn));(all_goals try exact zt _);exact e)<|aC zz zz ?_
  exact v (c:=[I 0,I 0]) (λ_ _ h=>h) d zz zz zz
 |1,_=>
  obtain⟨w,q⟩:=bq (l:=F) (k:=a) bD;obtain⟨s,hs⟩:=bq (l:=S) (k:=b) bD;have e:=OW F S bm a b w s q hs;refine kD [(47,false)] [] zz bD<|aC zz zz<|aa (aa ?_);by_cases f:ra s w=true
  ·rw[f]at e;have d:R=(a,b,-1):=(by rw[<-u];simp [cE,q,hs,f]);refine kn [.ret (B true)] zz (by(repeat' (with_reducible apply dn));(all_goals try exact zt _);exact e)<|aC zz zz ?_
   exact v (c:=[I 0,I 0]) (λ_ _ h=>h) d zz zz zz
  have f:ra s w=false:=(by simpa using f);rw[f]at e;have d:R=(o,m,1):=(by rw[<-u,<-g,<-j];simp [cE,q,hs,f]);refine kn [.ret (B false)] zz (by(repeat' (with_reducible apply dn));(all_goals try exact zt _);exact e)<|aH zz zz<|cZ zz<|fin 1 _ d ?_ ?_ ?_<;>rfl
 |2,_=>
  obtain⟨w,q⟩:=bq (l:=F) (k:=a) bD;have d:R=(o,m,1):=by rw[<-u,<-g,<-j];simp [cE,q]
  refine kD [(47,false)] [] zz bD<|aH zz zz<|fin 1 _ d ?_ ?_ ?_<;>rfl
 |3,_=>
  obtain⟨s,hs⟩:=bq (l:=S) (k:=b) bD;have d:R=(o,m,1):=by rw[<-u,<-g,<-j];simp [cE,hs]
  refine kD [(47,false)] [] zz bD<|aH zz zz<|fin 1 _ d ?_ ?_ ?_<;>rfl
def CO (a:Int->Int):List Int->Int×Int->Int×Int
 |[],r=>r
 |x::l,r=>CO a l (if 0<=a x/\(r.2<0\/a x<r.2)then(x,a x)else r)
abbrev ti (l:List Int)(a:Int->Int):Int×Int:=CO a l (0,-1)
theorem QT {X:Type}(T:X->av)(l:List Int)(g:Nat)(c:List AV)(a:Int->Int)(o: ∀x i,i∈l->iM an g (I i::c) (T x) (λr Ho=>r=I (a i)/\ ∃q,Ho=T q))(x:X):
  iM an 316 [ints l,.fn (.func g) [] c] (T x) (λr Ho=>r= .cG [I (ti l a).1,I (ti l a).2]/\ ∃q,Ho=T q):=by
 have p:(l.map λx=>[I x]).length=l.length:=ap _;refine bH ami.ok<|gn 0 zz λt=>aJ zz<|aJ zz<|aa (aa ?_)
 refine cZ zz<|aU.iN (λ_=>True) (λ_=>el [(4,I (ti l a).1),(5,I (ti l a).2)]) (λy=>T y) (λ_=>[]) ?_ ?_
 ·refine bJ (λz=>z.1<=l.length/\ti l a=CO a (l.drop z.1) z.2.1) (λz=>el [(1,.fn (.func g) [] c),(4,I z.2.1.1),(5,I z.2.1.2),(9,ints l),(10,I l.length),(11,I z.1)]) (λz=>T z.2.2) (λ_=>[]) (λz=>l.length-z.1) (0,(0,-1),x) nN
   (au ⟨zz,zz,zz,zz,by show I _=I _;rw[p],zz,zq⟩) ?_
  rintro⟨k,⟨d,n⟩,y⟩ ⟨hk,hi⟩;simp only at hk hi;refine iF [(1,.fn (.func g) [] c),(4,I d),(5,I n),(9,ints l),(10,I l.length),(11,I k)]<|aJ zz<|aa (aj zz (λhe=>?_) (λhe=>?_))
  ·simp at he;obtain⟨i,hx⟩:=bq he;rw[drop_cons hx,CO]at hi;refine ak<|aU.sH (Y:=(Int×Int)×X) (λz=>ti l a=CO a (l.drop (k+1)) z.1) (λz=>el [(1,.fn (.func g) [] c),(4,I z.1.1),(5,I z.1.2),(9,ints l),(10,I l.length),(11,I k)]) (λz=>T z.2) (λ_=>[]) ?_ ?_
   ·refine bE [.cells [I i]] zz ⟨⟨af,by simp [hx]⟩,zq⟩<|aa (aA ?_)
    refine lY 2 zz zz<|ah (cq (H0:=[]) zz (o y i (cc hx)) zz zz (aW _) aF ?_)
    rintro res s ⟨rfl,e,rfl⟩;refine gk zz<|ag (ai (aw (H':=T e) aF) (au (l:=[(1,.fn (.func g) [] c),(4,I d),(5,I n),(7,I i),(8,I (a i)),(9,ints l),(10,I l.length),(11,I k)]) ⟨zz,zz,zz,zz,zz,zz,zz,zz,zq⟩)) ?_;generalize a i=v at hi;by_cases f:0<=v
    ·have u:decide (v>=0)=true:=decide_eq_true f;by_cases j:n<0
     ·have g1:decide (n<0)=true:=decide_eq_true j;rw[zy ⟨f,.inl j⟩]at hi;refine vS [(20,true),(23,true)] [] zz (by(and_intros);(all_goals try exact zt _))<|aC zz zz<|cZ zz ?_
      exact⟨((i,v),e),hi,eL⟩
     have g1:decide (n<0)=false:=decide_eq_false j;refine vS [(20,true),(23,false)] [] zz (by(and_intros);(all_goals try exact zt _)) ?_;by_cases m:v<n;rw[zy ⟨f,.inr m⟩]at hi;refine aj (b:=true) (by show B _=B _;exact congrArg B (decide_eq_true m)) (λ_=>?_) (λh=>by cases h);refine cZ zz ?_;exact⟨((i,v),e),hi,eL⟩;rw[zj (λh=>h.2.elim j m)]at hi;refine aj (b:=false) (by show B _=B _;exact congrArg B (decide_eq_false m)) (λh=>by cases h) (λ_=>ak ?_);exact⟨((d,n),e),hi,eL⟩
    have u:decide (v>=0)=false:=decide_eq_false f;rw[zj (λh=>f h.1)]at hi;refine vS [(20,false)] [] zz (by(and_intros);(all_goals try exact zt _))<|aH zz zz ?_
    exact⟨((d,n),e),hi,eL⟩
   rintro⟨w,e⟩ h;refine fE zz bL ?_;exact⟨(k+1,w,e),⟨by simp only;omega,h⟩,by simp only;omega,eL⟩
  simp only[nL]at he;refine aE ⟨y,zq,au ⟨?_,?_,zq⟩⟩;rw[hi,cr af];rfl;rw[hi,cr af];rfl
 intro y _;refine aJ zz ?_;exact ab ⟨.inr zz,_,.cG [I (ti l a).1,I (ti l a).2],T y,zz,.many aG ⟨.tmp zz zz,.tmp zz zz,zq⟩,⟨zz,y,zz⟩,cb _⟩
def jK (F S:List Wd)(a b k:Nat):Int:=if (cE F S k a b).2.2<0 then -1 else(cE F S k a b).2.2+(oG (F.drop (cE F S k a b).1) (S.drop (cE F S k a b).2.1):Nat)
def kE (r:Int×Int)(k v:Int):Int×Int:=if 0<=v/\(r.2<0\/v<r.2)then(k,v)else r
theorem nZ {k:Int}(h:v<0\/(0<=r.2/\r.2<=v)):kE r k v=r:=by unfold kE;rw[zj];rintro⟨a,b⟩;omega
theorem vy {k:Int}(h:0<=v)(g:r.2<0\/v<r.2):kE r k v=(k,v):=by unfold kE;rw[zy ⟨h,g⟩]
theorem NN (a b c:Nat):kE (kE (kE (kE (0,-1) 0 a) 1 (-1)) 2 (1+b)) 3 (1+c)=
  (((if a<=1+b/\a<=1+c then 0 else if b<=c then 2 else 3:Nat):Int),((min a (min (1+b) (1+c)):Nat):Int)):=by grind [only,vy,nZ]
theorem LO (a b c:Nat):kE (kE (kE (kE (0,-1) 0 (-1)) 1 (1+a)) 2 (1+b)) 3 (1+c)=
  (((if a<=b/\a<=c then 1 else if b<=c then 2 else 3:Nat):Int),((min (1+a) (min (1+b) (1+c)):Nat):Int)):=by grind [only,nZ,vy]
theorem M0 {S:List Wd}{a b:Nat}(ha:a<=F.length)(t:b<=S.length)(h: ¬(a=F.length/\b=S.length)):
  ti [0,1,2,3] (λk=>jK F S a b k.toNat)=(((gI (F.drop a) (S.drop b):Nat):Int),((oG (F.drop a) (S.drop b):Nat):Int)):=by
 show kE (kE (kE (kE (0,-1) 0 (jK F S a b 0)) 1 (jK F S a b 1)) 2 (jK F S a b 2)) 3 (jK F S a b 3)=_;cases d:F[a]? with
 |none=>
  have q:a=F.length:=bD;obtain⟨s,e⟩:=bq (l:=S) (k:=b) af;have hd:F.drop a=[]:=bD;have f:jK F S a b 0= -1:=by simp [jK,cE,d]
  have g:jK F S a b 1= -1:=by simp [jK,cE,d]
  have i:jK F S a b 2= -1:=by simp [jK,cE,d]
  have j:jK F S a b 3=1+((S.drop (b+1)).length:Nat):=by simp [jK,cE,d,e,hd,oG]
  rw[f,g,i,j,hd,drop_cons e,nZ (k:=0) (.inl aG),nZ (k:=1) (v:= -1) (.inl aG),nZ (r:=(0,-1)) (k:=2) (v:= -1) (.inl aG),vy af (.inl aG)];simp only[gI,oG,cd,j9];omega
 |some w=>
  cases e:S[b]? with
  |none=>have p:b=S.length:=(by have:=List.getElem?_eq_none_iff.1 e;omega);have hd:S.drop b=[]:=(by rw[p,List.drop_length]);have f:jK F S a b 0= -1:=(by simp [jK,cE,d,e]);have g:jK F S a b 1= -1:=(by simp [jK,cE,d,e]);have i:jK F S a b 2=1+((F.drop (a+1)).length:Nat):=(by simp [jK,cE,d,hd,HK]);have j:jK F S a b 3= -1:=(by simp [jK,cE,e]);rw[f,g,i,j,hd,drop_cons d,HK,nZ (r:=(0,-1)) (k:=0) (v:= -1) (.inl aG),nZ (r:=(0,-1)) (k:=1) (v:= -1) (.inl aG),vy (r:=(0,-1)) (k:=2) af (.inl aG),nZ (k:=3) (v:= -1) (.inl aG)];simp only[gI,cd,j9];omega
  |some s=>
   have i:jK F S a b 2=1+(oG (F.drop (a+1)) (S.drop b):Nat):=(by simp [jK,cE,d]);have j:jK F S a b 3=1+(oG (F.drop a) (S.drop (b+1)):Nat):=(by simp [jK,cE,e]);have n:=drop_cons d;have o:=drop_cons e;have hk:gI (w::F.drop (a+1)) (s::S.drop (b+1))=if ra s w=true then(if oG (F.drop (a+1)) (S.drop (b+1))<=1+oG (F.drop (a+1)) (s::S.drop (b+1))/\oG (F.drop (a+1)) (S.drop (b+1))<=1+oG (w::F.drop (a+1)) (S.drop (b+1))then 0 else if oG (F.drop (a+1)) (s::S.drop (b+1))<=oG (w::F.drop (a+1)) (S.drop (b+1))then 2 else 3)
    else(if oG (F.drop (a+1)) (S.drop (b+1))<=oG (F.drop (a+1)) (s::S.drop (b+1))/\oG (F.drop (a+1)) (S.drop (b+1))<=oG (w::F.drop (a+1)) (S.drop (b+1))then 1 else if oG (F.drop (a+1)) (s::S.drop (b+1))<=oG (w::F.drop (a+1)) (S.drop (b+1))then 2 else 3):=rfl
   have m:=JK w (F.drop (a+1)) s (S.drop (b+1));rw[<-n,<-o]at hk m;by_cases c:ra s w=true;have f:jK F S a b 0=(oG (F.drop (a+1)) (S.drop (b+1)):Nat):=(by simp [jK,cE,d,e,c]);have g:jK F S a b 1= -1:=(by simp [jK,cE,d,e,c]);rw[zy c]at hk m;rw[f,g,i,j,hk,m];exact NN _ _ _;have f:jK F S a b 0= -1:=(by simp [jK,cE,d,e,c]);have g:jK F S a b 1=1+(oG (F.drop (a+1)) (S.drop (b+1)):Nat):=(by simp [jK,cE,d,e,c]);rw[zj c]at hk m;rw[f,g,i,j,hk,m];exact LO _ _ _
end Go.Px
