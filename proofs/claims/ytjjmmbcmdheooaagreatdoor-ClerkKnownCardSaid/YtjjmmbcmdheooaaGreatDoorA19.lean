/- Part 19 of the proof of a statement of this seat (a logic of pure contracts; the functions; their contracts). No conditions. -/
import Derived.Test.YtjjmmbcmdheooaaGreatDoorA17
open And renaming intro->a7
open Bool renaming and_true->cc
open Go.Proofs.Tryz renaming prog->ad,underlying484->bI
open Int renaming ediv_le_self->b7,le_refl->b8,ediv_nonneg->cb,le_of_lt->cA,pow_pos->cD
open List renaming mem_of_getElem?->an,mem_range->ap,range->az,getElem?_eq_some_iff->a6,flatMap_cons->a8,range_succ->be,all_append->bi,append_nil->bk,length_singleton->bm,perm_append_comm->bs,length_append->bA,all_eq_false->b1,append_assoc->b6,all_cons->cr,all_nil->cB
open List.Sublist renaming refl->b0
open Nat renaming le_refl->bx,zero_le->b9
namespace Go.Px
open Go.Proofs
section
variable (m:iX) (hw:m.wf)
include hw
theorem JS (i:Nat)(w:vA)(hx:m.wo[i]? =some w):Ev ad 124 [I i,.agg w.enc,.pi m.enc] (I (wF m i)):=by
 have u:=(a6.1 hx).1;have t:=hw.cn;have v:=hw.sn;have x:=hw.wn;have n:((m.cl.map λs=>[bg s]).length:Int)=m.cl.length:=zj
 have j:((m.su.map nz.enc).length:Int)=m.su.length:=zj
 have o:((m.wo.map vA.enc).length:Int)=m.wo.length:=zj
 have a:wF m i=if ah 0 3 [w.sa]=true then 7 else if (ah 0 ((m.su.length:Int)-1) [w.su]||ah 0 ((if 2<=w.sa then(m.su.length:Int)else m.cl.length)-1) [w.of]||ah (-1) ((m.wo.length:Int)-1) [w.ba])=true then 4 else if w.ba=i\/(2<=w.sa/\w.of=w.su)then 2 else 0:=by unfold wF;rw[hx]
 have q:=ij 0 3 [w.sa];have f:=ij 0 ((m.su.length:Int)-1) [w.su];have l:=ij 0 ((if 2<=w.sa then(m.su.length:Int)else m.cl.length)-1) [w.of];have h4:=ij (-1) ((m.wo.length:Int)-1) [w.ba];have g:0<=(if 2<=w.sa then(m.su.length:Int)else m.cl.length)/\(if 2<=w.sa then(m.su.length:Int)else m.cl.length)<=9223372036854775807:=by split<;>omega
 generalize r:ah 0 3 [w.sa]=p at q a;generalize ah 0 ((m.su.length:Int)-1) [w.su]=b2 at f a;generalize ah 0 ((if 2<=w.sa then(m.su.length:Int)else m.cl.length)-1) [w.of]=b3 at l a;generalize ah (-1) ((m.wo.length:Int)-1) [w.ba]=b4 at h4 a;rw[<-j]at f;rw[<-o]at h4;refine ak ag7.ok<|bc [.bW] rfl ⟨⟨rfl,rfl⟩,trivial⟩<|aC rfl<|dZ True (el [(0,I i),(2,.pi m.enc),(4,.pi w.enc),(6,I (if 2<=w.sa then(m.su.length:Int)else m.cl.length))]) [] [] ?_ ?_
 ·refine aa<|cC rfl ?_;by_cases h:2<=w.sa
  ·refine ax rfl (by rw[decide_eq_true_iff];omega)<|cC rfl ?_;refine⟨(),trivial,ao ⟨rfl,rfl,rfl,?_,trivial⟩⟩;show I _=I _;rw[if_pos h,j]
  ·refine aD rfl (by rw[decide_eq_false_iff_not];omega) ?_;refine⟨(),trivial,ao ⟨rfl,rfl,rfl,?_,trivial⟩⟩;show I _=I _;rw[if_neg h,n]
 intro _ _;generalize (if 2<=w.sa then(m.su.length:Int)else m.cl.length)=of at l g;refine cX (wF m i=0) (el []) [] [] ?_ ?_
 ·refine bc [.bW,.ret (B p)] rfl ⟨rfl,q,trivial⟩ ?_;cases p with
  |true=>rw[if_pos rfl]at a;refine ax rfl rfl<|aC rfl<|ab (aB ?_);rw[a];rfl
  |false=>
  rw[if_neg zq]at a;refine cJ rfl rfl<|dZ True (el [(0,I i),(2,.pi m.enc),(4,.pi w.enc),(21,B (b2||b3||b4))]) [] [] ?_ ?_
  ·cases b2 with
   |true=>refine js [(30,true),(38,true)] [.bW,.ret (B true)] rfl (by(repeat' (with_reducible apply a7));(all_goals first|exact zk _|((first|exact f|rfl)))) ?_;exact⟨(),trivial,eL⟩
   |false=>
   cases b3 with
   |true=>refine js [(30,false),(38,true)] [.bW,.ret (B false),.bW,.ret (B true)] rfl (by(repeat' (with_reducible apply a7));(all_goals first|exact zk _|((first|exact f|exact l|rfl)))) ?_;exact⟨(),trivial,eL⟩
   |false=>refine js [(30,false),(38,false)] [.bW,.ret (B false),.bW,.ret (B false),.bW,.ret (B b4)] rfl (by(repeat' (with_reducible apply a7));(all_goals first|exact zk _|((first|exact f|exact l|exact h4|rfl)))) ?_;exact⟨(),trivial,eL⟩
  intro _ _;generalize (b2||b3||b4)=bb at a;cases bb with
  |true=>rw[if_pos rfl]at a;refine ax rfl rfl<|aC rfl<|ab (aB ?_);rw[a];rfl
  |false=>
  rw[if_neg zq]at a;refine cJ rfl rfl<|dZ True (el [(48,B (decide (w.ba=i\/(2<=w.sa/\w.of=w.su))))]) [] [] ?_ ?_
  ·by_cases d:w.ba=i
   ·have b:(w.ba==(i:Int))=true:=by rw[beq_iff_eq];exact d
    refine js [(53,true)] [] rfl (by(and_intros);(all_goals first|exact zk _|((first|exact b|rfl)))) ?_;refine⟨(),trivial,ao ⟨?_,trivial⟩⟩;show B _=B _;simp [d]
   ·have b:(w.ba==(i:Int))=false:=by rw[beq_eq_false_iff_ne];exact d
    by_cases k:2<=w.sa
    ·have c:decide (w.sa>=2)=true:=by rw[decide_eq_true_iff];exact k
     refine js [(53,false),(57,true)] [] rfl (by(and_intros);(all_goals first|exact zk _|((first|exact b|exact c|rfl)))) ?_;refine⟨(),trivial,ao ⟨?_,trivial⟩⟩;show B _=B _;refine congrArg B ?_;rw[Bool.eq_iff_iff];simp [d,k]
    ·have c:decide (w.sa>=2)=false:=by rw[decide_eq_false_iff_not];exact k
     refine js [(53,false),(57,false)] [] rfl (by(and_intros);(all_goals first|exact zk _|((first|exact b|exact c|rfl)))) ?_;refine⟨(),trivial,ao ⟨?_,trivial⟩⟩;show B _=B _;simp [d,k]
  intro _ _;by_cases e:w.ba=i\/(2<=w.sa/\w.of=w.su)
  ·rw[if_pos e]at a;refine ax rfl (decide_eq_true e)<|aC rfl<|ab (aB ?_);rw[a];rfl
  ·rw[if_neg e]at a;exact aD rfl (decide_eq_false e) ⟨(),a,ao trivial⟩
 ·intro _ h;refine aC rfl<|ab (aB ?_);rw[h];rfl
theorem JI (i:Nat)(p:DX)(hx:m.pa[i]? =some p):Ev ad 126 [I i,.agg p.enc,.pi m.enc] (I (vY m i)):=by
 have g:=hw.cn;have j:=hw.sn;have e:((m.cl.map λs=>[bg s]).length:Int)=m.cl.length:=zj
 have f:((m.su.map nz.enc).length:Int)=m.su.length:=zj
 have a:vY m i=if (ah 0 ((m.su.length:Int)-1) [p.su]||ah 0 ((m.cl.length:Int)-1) [p.cl])=true then 4 else 0:=by unfold vY;rw[hx]
 have b:=ij 0 ((m.su.length:Int)-1) [p.su];have d:=ij 0 ((m.cl.length:Int)-1) [p.cl];generalize ah 0 ((m.su.length:Int)-1) [p.su]=c at b a;generalize ah 0 ((m.cl.length:Int)-1) [p.cl]=b2 at d a;rw[<-f]at b;rw[<-e]at d;refine ak adX.ok<|bc [.bW] rfl ⟨⟨rfl,rfl⟩,trivial⟩<|dZ (vY m i=0) (el []) [] [] ?_ ?_
 ·refine dZ True (el [(23,B (c||b2))]) [] [] ?_ ?_
  ·cases c with
   |true=>refine js [(14,true)] [.bW,.ret (B true)] rfl (by(repeat' (with_reducible apply a7));(all_goals first|exact zk _|((first|exact b|rfl)))) ?_;exact⟨(),trivial,eL⟩
   |false=>refine js [(14,false)] [.bW,.ret (B false),.bW,.ret (B b2)] rfl (by(repeat' (with_reducible apply a7));(all_goals first|exact zk _|((first|exact b|exact d|rfl)))) ?_;exact⟨(),trivial,eL⟩
  intro _ _;generalize (c||b2)=bb at a;cases bb with
  |true=>rw[if_pos rfl]at a;refine ax rfl rfl<|aC rfl<|ab (aB ?_);rw[a];rfl
  |false=>rw[if_neg zq]at a;exact aD rfl rfl ⟨(),a,ao trivial⟩
 ·intro _ h;refine aC rfl<|ab (aB ?_);rw[h];rfl
theorem CW:Ev ad 59 [.agg m.enc] (.bZ [I (eK m).1,I (eK m).2.1,I (eK m).2.2]):=by
 have res: ∀{Q:cI} {env:Env} {H:Heap} {x y r:Int},(∀env H,pD ad [.tmp 2,.tmp 3,.tmp 4] (.bZ [I (eK m).1,I (eK m).2.1,I (eK m).2.2]) .ret env H []->Q .ret env H [])->eK m=(x,y,r)->env 2=I x->env 3=I y->env 4=I r->Q .ret env H []:=by intro Q env H x y r l h b c h4;refine l _ _ ?_;rw[h];exact fh (.inr rfl) (.many zq ⟨.tmp b rfl,.tmp c rfl,.tmp h4 rfl,trivial⟩)
 have a:=eK.eq_1 m;have f1:=R1 m.cl 4 117 [.pi m.enc] (eA m.cl) hw.cn (λi x hx=>KB m hw i x hx);have f2:=λh4:m.cl.length<=4=>QR m.su 5 119 [.pi m.enc] (vr m) hw.sn (λi x hx=>IU m hw h4 i x hx);have f3:=P0 m.wo 6 124 [.pi m.enc] (wF m) hw.wn (λi x hx=>JS m hw i x hx);have f4:=Sy m.pa 5 126 [.pi m.enc] (vY m) hw.pn (λi x hx=>JI m hw i x hx)
 have d:(cL (eA m.cl) m.cl.length 4).2=0->m.cl.length<=4:=by
  intro h;unfold cL at h;by_cases h4:4<m.cl.length
  ·grind
  ·omega
 generalize (cL (eA m.cl) m.cl.length 4).1=a1 at f1 a;generalize (cL (eA m.cl) m.cl.length 4).2=f at f1 a d;generalize (cL (vr m) m.su.length 5).1=s1 at f2 a;generalize (cL (vr m) m.su.length 5).2=j at f2 a;generalize (cL (wF m) m.wo.length 6).1=w1 at f3 a;generalize (cL (wF m) m.wo.length 6).2=k at f3 a;generalize (cL (vY m) m.pa.length 5).1=n at f4 a;generalize (cL (vY m) m.pa.length 5).2=g at f4 a;refine ak S59.ok<|bc [.bW] rfl ⟨⟨rfl,rfl⟩,trivial⟩<|bc [.ret (.bZ [I a1,I f])] rfl ⟨f1,trivial⟩<|aa (aa ?_);refine cC rfl ?_;by_cases e:f=0
 case neg=>rw[if_pos e]at a;refine ax rfl zx<|aC rfl ?_;exact ab (res (λ_ _ h=>h) a rfl rfl rfl)
 rw[if_neg (by simp [e])]at a;refine aD rfl (by rw[e];rfl)<|bc [.ret (.bZ [I s1,I j])] rfl ⟨f2 (d e),trivial⟩<|aa (aa ?_);refine cC rfl ?_;by_cases b:j=0
 case neg=>rw[if_pos b]at a;refine ax rfl zx<|aC rfl ?_;exact ab (res (λ_ _ h=>h) a rfl rfl rfl)
 rw[if_neg (by simp [b])]at a;refine aD rfl (by rw[b];rfl)<|bc [.ret (.bZ [I w1,I k])] rfl ⟨f3,trivial⟩<|aa (aa ?_);refine cC rfl ?_;by_cases c:k=0
 case neg=>rw[if_pos c]at a;refine ax rfl zx<|aC rfl ?_;exact ab (res (λ_ _ h=>h) a rfl rfl rfl)
 rw[if_neg (by simp [c])]at a;refine aD rfl (by rw[c];rfl)<|bc [.ret (.bZ [I n,I g])] rfl ⟨f4,trivial⟩<|aa (aa ?_);refine cC rfl ?_;by_cases h4:g=0
 case neg=>rw[if_pos h4]at a;refine ax rfl zx<|aC rfl ?_;exact ab (res (λ_ _ h=>h) a rfl rfl rfl)
 rw[if_neg (by simp [h4])]at a;refine aD rfl (by rw[h4];rfl)<|aC rfl ?_;exact ab (res (λ_ _ h=>h) a rfl rfl rfl)
end
open Go.MapKept
structure kK.OK (d:kK):Prop where
 wf:d.wf
 st0:1<=d.st
 Sz:d.st<=6
 we0:0<=d.we
 we9:d.we<=9
 c4:d.cs.length<=4
 h4:d.hs.length<=4
 cl: ∀x∈d.cs,(x.ed.length:Int)=d.st
 hl: ∀x∈d.hs,(x.ed.length:Int)<=d.st
 ce: ∀x∈d.cs,∀v∈x.ed,0<=v/\v<=9
 he: ∀x∈d.hs,∀v∈x.ed,-1<=v/\v<=9
theorem zV {l:List Int}{i:Nat}{v:Int}(h:l[i]? =some v):l.getD i 0=v:=by rw[List.getD_eq_getElem?_getD,h];rfl
def jQ (we:Int)(b a:List Int)(n:Nat):Bool:=(az n).all λi=>a.getD i 0== -1|| !ah 0 we [b.getD i 0-a.getD i 0]
theorem OC {d:kK}(ok:d.OK)(c1 o:AV){h c s:Nat}{x y:qh}(hx:d.cs[c]? =some x)(hy:d.hs[h]? =some y)(hs:s<=x.ed.length):Ev ad 371 [.pi (d.enc++[c1,o]),.agg [I h,I c,I s]] (B (ic d h c s)):=by
 have F:=(a6.1 hx).1;have G:=(a6.1 hy).1;have C:((d.cs.map qh.enc).length:Int)=d.cs.length:=zj
 have D:((d.hs.map qh.enc).length:Int)=d.hs.length:=zj
 have c4:=ok.c4;have h4:=ok.h4;have i:ic d h c s=(decide (y.ed.length<=(x.ed.drop s).length)&&jQ d.we (x.ed.drop s) y.ed y.ed.length):=by unfold ic Lb;rw[hx,hy];rfl
 have b:=ok.ce x (an hx);have q:=ok.he y (an hy);have K:=ok.hl y (an hy);have Sz:=ok.Sz;refine ak acE.ok<|bc [.bW] rfl ⟨⟨rfl,rfl⟩,trivial⟩<|vj [] [.cells x.enc,.cells y.enc] rfl ⟨⟨zz,by simp [hx]⟩,⟨⟨zz,trivial⟩,by simp;omega,zj⟩,⟨zz,by simp [hy]⟩,trivial⟩<|ae (ao (l:=[(0,.pi (d.enc++[c1,o])),(5,ints (x.ed.drop s)),(6,ints y.ed)]) ⟨rfl,by show AV.sl 1 _=AV.sl 1 _;simp [jH,List.map_drop],rfl,trivial⟩) ?_;have b: ∀v∈x.ed.drop s,0<=v/\v<=9:=λv m=>b v (List.mem_of_mem_drop m);generalize x.ed.drop s=a at i b;refine aa (aa ?_);refine cC rfl ?_;by_cases hl:y.ed.length<=a.length
 case neg=>refine ax rfl zx<|aC rfl<|ab (aB ?_);show B _=B _;rw[i,decide_eq_false hl];rfl
 have i:ic d h c s=jQ d.we a y.ed y.ed.length:=zx
 refine aD rfl zx<|aa (aa ?_);refine cC rfl<|bE (jQ d.we a y.ed y.ed.length=true) (el []) [] [] ?_ ?_
 ·refine dE (λk:Nat=>k<=y.ed.length/\jQ d.we a y.ed k=true) (λk=>el [(0,.pi (d.enc++[c1,o])),(5,ints a),(37,ints y.ed),(38,I y.ed.length),(39,I k)]) (λk=>y.ed.length-k) 0 ⟨zz,rfl⟩
   (ao ⟨rfl,rfl,rfl,by show I _=I _;simp,rfl,trivial⟩) ?_
  rintro k ⟨hk,hi⟩;refine aC rfl<|aa (ag rfl (λhc=>?_) (λhc=>?_))
  ·simp only[nL]at hc;obtain⟨n,r⟩:=aL hc;obtain⟨v,m⟩:=aL (l:=a) (k:=k) zz;have H:=q n (an r);have J:=b v (an m);have u:=jY 0 d.we [v-n]
   have p:jQ d.we a y.ed (k+1)=(n== -1|| !ah 0 d.we [v-n]):=by
    have:jQ d.we a y.ed (k+1)=(jQ d.we a y.ed k&&(y.ed.getD k 0== -1|| !ah 0 d.we [a.getD k 0-y.ed.getD k 0])):=by unfold jQ;rw[be,bi];simp
    rw[this,hi,zV r,zV m];rfl
   have t:(n== -1|| !ah 0 d.we [v-n])=false->ic d h c s=false:=by
    intro z;rw[i];have:jQ d.we a y.ed y.ed.length=true->jQ d.we a y.ed (k+1)=true:=by intro f;unfold jQ at f ⊢;rw[List.all_eq_true]at f ⊢;exact λj E=>f j (ap.2 (by have:=ap.1 E;omega))
    cases A:jQ d.we a y.ed y.ed.length with
    |false=>rfl
    |true=>rw[p,z]at this;exact absurd (this A) zq
   generalize ah 0 d.we [v-n]=bb at u p t;refine af (aa (au ?_));refine bc [.cells [I n]] rfl ⟨⟨zz,by simp [r]⟩,trivial⟩<|dZ True (el [(0,.pi (d.enc++[c1,o])),(5,ints a),(37,ints y.ed),(38,I y.ed.length),(39,I k),(60,B (!(n== -1|| !bb)))]) [] [] ?_ ?_
   ·by_cases f:n= -1
    ·have g:(n != -1)=false:=by simp [f]
     refine rE [(46,false)] [] rfl (by(and_intros);(all_goals first|exact zk _|((exact g)))) ?_;exact⟨(),trivial,ao ⟨rfl,rfl,rfl,rfl,rfl,by show B _=B _;simp [f],trivial⟩⟩
    ·have g:(n != -1)=true:=by simp [f]
     refine rE [(46,true)] [.cells [I v],.bW,.ret (B bb)] rfl (by(repeat' (with_reducible apply a7));(all_goals first|exact zk _|((first|exact g|exact u|(simp [m];done))))) ?_;exact⟨(),trivial,ao ⟨rfl,rfl,rfl,rfl,rfl,by show B _=B _;simp [f],trivial⟩⟩
   intro _ _;cases w:(n== -1|| !bb)with
   |false=>refine ax rfl rfl<|aC rfl<|ab (aB ?_);rw[t w];rfl
   |true=>refine aD rfl rfl<|dS rfl ⟨zz,trivial⟩ ?_;exact⟨k+1,⟨hc,by rw[p];exact w⟩,zz,eL⟩
  ·simp only[nL]at hc;have e:k=y.ed.length:=zz
   subst e;exact ay ⟨(),hi,ao trivial⟩
 ·intro _ h;refine aC rfl<|ab (aB ?_);rw[i,h];rfl
abbrev pk (h c s:Nat):Value:=.agg #[.int .i64 h,.int .i64 c,.int .i64 s]
theorem KR {n:Nat}(h:n<60):(Lit.int .i64 (n:Nat)).wf=true:=nj zz zz
theorem pkW {h c s:Nat}(d:h<60)(e:c<60)(f:s<60):bJ ad 3 484 (pk h c s):=by
 have a:ad.cellsOf 484=3:=zw
 have b:ad.cellsOf 3=1:=zw
 refine⟨?_,[.int .i64 h,.int .i64 c,.int .i64 s],?_⟩
 ·simp [Value.formed,bI,a]
 ·simp [Value.cells,Program.keyLits,bI,Tryz.underlying3,a,b,KR d,KR e,KR f,be]
theorem MK:gO ad 484 (bJ ad 3 484):=gO.wide (m:=3) zq zw zw zw
theorem YD {h c s b a d:Nat}(e:pk h c s=pk b a d):h=b/\c=a/\s=d:=zx
def GD (d:kK)(k:Value)(v:AV):Prop:= ∃h c s n:Nat,h<d.hs.length/\c<d.cs.length/\(s:Int)<d.st/\ic d h c s=true/\k=pk h c s/\v=I (n+1)
structure DT where
 es:List (Value×AV)
 os:List (List AV)
 y:Option (Option Addr×Nat)
structure DI (d:kK)(h c s:Nat)(x:DT):Prop where
 hm:xO (GD d) x.es
 full: ∀h' c' s':Nat,(h'<h\/(h'=h/\(c'<c\/(c'=c/\s'<s))))->h'<d.hs.length->c'<d.cs.length->(s':Int)<d.st->ic d h' c' s'=true->pk h' c' s'∈x.es.map (·.1)
 hy:x.y=none->x.os=[]
 ol:x.os.length<=6*(4*h+c)+s
theorem GD.key {d:kK}(ok:d.OK){k:Value}{v:AV}(h:GD d k v):bJ ad 3 484 k:=by obtain⟨h,c,s,n,a,b,e,_,rfl,_⟩:=h;have:=ok.h4;have:=ok.c4;have:=ok.Sz;exact pkW zz zz zz
theorem Sb {es:List (Value×AV)}{k:Value}{v:AV}{o:Option (Nat×AV)}(a:Av es k o):(∀b,b∈es.map (·.1)->b∈(km es k v o).map (·.1))/\k∈(km es k v o).map (·.1):=by
 rw[Cw a];cases a with
 |none h=>grind
 | @some j p h=>grind
abbrev tE:DT->List (Nat×AV)
 |⟨_,_,none⟩=>[]
 |⟨_,os,some (a,cap)⟩=>[(54,.jr 484 3 os a cap)]
def tA:Option (Option Addr×Nat)->Option Addr|none=>none|some z=>z.1
def tR:Option (Option Addr×Nat)->Nat|none=>0|some z=>z.2
abbrev tC (x:DT):AV:=.v (.slice (tA x.y) x.os.length (tR x.y))
theorem gf {env:Env}{l m:List (Nat×AV)}(h:qX env l)(k:qX env m):qX env (l++m):=by
 induction l with
 |nil=>exact k
 |cons x l a=>exact⟨h.1,a h.2⟩
abbrev tH (d:kK)(b3 g:Nat)(x:DT):Heap:=[(b3,.cells 457 (d.enc++[tC x,.mo g])),(g,.map x.es)]
section
variable {d:kK} (ok:d.OK) (b3 g:Nat)
include ok
theorem abw {h c s:Nat}{x:DT}(a:DI d h c s x)(hh:h<d.hs.length)(hc:c<d.cs.length)(hs:(s:Int)<d.st)(m:ic d h c s=true)(n:Nat){o:Option (Nat×AV)}(g:Av x.es (pk h c s) o)(v:List AV)(z:Option Addr×Nat):
  DI d h c (s+1) ⟨km x.es (pk h c s) (I ((n:Nat)+1)) o,x.os++[v],some z⟩:=by
 have:=ok;obtain⟨q,r⟩:=Sb (v:=I ((n:Nat)+1)) g
 refine⟨xO.put g (a.hm.Ki _) ⟨h,c,s,n,hh,hc,hs,m,rfl,rfl⟩,?_,(λe=>by cases e),?_⟩
 ·intro f b i p a1 j k l
  by_cases e:f=h/\b=c/\i=s
  ·grind
  ·exact q _ (a.full f b i zz a1 j k l)
 ·have:=a.ol
  simp only[bA,bm];omega
theorem ZI {h c s:Nat}{x:DT}(a:DI d h c s x)(m:ic d h c s=false):DI d h c (s+1) x:=by
 have:=ok
 refine⟨a.hm,?_,a.hy,by have:=a.ol;omega⟩;intro f b g l a1 i j k;by_cases e:f=h/\b=c/\g=s
 ·grind
 ·exact a.full f b g zz a1 i j k
end
structure qC (d:kK)(es:List (Value×AV)):Prop where
 hm:xO (GD d) es
 full: ∀h c s:Nat,h<d.hs.length->c<d.cs.length->(s:Int)<d.st->ic d h c s=true->pk h c s∈es.map (·.1)
abbrev Cf (d:kK)(os:List (List AV))(es:List (Value×AV)):AV:=.pi (d.enc++[.sl 3 os,.mi es])
abbrev tL (d:kK)(b3 h c s:Nat):List (Nat×AV):=[(1,.pi d.enc),(3,.po b3 0),(13,lE d.hs),(14,I d.hs.length),(15,I h),(19,lE d.cs),(20,I d.cs.length),(21,I c),(25,I d.st),(26,I s),(4,I h),(5,I c)]
section
variable {d:kK} (ok:d.OK) (b3 g:Nat)
include ok
theorem PT {h c s:Nat}{x:DT}(r:DI d h c s x)(hh:h<d.hs.length)(hc:c<d.cs.length)(hs:(s:Int)<d.st)
  {Q:cI} (K: ∀J env H,DI d h c (s+1) J->bB env H [] (el (tL d b3 h c s++tE J)) (tH d b3 g J) []->Q .normal env H []):
  aJ ad none 61 (match abS with| .seq _ (.seq _ (.seq (.seq _ (.block _ (.loop (.seq _ (.seq _ (.seq (.block _ (.seq _ (.seq _ (.block _ (.loop (.seq _ (.seq _ (.seq (.block _ (.seq _ (.seq _ (.block _ (.loop (.seq _ (.seq _ (.seq (.block _ b) _)))))))) _)))))))) _)))))) _))=>b|_=>.skip)
   Q (el (tL d b3 h c s++tE x)) (tH d b3 g x) []:=by
 show aJ ad none 61 (.seq (.ops _) (.seq (.ops _) (.seq (.ops _) (.ite _ (.seq (.iP _) (.iP _)) .skip)))) _ _ _ _
 obtain⟨L,hx⟩:=aL hc
 obtain⟨M,hy⟩:=aL hh
 have q:=OC ok (tC x) (.mo g) hx hy (s:=s) (by have:=ok.cl L (an hx);omega)
 have h4:=ok.h4
 have c4:=ok.c4
 have Sz:=ok.Sz
 have D:bJ ad 3 484 (pk h c s):=pkW zz zz zz
 have G:=r.ol
 have a: ∀(env:Env),env 54=el (tE x) 54->qX env (tE x):=by
  intro env he
  obtain⟨es,os,y⟩:=x
  rcases y with _|⟨u,cap⟩
  ·trivial
  ·exact⟨he,trivial⟩
 refine aC rfl<|bc [.aI] rfl ⟨rfl,⟨rfl,rfl,rfl,zq⟩,trivial⟩<|ae (aq (t:=7) rfl) ?_
 generalize A:ic d h c s=bb at q
 refine bc [.Fq [.pi (d.enc++[tC x,.mo g]),.agg [I h,I c,I s]] (B bb)] rfl ⟨⟨q,rfl,.po (i:=0) rfl,.refl _,trivial⟩,trivial⟩ ?_
 cases bb with
 |false=>
  refine aD rfl rfl (K x _ _ (ZI ok r A) (ao (gf (l:=tL d b3 h c s) ⟨rfl,rfl,rfl,rfl,rfl,rfl,rfl,rfl,rfl,rfl,rfl,rfl,trivial⟩ (a _ rfl))))
 |true=>
  refine ax rfl rfl ?_
  obtain⟨o,F⟩:=Ei x.es (pk h c s)
  have C: ∀e∈x.es,bJ ad 3 484 e.1:=λe he=>(r.hm.ok e he).key ok
  refine aa (xh [] [.at 0,.at 0] rfl ⟨rfl,rfl,⟨zz,zz⟩,trivial⟩ ?_)
  refine ai (aF.iI (n:=1) MK rfl rfl (kv:=pk h c s) rfl D C F rfl rfl ?_)
  refine bh<|ae (ar (H':=[(b3,.cells 457 (d.enc++[tC x,.mo g])),(g,.map (km x.es (pk h c s) (I ((x.os.length:Nat)+1)) o))]) rfl) ?_
  have f:=λz=>abw ok r hh hc hs A x.os.length F [I h,I c,I s] z
  refine ae (ao (l:=tL d b3 h c s++tE x++[(7,.pi [I h,I c,I s])]) (gf (gf (l:=tL d b3 h c s) ⟨rfl,rfl,rfl,rfl,rfl,rfl,rfl,rfl,rfl,rfl,rfl,rfl,trivial⟩ (a _ rfl)) ⟨rfl,trivial⟩)) ?_
  generalize km x.es (pk h c s) (I ((x.os.length:Nat)+1)) o=w at f
  have fin: ∀(H:Heap) (env:Env) (z:Option Addr×Nat),bB env H [] (el (tL d b3 h c s++tE ⟨w,x.os++[[I h,I c,I s]],some z⟩)) (tH d b3 g ⟨w,x.os++[[I h,I c,I s]],some z⟩) []->Q .normal env H []:=λH env z he=>K _ _ _ (f z) he
  clear f C F D q K a
  obtain⟨es,os,y⟩:=x
  have E:=r.hy
  clear r
  simp only at G E fin
  have sub: ∀(n m cap:Nat) (u:Option Addr),n=m->ez (.v (.slice u n cap)) (.v (.slice u m cap)):=by
   intro n m cap u e;subst e;exact aU _
  rcases y with _|⟨u,cap⟩
  ·have:=E rfl
   subst this
   refine ae (bB.nv (j:=0) (p:=tC ⟨es,[],none⟩) d.enc [.mo g] .nil rfl (λS v h=>by simp only[aR]at h ⊢;exact h))<|xh [] [.at 0,.bW] rfl ⟨rfl,rfl,⟨by show 1*24<=_;decide,by show 1<=_;decide⟩,trivial⟩<|aT.share (t:=54) rfl (λe=>by cases e) (λk cap=>?_)
   refine ai (aZ (i:=1) rfl rfl rfl rfl rfl rfl (by show 6<=7;decide) ?_)
   refine aG (bB.soV (i:=0) (t:=54) rfl rfl rfl)<|aG (bB.nv (j:=0) (p:=.so k 1 cap) d.enc [.mo g] (.v (.slice (some ⟨k,0,none⟩) 1 cap)) rfl (λS v h=>by simp only[aR]at h ⊢;exact h))<|bh (fin _ _ (some ⟨k,0,none⟩,cap) ?_)
   exact ao (gf (l:=tL d b3 h c s) ⟨rfl,rfl,rfl,rfl,rfl,rfl,rfl,rfl,rfl,rfl,rfl,rfl,trivial⟩ ⟨rfl,trivial⟩)
  ·refine xh [] [.at 0,.bW,.own 54] rfl ⟨rfl,rfl,⟨⟨rfl,rfl,rfl⟩,by show (os.length+1)*24<=_;omega,by show os.length+1<=_;omega⟩,trivial⟩<|aT.share (t:=54) (es:=os++[[I h,I c,I s]]) rfl (λe=>by simp at e) (λk cap=>?_)
   refine ai (aZ (i:=1) rfl rfl rfl rfl rfl rfl (by show 6<=7;decide) ?_)
   refine aG (bB.soV (i:=0) (t:=54) rfl rfl rfl)<|aG (bB.nv (j:=0) (p:=.so k (os++[[I h,I c,I s]]).length cap) d.enc [.mo g] (.v (.slice (some ⟨k,0,none⟩) (os++[[I h,I c,I s]]).length cap)) rfl (λS v h=>by simp only[aR]at h ⊢;exact h))<|bh (fin _ _ (some ⟨k,0,none⟩,cap) ?_)
   exact ao (gf (l:=tL d b3 h c s) ⟨rfl,rfl,rfl,rfl,rfl,rfl,rfl,rfl,rfl,rfl,rfl,rfl,trivial⟩ ⟨rfl,trivial⟩)
end
section
variable {d:kK} (ok:d.OK)
include ok
theorem Ya {h c s:Nat}{x:DT}(a:DI d h c s x)(hs:(s:Int)=d.st):DI d h (c+1) 0 x:=by have Sz:=ok.Sz;refine⟨a.hm,?_,a.hy,by have:=a.ol;omega⟩;intro i g k j a1 b e f;exact a.full i g k zz a1 b e f
theorem XB {h:Nat}{x:DT}(a:DI d h d.cs.length 0 x):DI d (h+1) 0 0 x:=by have c4:=ok.c4;refine⟨a.hm,?_,a.hy,by have:=a.ol;omega⟩;intro g f j i a1 b c e;exact a.full g f j zz a1 b c e
abbrev tL1 (d:kK)(a h:Nat):List (Nat×AV):=[(1,.pi d.enc),(3,.po a 0),(13,lE d.hs),(14,I d.hs.length),(15,I h)]
abbrev tL2 (d:kK)(a h c:Nat):List (Nat×AV):=[(1,.pi d.enc),(3,.po a 0),(13,lE d.hs),(14,I d.hs.length),(15,I h),(19,lE d.cs),(20,I d.cs.length),(21,I c),(4,I h)]
abbrev tL3 (d:kK)(a h c s:Nat):List (Nat×AV):=[(1,.pi d.enc),(3,.po a 0),(13,lE d.hs),(14,I d.hs.length),(15,I h),(19,lE d.cs),(20,I d.cs.length),(21,I c),(25,I d.st),(26,I s),(4,I h),(5,I c)]
theorem Pp:il ad 345 [.agg d.enc] [] (λr _=> ∃os es,r=Cf d os es/\qC d es):=by
 have h4:=ok.h4;have c4:=ok.c4;have Sz:=ok.Sz;have st0:=ok.st0
 have a: ∀(x:DT) (env:Env),env 54=el (tE x) 54->qX env (tE x):=by
  intro x env he;obtain⟨es,os,y⟩:=x;rcases y with _|⟨D,cap⟩
  ·trivial
  ·exact⟨he,trivial⟩
 refine bq aa4.ok<|bc [.bW] rfl ⟨⟨rfl,rfl⟩,trivial⟩<|aa (av ?_);refine kL 1 rfl rfl<|ai (aF.sU (λg=>?_));refine lz [.aI] 2 rfl rfl ⟨⟨rfl,rfl⟩,trivial⟩<|aT.fY (t:=11) rfl (λf=>?_);refine eZ rfl<|ae (ar (H':=tH d f g ⟨[],[],none⟩) rfl)<|aa (aa ?_);refine cC rfl<|aJ.gK (Y:=DT) (λx=>DI d d.hs.length 0 0 x) (λx=>el ([(1,.pi d.enc),(3,.po f 0)]++tE x)) (λx=>tH d f g x) (λ_=>[]) ?_ ?_
 ·refine br (X:=Nat×DT) (λz=>z.1<=d.hs.length/\DI d z.1 0 0 z.2) (λz=>el (tL1 d f z.1++tE z.2)) (λz=>tH d f g z.2) (λ_=>[]) (λz=>d.hs.length-z.1) (0,⟨[],[],none⟩)
   ⟨b9 _,⟨xO.nil _,λP O Q h=>zz,λ_=>rfl,zj⟩⟩ (ao ⟨rfl,rfl,rfl,by show I _=I _;simp,rfl,trivial⟩) ?_
  rintro⟨h,x⟩ ⟨hh,n⟩;simp only at hh n ⊢;refine aC rfl<|aa (ag rfl (λhc=>?_) (λhc=>?_))
  ·simp only[nL]at hc;refine af<|aJ.qq (Y:=DT) (λx=>DI d (h+1) 0 0 x) (λx=>el (tL1 d f h++tE x)) (λx=>tH d f g x) (λ_=>[]) ?_ ?_
   ·refine aC rfl<|aa<|cC rfl<|au<|br (X:=Nat×DT) (λz=>z.1<=d.cs.length/\DI d h z.1 0 z.2) (λz=>el (tL2 d f h z.1++tE z.2)) (λz=>tH d f g z.2) (λ_=>[]) (λz=>d.cs.length-z.1) (0,x) ⟨b9 _,n⟩
     (ao (gf (l:=tL2 d f h 0) ⟨rfl,rfl,rfl,rfl,rfl,rfl,by show I _=I _;simp,rfl,rfl,trivial⟩ (a _ _ rfl))) ?_
    rintro⟨c,x⟩ ⟨B,u⟩;simp only at B u ⊢;refine aC rfl<|aa (ag rfl (λk=>?_) (λk=>?_))
    ·simp only[nL]at k;refine af<|aJ.qq (Y:=DT) (λx=>DI d h (c+1) 0 x) (λx=>el (tL2 d f h c++tE x)) (λx=>tH d f g x) (λ_=>[]) ?_ ?_
     ·refine aC rfl<|aa<|cC rfl<|au<|br (X:=Nat×DT) (λz=>(z.1:Int)<=d.st/\DI d h c z.1 z.2) (λz=>el (tL3 d f h c z.1++tE z.2)) (λz=>tH d f g z.2) (λ_=>[]) (λz=>d.st.toNat-z.1) (0,x) ⟨by simp only;omega,u⟩
       (ao (gf (l:=tL3 d f h c 0) ⟨rfl,rfl,rfl,rfl,rfl,rfl,rfl,rfl,rfl,rfl,rfl,rfl,trivial⟩ (a _ _ rfl))) ?_
      rintro⟨s,x⟩ ⟨C,w⟩;simp only at C w ⊢;refine aC rfl<|aa (ag rfl (λm=>?_) (λm=>?_))
      ·simp only[decide_eq_true_eq]at m;refine af<|aJ.qq (Y:=DT) (λx=>DI d h c (s+1) x) (λx=>el (tL3 d f h c s++tE x)) (λx=>tH d f g x) (λ_=>[]) ?_ ?_
       ·refine ae (ao (gf (l:=tL3 d f h c s) ⟨rfl,rfl,rfl,rfl,rfl,rfl,rfl,rfl,rfl,rfl,rfl,rfl,trivial⟩ (a _ _ rfl))) ?_;exact PT ok f g w hc k m (λo env H i e=>⟨o,i,e⟩)
       ·intro o q;refine dS rfl ⟨zz,trivial⟩ ?_;exact⟨(s+1,o),⟨by simp only;omega,q⟩,by simp only;omega,ao (gf (l:=tL3 d f h c (s+1)) ⟨rfl,rfl,rfl,rfl,rfl,rfl,rfl,rfl,rfl,rfl,rfl,rfl,trivial⟩ (a _ _ rfl))⟩
      ·simp only[decide_eq_false_iff_not]at m;exact ay ⟨x,Ya ok w zz,ao (gf (l:=tL2 d f h c) ⟨rfl,rfl,rfl,rfl,rfl,rfl,rfl,rfl,rfl,trivial⟩ (a _ _ rfl))⟩
     ·intro o q;refine dS rfl ⟨zz,trivial⟩ ?_;exact⟨(c+1,o),⟨by simp only;omega,q⟩,by simp only;omega,ao (gf (l:=tL2 d f h (c+1)) ⟨rfl,rfl,rfl,rfl,rfl,rfl,rfl,rfl,rfl,trivial⟩ (a _ _ rfl))⟩
    ·simp only[nL]at k;have e:c=d.cs.length:=zz
     subst e;exact ay ⟨x,XB ok u,ao (gf (l:=tL1 d f h) ⟨rfl,rfl,rfl,rfl,rfl,trivial⟩ (a _ _ rfl))⟩
   ·intro o q;refine dS rfl ⟨zz,trivial⟩ ?_;exact⟨(h+1,o),⟨by simp only;omega,q⟩,by simp only;omega,ao (gf (l:=tL1 d f (h+1)) ⟨rfl,rfl,rfl,rfl,rfl,trivial⟩ (a _ _ rfl))⟩
  ·simp only[nL]at hc;have e:h=d.hs.length:=zz
   subst e;exact ay ⟨x,n,ao (gf (l:=[(1,.pi d.enc),(3,.po f 0)]) ⟨rfl,rfl,trivial⟩ (a _ _ rfl))⟩
 ·intro x n;have K:qC d x.es:=⟨n.hm,λh c s a1 F G J=>n.full h c s zz a1 F G J⟩;have hy:=n.hy;obtain⟨es,os,y⟩:=x;simp only at K hy;have fin: ∀(p:AV) (rest:List (Nat×AV)),ez p (.sl 3 os)->aJ ad none 61 (.seq (.ops [⟨some 60,none,.rF (tm 3)⟩,⟨some 2,none,.rF (tm 60)⟩]) .ret) (wM ad [.tmp 2] (λr _=> ∃os es,r=Cf d os es/\qC d es)) (el ((3,.po f 0)::rest)) [(f,.cells 457 (d.enc++[p,.mo g])),(g,.map es)] []:=by intro p rest N;refine ae (aj (bB.nv (j:=0) (p:=p) d.enc [.mo g] (.sl 3 os) rfl N) (ar (H':=[(f,.cells 457 (d.enc++[.sl 3 os,.mo g])),(g,.map es)]) rfl))<|ae (bB.iA (i:=0) 3 rfl rfl)<|ae (aj (ao (l:=[(3,.pi (d.enc++[.sl 3 os,.mo g]))]) ⟨rfl,trivial⟩) (bB.lN (i:=0) (t:=3) (b:=g) (es:=es) rfl rfl))<|ae (ao (l:=[(3,Cf d os es)]) ⟨by show AV.pi _=_;simp [Cn],trivial⟩)<|aC rfl ?_;exact ab ⟨.inr rfl,_,_,[],rfl,.one (.tmp rfl rfl),⟨os,es,rfl,K⟩,List.nil_sublist _⟩
  rcases y with _|⟨D,cap⟩
  ·have e:=hy rfl;subst e;refine gm [(3,.po f 0)] ?_;exact fin (.v (.slice none 0 0)) [] (λS v h=>by simp only[aR]at h ⊢;exact .inl ⟨⟨none,h⟩,trivial⟩)
  ·refine gm [(3,.po f 0),(54,.jr 484 3 os D cap)]<|aJ.PF 54 rfl (λL A M=>?_) (λE A=>?_)
   ·subst L A M;refine gm [(3,.po f 0)] ?_;exact fin (.v (.slice none 0 0)) [] (λS v h=>by simp only[aR]at h ⊢;exact .inl ⟨⟨none,h⟩,trivial⟩)
   ·subst A;refine gm [(3,.po f 0)]<|ae (aj (bB.nv (j:=1) (p:=.v (.slice (some ⟨E,0,none⟩) os.length cap)) d.enc [.mo g] (.so E os.length cap) rfl (λS v h=>by simp only[aR]at h ⊢;exact h)) (bB.mF (i:=0) (j:=0) (d.enc++[.sl 3 os,.mo g]) rfl rfl ?_)) ?_
    ·exact⟨.inl rfl,.inl rfl,.inl rfl,.inl rfl,.inl rfl,.inr ⟨rfl,rfl⟩,.inl rfl,trivial⟩
    ·exact fin _ [] (aU _)
end
section
variable {d:kK} (ok:d.OK) {os:List (List AV)} {es:List (Value×AV)} (K:qC d es)
include ok K
theorem PY {h c:Nat}(hh:h<d.hs.length)(hc:c<d.cs.length):Ev ad 373 [Cf d os es,I h,I c] (B (sX d h c)):=by
 have h4:=ok.h4;have c4:=ok.c4;have Sz:=ok.Sz;have st0:=ok.st0;have u:(ad.info? 3).bind (·.zero)=some (.int .i64 0):=zw
 have g: ∀e∈es,bJ ad 3 484 e.1:=λe he=>(K.hm.ok e he).key ok;refine ak adf.ok<|aC rfl<|aa (aa ?_);refine cC rfl<|bE (sX d h c=false) (el []) [] [] ?_ ?_
 ·refine dE (λk:Nat=>(k:Int)<=d.st/\ ∀j,j<k->ic d h c j=false) (λk=>el [(0,Cf d os es),(1,I h),(2,I c),(12,I d.st),(13,I k)]) (λk=>d.st.toNat-k) 0 ⟨zz,λj a=>zz⟩ eL ?_;rintro k ⟨hk,hi⟩;refine aC rfl<|aa (ag rfl (λhd=>?_) (λhd=>?_))
  ·simp only[decide_eq_true_eq]at hd;refine af (aa (au ?_));refine aC rfl ?_;obtain⟨o,l⟩:=Ei es (pk h c k);refine aa (av ?_);refine kL 8 rfl rfl<|ai (aF.Fg MK u rfl rfl (pkW zz zz zz) g l ?_);rcases A6 l K.hm with rfl|⟨j,p,rfl,w,v,x,n,_,_,_,m,q,rfl⟩
   ·have i:ic d h c k=false:=by
     cases s:ic d h c k with
     |false=>rfl
     |true=>
      have:=K.full h c k hh hc hd s;cases l with
      |none t=>obtain⟨e,he,f⟩:=List.mem_map.1 this;exact absurd f (t e he)
    refine eZ rfl<|aD (b:=false) rfl rfl<|dS rfl ⟨zz,trivial⟩ ?_;refine⟨k+1,⟨zz,λj a=>?_⟩,zz,eL⟩;by_cases e:j=k
    ·subst e;exact i
    ·exact hi j zz
   ·obtain⟨rfl,rfl,rfl⟩:=YD q;refine eZ rfl<|ax rfl (by show decide (((n:Nat):Int)+1>0)=true;rw[decide_eq_true_iff];omega)<|aC rfl<|ab (aB ?_);show B true=B _;refine congrArg B ?_;unfold sX;symm;rw[List.any_eq_true];exact⟨k,ap.2 zz,m⟩
  ·simp only[decide_eq_false_iff_not]at hd;refine ay ⟨(),?_,ao trivial⟩;unfold sX;rw[List.any_eq_false];intro j a;rw[hi j (by have:=ap.1 a;omega)];decide
 ·intro _ r;refine aC rfl<|ab (aB ?_);rw[r];rfl
end
abbrev iz (f:Nat->Nat):List AV:=[I (f 0:Nat),I (f 1:Nat),I (f 2:Nat),I (f 3:Nat)]
theorem xP (f:Nat->Nat){k:Nat}(h:k<4):[I (f k:Nat)]<+:(iz f).drop (k*1):=by
 match k,h with
 |0,_=>exact⟨_,rfl⟩
 |1,_=>exact⟨_,rfl⟩
 |2,_=>exact⟨_,rfl⟩
 |3,_=>exact⟨_,rfl⟩
theorem xQ (f:Nat->Nat)(v:Nat){k:Nat}(h:k<4):bK (iz f) (0+k*1) [I (v:Nat)]=iz (λj=>if j=k then v else f j):=by
 match k,h with
 |0,_=>rfl
 |1,_=>rfl
 |2,_=>rfl
 |3,_=>rfl
theorem Fs {p:List Nat}{a:Nat->Nat}{k n:Nat}(hk:k=p.length)(ha: ∀i,i≠k->a i=aM p i):(λj=>if j=k then n else a j)=aM (p++[n]):=by grind [jB,mv]
theorem Io {p:List Nat}{a:Nat->Nat}{k:Nat}(hk:k=p.length)(ha: ∀i,i≠k->a i=aM p i):(λj=>if j=k then 0 else a j)=aM p:=by grind [mv]
def mJ (p:List Nat):Nat:=p.foldl (λs k=>if k=0 then s else s ||| 2^(k-1)) 0
theorem Bj (p:List Nat)(k:Nat):mJ (p++[k])=if k=0 then mJ p else mJ p ||| 2^(k-1):=by unfold mJ;rw[List.foldl_append];rfl
theorem De (c:Nat)(p:List Nat):(mJ p).testBit c=p.contains (c+1):=by
 have key: ∀(p:List Nat) (s:Nat),(p.foldl (λs k=>if k=0 then s else s ||| 2^(k-1)) s).testBit c=(s.testBit c||p.contains (c+1)):=by
  intro p;induction p with
  |nil=>intro s;simp
  |cons k p a=>grind
 unfold mJ;rw[key];simp
theorem PI {n:Nat}{p:List Nat}(h: ∀k∈p,k<=n):mJ p<2^n:=by apply Nat.lt_pow_two_of_testBit;intro i hi;rw[De,Bool.eq_false_iff];intro hc;have:=h (i+1) zx;omega
theorem oS {α β:Type}(q:α->Bool)(g:α->List β): ∀l:List α,(l.filter q).flatMap g=l.flatMap λc=>if q c=true then g c else[]
 |[]=>rfl
 |c::l=>by
  cases h:q c with
  |true=>rw[List.filter_cons_of_pos h,a8,a8,oS q g l,h,if_pos rfl]
  |false=>rw[List.filter_cons_of_neg (by rw[h];decide),a8,oS q g l,h,if_neg zq];rfl
def tch (d:kK)(m:Nat)(p:List Nat)(c:Nat):List (List Nat):=if (!p.contains (c+1)&&sX d p.length c)=true then cK (jC d) m (p++[c+1])else[]
theorem SY (d:kK)(m:Nat)(p:List Nat):cK (jC d) (m+1) p=cK (jC d) m (p++[0])++(az d.cs.length).flatMap (tch d m p):=by
 rw[show cK (jC d) (m+1) p=(0::((az d.cs.length).filter λc=> !p.contains (c+1)&&sX d p.length c).map (·+1)).flatMap (λk=>cK (jC d) m (p++[k]))from rfl,a8];congr 1;rw[List.flatMap_map];have a:tch d m p=λc=>if (!p.contains (c+1)&&sX d p.length c)=true then cK (jC d) m (p++[c+1])else[]:=rfl
 rw[a];exact oS _ _ _
theorem Wf {d:kK}{p:List Nat}{k:Nat}(h:k∈jC d p):k<=d.cs.length:=by grind [jC]
theorem wZ (p:List Nat)(k:Nat):dc (p++[k])=dc p+if k=0 then 1 else 0:=by unfold dc;rw[List.count_append];simp [List.count_singleton]
abbrev FV (f:Nat):AV:=.fn (.func f) [] []
abbrev Ua (sa:Int):Nat:=if sa=0\/sa=2 then 380 else 381
theorem Xw (sa a b:Int):Ev ad (Ua sa) [I a,I b] (B (Zi sa a b)):=by
 unfold Ua Zi;by_cases h:sa=0\/sa=2
 ·rw[if_pos h,if_pos h];refine ak aei.ok<|aC rfl<|aC rfl<|ab (aB ?_);rfl
 ·rw[if_neg h,if_neg h];refine ak agp.ok<|aC rfl<|aC rfl<|ab (aB ?_);rfl
abbrev Mg:List AV:=[FV 380,FV 381,FV 380,FV 381]
theorem Kt:Ev ad 364 [] (.agg Mg):=by refine ak ada.ok<|bc [.aI] rfl ⟨rfl,trivial⟩<|bc [.aI,.aI] rfl ⟨rfl,⟨rfl,rfl,rfl,bx 1⟩,trivial⟩<|ae (aq (t:=1) rfl)<|bc [.aI,.aI] rfl ⟨rfl,⟨rfl,rfl,rfl,bx 1⟩,trivial⟩<|ae (aq (t:=2) rfl)<|bc [.aI] rfl ⟨⟨rfl,rfl,rfl,bx 4⟩,trivial⟩<|ae (aq (t:=0) rfl) ?_;exact ab (fh (.inr rfl) (.one (.mz (n:=some 4) rfl zw rfl)))
abbrev lp (m:iX)(came:Nat)(r:List AV):AV:=.pi (m.enc++I came::r)
theorem UF (s:Nat)(n:Nat):cN (s:Nat) n=s.testBit n:=by rw[lM _ _ zz,Int.toNat_natCast]
theorem J6 (m:iX)(f:m.wo.length<=6)(came:Nat)(hc:came<9223372036854775808)(r:List AV)(i:Nat)(hi:i<=60):Ev ad 365 [lp m came r,I i] (B (tT m came i)):=by
 have p:((m.wo.map vA.enc).length:Int)=m.wo.length:=zj
 have q:=f;let A:Nat->Bool:=λn=>(az n).all (λk=> !(((m.wo[k]?).map (·.ba))==some (i:Int)&&came.testBit k));have b:tT m came i=(A m.wo.length&&came.testBit i):=rfl;have d: ∀n:Nat,n<=60->(0<=((came:Nat):Int)/2^((n:Nat):Int).toNat/\((came:Nat):Int)/2^((n:Nat):Int).toNat<=9223372036854775807):=λn _=>by have s:(0:Int)<=(came:Nat)/2^((n:Nat):Int).toNat:=cb zz (cA (cD zz));have u:((came:Nat):Int)/2^((n:Nat):Int).toNat<=(came:Nat):=b7 _ zz;omega
 refine ak ad8.ok<|aC rfl<|aa (aa ?_);refine cC rfl<|bE (A m.wo.length=true) (el [(0,lp m came r),(1,I i)]) [] [] ?_ ?_
 ·refine dE (λk:Nat=>k<=m.wo.length/\A k=true) (λk=>el [(0,lp m came r),(1,I i),(11,oT m.wo),(12,I m.wo.length),(13,I k)]) (λk=>m.wo.length-k) 0 ⟨zz,rfl⟩
   (ao ⟨rfl,rfl,rfl,by show I _=I _;simp,rfl,trivial⟩) ?_
  rintro k ⟨hk,hi⟩;refine aC rfl<|aa (ag rfl (λhc=>?_) (λhc=>?_))
  ·simp only[nL]at hc;obtain⟨w,hx⟩:=aL hc;have c:A (k+1)=(A k&& !(w.ba==(i:Int)&&came.testBit k)):=by show (az (k+1)).all _=_;rw[be,bi,cr,cB,cc,hx];rfl
   have g:A (k+1)=false->A m.wo.length=false:=by intro h;rw[b1]at h ⊢;obtain⟨j,l,o⟩:=h;exact⟨j,ap.2 (by have:=ap.1 l;omega),o⟩
   have a:=UF came k;unfold cN at a;have hs:=d k zz;refine af (aa (au ?_));refine bc [.cells w.enc,.aI] rfl ⟨⟨zz,by simp [hx]⟩,rfl,⟨rfl,rfl,rfl,zq⟩,trivial⟩<|ae (aq (t:=6) rfl)<|dZ True (el [(0,lp m came r),(1,I i),(11,oT m.wo),(12,I m.wo.length),(13,I k),(31,B (w.ba==(i:Int)&&came.testBit k))]) [] [] ?_ ?_
   ·cases e:(w.ba==(i:Int))with
    |false=>refine js [(22,false)] [] rfl (by(and_intros);(all_goals first|exact zk _|((first|exact e|rfl)))) ?_;exact⟨(),trivial,eL⟩
    |true=>refine js [(22,true)] [] rfl (by(and_intros);(all_goals first|exact zk _|((first|exact e|exact a|omega)))) ?_;refine⟨(),trivial,ao ⟨rfl,rfl,rfl,rfl,rfl,?_,trivial⟩⟩;show B _=B _;rw[a];rfl
   intro _ _;cases e:(w.ba==(i:Int)&&came.testBit k)with
   |true=>refine ax rfl rfl<|aC rfl<|ab (aB ?_);rw[b,g (by rw[c,e];simp)];rfl
   |false=>refine aD rfl rfl<|dS rfl ⟨zz,trivial⟩ ?_;exact⟨k+1,⟨hc,by rw[c,e,hi];rfl⟩,zz,eL⟩
  ·simp only[nL]at hc;have e:k=m.wo.length:=zz
   subst e;exact ay ⟨(),hi,eL⟩
 ·intro _ h;have a:=UF came i;unfold cN at a;have hs:=d i hi;refine FD rfl (by(and_intros);(all_goals first|exact zk _|((first|exact a|omega))))<|ab (aB ?_);show B _=B _;rw[a,b,h];rfl
abbrev dh (f:Nat->Nat):List AV:=[I (f 0:Nat),I (f 1:Nat),I (f 2:Nat),I (f 3:Nat),I (f 4:Nat)]
theorem Z2 {C:Nat->Prop}(a:C 0)(b:C 1)(c:C 2)(d:C 3)(h4:C 4){k:Nat}(h:k<5):C k:=zx
theorem nM (f:Nat->Nat){k:Nat}(h:k<5):[I (f k:Nat)]<+:(dh f).drop (k*1):=
 Z2 (C:=λk=>[I (f k:Nat)]<+:(dh f).drop (k*1)) ⟨_,rfl⟩ ⟨_,rfl⟩ ⟨_,rfl⟩ ⟨_,rfl⟩ ⟨_,rfl⟩ h
theorem D6 (f:Nat->Nat)(v:Nat){k:Nat}(h:k<5):bK (dh f) (0+k*1) [I (v:Nat)]=dh (λj=>if j=k then v else f j):=
 Z2 (C:=λk=>bK (dh f) (0+k*1) [I (v:Nat)]=dh (λj=>if j=k then v else f j)) rfl rfl rfl rfl rfl h
structure iX.OK (m:iX):Prop where
 wf:m.wf
 c4:m.cl.length<=4
 s5:m.su.length<=5
 w6:m.wo.length<=6
 p5:m.pa.length<=5
 su: ∀x∈m.su,1<=x.pe/\x.pe<=99/\1<=x.fo/\x.fo<=2^m.cl.length-1
 wo: ∀w∈m.wo,0<=w.sa/\w.sa<=3/\0<=w.su/\w.su<m.su.length/\0<=w.of/\(2<=w.sa->w.of<m.su.length)/\(w.sa<2->w.of<m.cl.length)/\ -1<=w.ba/\w.ba<m.wo.length
 pa: ∀p∈m.pa,0<=p.su/\p.su<m.su.length/\0<=p.cl/\p.cl<m.cl.length
theorem Pz {sa:Int}(a:0<=sa)(b:sa<=3):[FV (Ua sa)]<+:Mg.drop (sa.toNat*1):=by
 obtain⟨n,rfl⟩:=Int.eq_ofNat_of_zero_le a;have:n<4:=zz
 match n,this with
 |0,_=>exact⟨_,rfl⟩
 |1,_=>exact⟨_,rfl⟩
 |2,_=>exact⟨_,rfl⟩
 |3,_=>exact⟨_,rfl⟩
theorem TM {m:iX}(ok:m.OK)(came:Nat)(i:came<9223372036854775808)(r:List AV)(t:Nat->Nat)(a:Nat):Ev ad 335 [lp m came r,.agg (dh t),I a] (B (Bq m came t a)):=by
 have u:((m.wo.map vA.enc).length:Int)=m.wo.length:=zj
 have w6:=ok.w6;have s5:=ok.s5;have c4:=ok.c4;let A:Nat->Bool:=λn=>(az n).all (RE m came t a);have l:Bq m came t a=A m.wo.length:=rfl;refine ak acK.ok<|bc [.bW] rfl ⟨⟨rfl,rfl⟩,trivial⟩<|bc [.ret (.agg Mg),.aI] rfl ⟨Kt,rfl,⟨rfl,rfl,rfl,zq⟩,trivial⟩<|ae (aq (t:=7) rfl)<|aa (aa ?_);refine cC rfl ?_;let E:List (Nat×AV):=[(0,lp m came r),(2,I a),(4,.pi (dh t)),(7,.pi Mg),(8,.fn (.func 365) [lp m came r] [])];refine bE (A m.wo.length=true) (el []) [] [] ?_ ?_
 ·refine dE (λk:Nat=>k<=m.wo.length/\A k=true) (λk=>el ((20,oT m.wo)::(21,I m.wo.length)::(22,I k)::E)) (λk=>m.wo.length-k) 0 ⟨zz,rfl⟩
   (ao ⟨rfl,by show I _=I _;simp,rfl,rfl,rfl,rfl,rfl,rfl,trivial⟩) ?_
  rintro k ⟨hk,hi⟩;refine aC rfl<|aa (ag rfl (λhc=>?_) (λhc=>?_))
  ·simp only[nL]at hc;obtain⟨w,hx⟩:=aL hc;obtain⟨v,x,z,C,D,y,F,G,H⟩:=ok.wo w (an hx);have o:A (k+1)=(A k&&RE m came t a k):=by show (az (k+1)).all _=_;rw[be,bi,cr,cB,cc]
   have p:A (k+1)=false->A m.wo.length=false:=by intro h;rw[b1]at h ⊢;obtain⟨j,q,s⟩:=h;exact⟨j,ap.2 (by have:=ap.1 q;omega),s⟩
   have c:=J6 m w6 came i r k zz
   have b:RE m came t a k= !((if 2<=w.sa then max w.su w.of else w.su)==(a:Int)&&tT m came k&& !Zi w.sa (t w.su.toNat) (if 2<=w.sa then(t w.of.toNat:Int)else w.of)):=by
    unfold RE;rw[hx];by_cases h:2<=w.sa
    ·simp only[if_pos h]
    ·simp only[if_neg h]
   refine af (aa (au ?_));refine bc [.cells w.enc,.aI] rfl ⟨⟨zz,by simp [hx]⟩,rfl,⟨rfl,rfl,rfl,zq⟩,trivial⟩<|ae (aq (t:=10) rfl)<|vj [] [] rfl trivial<|dZ True (el ((9,I k)::(10,.pi w.enc)::(11,I (if 2<=w.sa then max w.su w.of else w.su))::(12,I (if 2<=w.sa then(t w.of.toNat:Int)else w.of))::(20,oT m.wo)::(21,I m.wo.length)::(22,I k)::E)) [] [] ?_ ?_
   ·refine aa<|cC rfl ?_;by_cases h:2<=w.sa
    ·have:=y h;refine ax rfl (by rw[decide_eq_true_iff];omega)<|rE [] [.pre [I (t w.of.toNat:Nat)]] rfl (by(and_intros);(all_goals first|exact zk _|((first|exact nM t zz|rfl)))) ?_;rw[if_pos h,if_pos h];exact⟨(),trivial,eL⟩
    ·refine aD rfl (by rw[decide_eq_false_iff_not];omega) ?_;rw[if_neg h,if_neg h];exact⟨(),trivial,eL⟩
   intro _ _;have d:=Xw w.sa (t w.su.toNat:Nat) (if 2<=w.sa then(t w.of.toNat:Int)else w.of);generalize (if 2<=w.sa then(t w.of.toNat:Int)else w.of)=bb at d b;generalize (if 2<=w.sa then max w.su w.of else w.su)=last at b;generalize Zi w.sa (t w.su.toNat:Nat) bb=f at d b;generalize tT m came k=g at c b;refine dZ True (el ((64,B (last==(a:Int)&&g&& !f))::(20,oT m.wo)::(21,I m.wo.length)::(22,I k)::E)) [] [] ?_ ?_
   ·cases e:(last==(a:Int))with
    |false=>refine rE [(46,false),(51,false)] [] rfl (by(and_intros);(all_goals first|exact zk _|((first|exact e|rfl)))) ?_;exact⟨(),trivial,eL⟩
    |true=>
    cases g with
    |false=>refine rE [(46,true),(51,false)] [.ret (B false)] rfl (by(repeat' (with_reducible apply a7));(all_goals first|exact zk _|((first|exact e|exact c|rfl)))) ?_;exact⟨(),trivial,eL⟩
    |true=>refine rE [(46,true),(51,true)] [.ret (B true),.pre [FV (Ua w.sa)],.pre [I (t w.su.toNat:Nat)],.ret (B f)] rfl (by(repeat' (with_reducible apply a7));(all_goals try exact zt _);exact c;exact zz;exact Pz v x;exact zz;exact nM t zz;exact d) ?_;exact⟨(),trivial,eL⟩
   intro _ _;cases e:(last==(a:Int)&&g&& !f)with
   |true=>rw[e]at b;refine ax rfl rfl<|aC rfl<|ab (aB ?_);rw[l,p (by rw[o,b];simp)];rfl
   |false=>rw[e]at b;refine aD rfl rfl<|dS rfl ⟨zz,trivial⟩ ?_;exact⟨k+1,⟨hc,by rw[o,b,hi];rfl⟩,zz,eL⟩
  ·simp only[nL]at hc;have e:k=m.wo.length:=zz
   subst e;exact ay ⟨(),hi,ao trivial⟩
 ·intro _ h;refine aC rfl<|ab (aB ?_);rw[l,h];rfl
abbrev xX (f:Nat->Int):List AV:=[I (f 0),I (f 1),I (f 2),I (f 3)]
theorem lt4 {C:Nat->Prop}(a:C 0)(b:C 1)(c:C 2)(d:C 3){k:Nat}(h:k<4):C k:=zx
theorem Qo (f:Nat->Int){k:Nat}(h:k<4):eX none ((xX f).drop (0+k*1))=some (I (f k)):=
 lt4 (C:=λk=>eX none ((xX f).drop (0+k*1))=some (I (f k))) rfl rfl rfl rfl h
theorem Ql (f:Nat->Int)(v:Int){k:Nat}(h:k<4):bK (xX f) (0+k*1) [I v]=xX (λj=>if j=k then v else f j):=
 lt4 (C:=λk=>bK (xX f) (0+k*1) [I v]=xX (λj=>if j=k then v else f j)) rfl rfl rfl rfl h
def uv (m:iX)(t:Nat->Nat):Nat->Nat->Int
 |0,_=>0
 |n+1,c=>if c=t n then uv m t n c+((m.su[n]?).map (·.pe)).getD 0 else uv m t n c
theorem LO {m:iX}(ok:m.OK)(t:Nat->Nat)(c:Nat): ∀n:Nat,0<=uv m t n c/\uv m t n c<=99*n
 |0=>⟨b8 _,b8 _⟩
 |n+1=>by
  have b:=LO ok t c n
  have a:0<=((m.su[n]?).map (·.pe)).getD 0/\((m.su[n]?).map (·.pe)).getD 0<=99:=by
   cases e:m.su[n]? with
   |none=>exact⟨b8 _,zq⟩
   |some x=>have:=ok.su x (an e);exact⟨by show 0<=x.pe;omega,this.2.1⟩
  unfold uv
  split<;>omega
theorem Xz {m:iX}(ok:m.OK)(came:Nat)(r:List AV)(t:Nat->Nat)(c: ∀i,i<m.su.length->t i<4):Ev ad 285 [lp m came r,.agg (dh t)] (.agg (xX (uv m t m.su.length))):=by
 have s5:=ok.s5;have c4:=ok.c4;refine ak agy.ok<|bc [.bW,.aI] rfl ⟨⟨rfl,rfl⟩,rfl,trivial⟩<|bM (t:=4) rfl λb=>aa (aa ?_);refine cC rfl<|bE True (el [(4,.po b 0)]) [(b,.cells 377 (xX (uv m t m.su.length)))] [] ?_ ?_
 ·refine br (λk:Nat=>k<=m.su.length) (λk=>el [(3,.pi (dh t)),(4,.po b 0),(11,tj m.su),(12,I m.su.length),(13,I k)]) (λk=>[(b,.cells 377 (xX (uv m t k)))]) (λ_=>[]) (λk=>m.su.length-k) 0 zz
   (ao ⟨rfl,rfl,rfl,by show I _=I _;simp,rfl,trivial⟩) ?_
  intro k hk;refine aC rfl<|aa (ag rfl (λhc=>?_) (λhc=>?_))
  ·simp only[nL]at hc;obtain⟨x,hx⟩:=aL hc;have d:=ok.su x (an hx);have hd:=LO ok t (t k) k;have a:=c k hc;refine af (aa (au ?_));refine bc [.cells x.enc,.aI] rfl ⟨⟨zz,by simp [hx]⟩,rfl,⟨rfl,rfl,rfl,zq⟩,trivial⟩<|ae (aq (t:=6) rfl)<|xh [] [.pre [I (t k:Nat)],.O1 0 (I (uv m t k (t k)))] rfl (by(and_intros);(all_goals first|exact zk _|((first|exact Qo _ a|exact nM t zz))))<|aT.hd (gs:=[]) (hs:=[.gI 0]) rfl ⟨⟨rfl,rfl,rfl,rfl,by show 0+((t k:Nat):Int).toNat*1+1<=4;omega⟩,trivial⟩<|dS rfl ⟨zz,trivial⟩ ?_;refine⟨k+1,hc,zz,aj (ar ?_) eL⟩;show [(b,cP.cells _ (bK (xX (uv m t k)) (0+t k*1) [I (uv m t k (t k)+x.pe)]))]=_;rw[Ql _ _ a];refine congrArg (λf=>[(b,cP.cells _ (xX f))]) ?_;funext j;rw[show uv m t (k+1) j=if j=t k then uv m t k j+((m.su[k]?).map (·.pe)).getD 0 else uv m t k j from rfl,hx];by_cases e:j=t k
   ·rw[if_pos e,if_pos e,e];rfl
   ·rw[if_neg e,if_neg e]
  ·simp only[nL]at hc;have e:k=m.su.length:=zz
   subst e;exact ay ⟨(),trivial,eL⟩
 ·intro _ _;refine lV [.at 0,.gI 0] rfl ⟨rfl,⟨rfl,rfl,rfl,rfl,bx 4⟩,trivial⟩ ?_;exact ab (fh (.inr rfl) (.one (.dw (n:=some 4) (i:=0) rfl rfl zw rfl)))
abbrev vJ (p:List Nat):Value:=.agg #[.int .i64 (aM p 0:Nat),.int .i64 (aM p 1:Nat),.int .i64 (aM p 2:Nat),.int .i64 (aM p 3:Nat),.int .i64 (aM p 4:Nat)]
def IB (m:iX)(p:List Nat):Value×AV:=(vJ p,.agg (xX (uv m (aM p) m.su.length)))
def B9 (m:iX)(x:List (List Nat))(i:Nat):Nat:=if i<m.su.length then da x i else 0
theorem ZP {s:Int}(h:0<=s)(n:Nat):(((((s/2^((n:Nat):Int).toNat).toNat &&& (1:Int).toNat:Nat):Int))==0)= !s.toNat.testBit n:=zx
theorem TV {m:iX}{came:Nat}{p:List Nat}{k:Nat}(h:k∈xu m came p):k<m.cl.length:=ap.1 (List.mem_filter.1 h).1
def mch (m:iX)(came k:Nat)(p:List Nat)(c:Nat):List (List Nat):=if (Oi m p.length c&&Bq m came (aM (p++[c])) p.length)=true then cK (xu m came) k (p++[c])else[]
theorem QJ (m:iX)(came k:Nat)(p:List Nat):cK (xu m came) (k+1) p=(az m.cl.length).flatMap (mch m came k p):=by show (xu m came p).flatMap _=_;unfold xu;rw[oS];rfl
section
variable (m:iX) (came b g l bt bn:Nat) (lo:cP)
def J7:AV:=.fn (.func 334) [] [.pi [.po b 0],.pi [Yv l],.po bt 0,.po bn 0]
abbrev LB (x:List (List Nat)):Heap:=[(b,.cells 248 (m.enc++I came::.mo g::dh (B9 m x))),(g,.map (x.map (IB m)))]
abbrev MH (a:Nat->Nat)(x:List (List Nat)):Heap:=(bt,.cells 245 (dh a))::(bn,.cells 172 [J7 b l bt bn])::(l,lo)::LB m came b g x
def YM (L:List (List Nat)):Prop:= ∀a p c,L=a++p::c->zX ad l [.agg (dh (aM p))] ((l,lo)::LB m came b g a) (λres Ho=>res=B true/\Ho=(l,lo)::LB m came b g (a++[p]))
abbrev mE (p:List Nat)(rest:List (Nat×AV):=[]):List (Nat×AV):=(0,I p.length)::(1,.pi [.po b 0])::(2,.pi [Yv l])::(3,.po bt 0)::(4,.po bn 0)::rest
end
set_option maxHeartbeats 2000000 in
theorem RV {m:iX}(ok:m.OK){came b g l bt bn:Nat}{lo:cP}(D:came<9223372036854775808){L:List (List Nat)}(hy:YM m came b g l lo L): ∀(k:Nat) (p:List Nat) (f u:List (List Nat)),p.length+k=m.su.length->L=f++cK (xu m came) k p++u->
  il ad 334 [I p.length,.pi [.po b 0],.pi [Yv l],.po bt 0,.po bn 0] (MH m came b g l bt bn lo (aM p) f) (λr Ho=>r=B true/\Ho=MH m came b g l bt bn lo (aM p) (f++cK (xu m came) k p)):=by
 have s5:=ok.s5
 have c4:=ok.c4
 have Q:((m.su.map nz.enc).length:Int)=m.su.length:=zj
 have C:((m.cl.map λs=>[bg s]).length:Int)=m.cl.length:=zj
 intro k
 induction k with
 |zero=>
  intro p f u hl v
  rw[Nat.add_zero]at hl
  have G:=hy f p u (by rw[v];simp [cK])
  refine bq adi.ok<|aC rfl<|aJ.scope (aa (aa ?_))
  refine iO [.at 3] rfl ⟨rfl,trivial⟩<|ax rfl zx<|aa (av ?_)
  refine lz [.at 0] 2 rfl rfl ⟨rfl,trivial⟩<|aG (cd (bs (l₁:=[_,_])))<|ai (bP (Hin:=(l,lo)::LB m came b g f) (H0:=[(bt,.cells 245 (dh (aM p))),(bn,.cells 172 [J7 b l bt bn])]) rfl (show Pn ad (.yield l) [] _ _ _ from⟨rfl,G⟩) rfl rfl (aK _) rfl ?_)
  rintro U M ⟨rfl,rfl⟩
  refine aG (cd bs)<|eZ rfl ?_
  exact ab ⟨.inr rfl,_,_,_,rfl,.one (.tmp rfl rfl),⟨rfl,rfl⟩,b0 _⟩
 |succ k R=>
  intro p f u hl v
  have w:p.length<5:=zz
  obtain⟨s,hs⟩:=aL (l:=m.su) (k:=p.length) zz
  have F:=ok.su s (an hs)
  rw[QJ]at v ⊢
  generalize A:mch m came k p=ch at v
  refine bq adi.ok<|aC rfl<|aJ.scope (aa (aa ?_))
  refine iO [.at 3] rfl ⟨rfl,trivial⟩<|aD rfl zx<|aa (aJ.label ?_)
  refine aa (aa ?_)
  refine iO [.at 3] rfl ⟨rfl,trivial⟩ ?_
  let h:Nat->List (List Nat):=λn=>f++(az n).flatMap ch
  refine aJ.gK (Y:=Nat->Nat) (λa=> ∀i,i≠p.length->a i=aM p i) (λ_=>el (mE b l bt bn p)) (λa=>MH m came b g l bt bn lo a (h m.cl.length)) (λ_=>[]) ?_ ?_
  ·refine br (X:=Nat×(Nat->Nat)) (λy=>y.1<=m.cl.length/\ ∀i,i≠p.length->y.2 i=aM p i) (λy=>el (mE b l bt bn p [(23,strs m.cl),(24,I m.cl.length),(25,I y.1)])) (λy=>MH m came b g l bt bn lo y.2 (h y.1)) (λ_=>[]) (λy=>m.cl.length-y.1) (0,aM p) ⟨b9 _,λ_ _=>rfl⟩
    (aj (ar (by show _=MH m came b g l bt bn lo (aM p) (f++[]);rw[bk])) (ao ⟨rfl,rfl,rfl,rfl,rfl,rfl,by show I _=I _;rw[C],rfl,trivial⟩)) ?_
   rintro⟨n,a⟩ ⟨O,ha⟩
   simp only at O ha ⊢
   refine aC rfl<|aa (ag rfl (λhc=>?_) (λhc=>?_))
   ·simp only[nL]at hc
    have q:=TM ok came D (.mo g::dh (B9 m (h n))) (aM (p++[n])) p.length
    have j:=ZP (s:=s.fo) zz n
    have E:Oi m p.length n=s.fo.toNat.testBit n:=by unfold Oi;rw[hs]
    have c:ch n=if (Oi m p.length n&&Bq m came (aM (p++[n])) p.length)=true then cK (xu m came) k (p++[n])else[]:=by rw[<-A];rfl
    have t:h (n+1)=h n++ch n:=by
     show f++_=f++_++_
     rw[me,b6]
    have T:(0:Int)<=s.fo/2^((n:Nat):Int).toNat:=cb zz (cA (cD zz))
    have N:s.fo<=16:=by
     have S:=Nat.pow_le_pow_right (n:=2) zz c4
     have J:((2^m.cl.length:Nat):Int)<=16:=zz
     rw[Int.natCast_pow]at J
     have:=F.2.2.2
     simp only[Int.cast_ofNat_Int]at J
     omega
    have P:s.fo/2^((n:Nat):Int).toNat<=s.fo:=b7 _ zz
    rw[E]at c
    generalize Bq m came (aM (p++[n])) p.length=x at q c
    generalize s.fo.toNat.testBit n=z at j c
    refine af (aa (au ?_))
    refine aC rfl<|lV [.gI 0] rfl ⟨⟨zz,zz⟩,⟨rfl,rfl,rfl,rfl,by show 0+((p.length:Nat):Int).toNat*1+1<=5;omega⟩,trivial⟩<|ae (aj (ar (H':=MH m came b g l bt bn lo (aM (p++[n])) (h n)) ?_) (ao (l:=mE b l bt bn p [(23,strs m.cl),(24,I m.cl.length),(25,I n),(7,I n)]) ⟨rfl,rfl,rfl,rfl,rfl,rfl,rfl,rfl,rfl,trivial⟩)) ?_
    ·show (bt,cP.cells _ (bK (dh a) (0+p.length*1) [I (n:Nat)]))::_=_
     rw[D6 _ _ w,Fs rfl ha]
    refine aa (aJ.En (Y:=Unit) (λ_=>True) (λ_=>el (mE b l bt bn p [(23,strs m.cl),(24,I m.cl.length),(25,I n),(7,I n),(50,B (!(z&&x)))])) (λ_=>MH m came b g l bt bn lo (aM (p++[n])) (h n)) (λ_=>[]) ?_ ?_)
    ·cases z with
     |false=>
      refine js [(44,true)] [.at 3,.cells s.enc] rfl (by(and_intros);(all_goals first|exact zk _|((first|exact j|rfl|(simp [hs];done))))) ?_
      exact⟨(),trivial,eL⟩
     |true=>
      refine js [(44,false)] [.at 3,.cells s.enc,.at 0,.Fq [lp m came (.mo g::dh (B9 m (h n))),.agg (dh (aM (p++[n]))),I p.length] (B x)] rfl (by(repeat' (with_reducible apply a7));(all_goals first|exact zk _|((first|with_reducible exact q|exact j|exact⟨.po (i:=3) rfl,.refl _,.refl _,trivial⟩|(simp [hs];done))))) ?_
      exact⟨(),trivial,ao ⟨rfl,rfl,rfl,rfl,rfl,rfl,rfl,rfl,rfl,by show B _=B _;cases x<;>rfl,trivial⟩⟩
    intro _ _
    cases o:(z&&x)with
    |false=>
     rw[o,if_neg zq]at c
     rw[c,bk]at t
     refine ax rfl rfl (ay ?_)
     refine dS rfl ⟨zz,trivial⟩ ?_
     refine⟨(n+1,aM (p++[n])),⟨by simp only;omega,λi hi=>?_⟩,by simp only;omega,aj (ar (by simp only;rw[t])) eL⟩
     simp only
     rw[jB]
     by_cases e:i<p.length
     ·rw[if_pos e]
     ·rw[if_neg e,if_neg hi,mv p e]
    |true=>
     rw[o,if_pos rfl]at c
     obtain⟨r,K⟩:=kC ch (k:=n+1) (n:=m.cl.length) zz
     rw[me]at K
     have d:=R (p++[n]) (h n) (r++u) (by rw[bA,bm];omega) (by rw[v,K,c];show _=f++_++_++_;simp only[b6])
     rw[show ((p++[n]).length:Int)=p.length+1 from zj,<-c,<-t]at d
     refine aD rfl rfl<|aa (av ?_)
     refine lz [.at 1] 3 rfl rfl ⟨rfl,⟨zz,zz⟩,trivial⟩<|ai (bP (Hin:=MH m came b g l bt bn lo (aM (p++[n])) (h n)) (H0:=[]) rfl (show il ad 334 _ _ _ from d) rfl rfl (aK _) zj ?_)
     rintro res H ⟨rfl,rfl⟩
     refine eZ rfl<|aD rfl rfl<|dS rfl ⟨zz,trivial⟩ ?_
     refine⟨(n+1,aM (p++[n])),⟨by simp only;omega,λi hi=>?_⟩,by simp only;omega,aj (ar (by simp only;rw[bk])) eL⟩
     simp only
     rw[jB]
     by_cases e:i<p.length
     ·rw[if_pos e]
     ·rw[if_neg e,if_neg hi,mv p e]
   ·simp only[nL]at hc
    have e:n=m.cl.length:=zz
    subst e
    exact ay ⟨a,ha,eL⟩
  ·intro a ha
   refine lV [.gI 0] rfl ⟨⟨zz,zz⟩,⟨rfl,rfl,rfl,rfl,by show 0+((p.length:Nat):Int).toNat*1+1<=5;omega⟩,trivial⟩<|ae (ar (H':=MH m came b g l bt bn lo (aM p) (h m.cl.length)) ?_) ?_
   ·show (bt,cP.cells _ (bK (dh a) (0+p.length*1) [I (0:Nat)]))::_=_
    rw[D6 _ _ w,Io rfl ha]
   refine aC rfl ?_
   exact ab ⟨.inr rfl,_,_,_,rfl,.one (.tmp rfl rfl),⟨rfl,rfl⟩,b0 _⟩
end Go.Px
