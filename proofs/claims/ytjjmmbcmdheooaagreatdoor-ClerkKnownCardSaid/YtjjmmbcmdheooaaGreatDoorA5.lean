/- Part 5 of the proof of a statement of this seat (a logic of pure contracts; the functions; their contracts). No conditions. -/
import Derived.Test.YtjjmmbcmdheooaaGreatDoorA4
import Derived.DeepKeys3
open BitVec renaming ofNat->b0
open Bool renaming not_eq_true'->bs,and_eq_true->bA
open Go.Deferred renaming ofValue->cc
open Go.Instr renaming sliceAt->a8,sureAddr->bi,slice->bk,sliceBounds->bt,index->b4,next->b9
open Go.IntKind renaming i64->b6
open Go.Sem renaming run->cb
open Go.Utf8 renaming decode->a7
open Go.Value renaming oneCell'->bm
open Go.Value.slice renaming injEq->bx
open Int renaming le_of_lt->b1
open List renaming eq_nil_of_length_eq_zero->be,length_nil->bI
open Nat renaming eq_of_beq_eq_true->az,beq->a6,lt_of_lt_of_le->bn,le_trans->b3,add_mul->b7,le_refl->b8
open Option.some renaming injEq->an
open Prod.mk renaming injEq->ap
namespace Go.Px
variable {T ty:TypeId}{a:Act}{b d k kk n off t:Nat}{L:Nat->Option Nat}{w:World}{kd:IntKind}{C:Ctx}{x y:Operand}{f:FuncId}{S:aE}{cs:List AV}{p:AV}{es:List (List AV)}
theorem gE.drop : ∀{es:List (List AV)} {b o:Nat} (n:Nat),gE S k es b o->gE S k (es.drop n) b (o+n*k)
 |es,b,o,0,h=>by simpa using h
 |[],b,o,n+1,h=>by simp [gE]
 |e::es,b,o,n+1,h=>by
  simp only[gE]at h
  rw[List.drop_succ_cons,show o+(n+1)*k=o+k+n*k by rw[b7];omega]
  exact gE.drop n h.2.2
theorem gE.take : ∀{es:List (List AV)} {b o:Nat} (n:Nat),gE S k es b o->gE S k (es.take n) b o
 |es,b,o,0,h=>by simp [gE]
 |[],b,o,n+1,h=>by simp [gE]
 |e::es,b,o,n+1,h=>by
  simp only[gE]at h
  simp
  exact⟨h.1,h.2.1,gE.take n h.2.2⟩
theorem eO.Sn : ∀{cs:List AV} {b o:Nat} (n:Nat),eO S cs b o->eO S (cs.take n) b o
 |cs,b,o,0,h=>by simp [eO]
 |[],b,o,n+1,h=>by simp [eO]
 |e::es,b,o,n+1,h=>by
  simp only[eO]at h
  simp
  exact⟨h.1,eO.Sn n h.2⟩
theorem vh : ∀{n:Nat} {cs:List AV} {o:Nat},n*k<=cs.length->eO S cs b o->gE S k (chunk k n cs) b o
 |0,cs,o,_,h=>by simp [chunk,gE]
 |n+1,cs,o,hl,h=>by
  rw[b7]at hl
  simp only[chunk,gE]
  exact⟨by rw[List.length_take];omega,h.Sn k,vh (by rw[List.length_drop];omega) (h.drop k)⟩
def jH {α:Type}(es:List α)(lo hi:Option Nat):List α:=match lo,hi with
 |none,none=>es
 |some l,none=>es.drop l
 |none,some h=>es.take h
 |some l,some h=>(es.take h).drop l
def Cr (env:Env):Option Operand->Option Nat->Prop
 |none,m=>m=none
 |some x,m=> ∃kd n k,bu env x= .v (.int kd n)/\n=((k:Nat):Int)/\m=some k
section
variable {P:Program}{r:Option Nat}{N:Nat}{env:Env}{H:Heap}{D:List Nat}{dst:Option Nat}{K:Env->Heap->List Nat->Prop}
theorem iq (P:Program)(w:World)(a:Bool)(len cap l h:Nat)(lo hi:Option Value)(b:(lo=none/\l=0)\/ ∃kd,lo=some (.int kd l))(c:(hi=none/\h=len)\/ ∃kd,hi=some (.int kd h))
  (d:l<=h) (h4:h<=cap):(bt a len cap lo hi none).run P w= .ok (l,h,cap) w:=by
 rcases b with⟨rfl,rfl⟩|⟨kd,rfl⟩<;>rcases c with⟨rfl,rfl⟩|⟨e,rfl⟩<;>cases a<;>
  simp [bt,Instr.sliceBound,asIntOf,d,h4]
theorem Cr.val (hs:Sat C env H D a w S L){x:Option Operand}{m:Option Nat}(h:Cr env x m)(d:Nat):
  (x.map a.eval=none/\m.getD d=d)\/ ∃kd,x.map a.eval=some (.int kd (m.getD d:Nat)):=by
 cases x with
 |none=>simp only[Cr]at h;subst h;exact .inl ⟨rfl,rfl⟩
 |some x=>
  obtain⟨kd,n,k,e,rfl,rfl⟩:=h
  refine .inr ⟨kd,?_⟩
  simp [hs.int e]
theorem HA {o:Nat}(h:gE S k es b o)(lo hi:Option Nat)(a:lo.getD 0<=hi.getD es.length)(c:hi.getD es.length<=es.length):
  gE S k (jH es lo hi) b (o+lo.getD 0*k)/\(jH es lo hi).length=hi.getD es.length-lo.getD 0:=by
 cases lo<;>cases hi<;>simp only[jH,Option.getD]at*
 ·grind
 ·exact⟨by simpa using h.take _,by simp;omega⟩
 ·exact⟨h.drop _,zj⟩
 ·exact⟨(h.take _).drop _,by simp;omega⟩
theorem aF.mj {lo hi:Option Operand}(l h:Option Nat)(hx:bu env x= .sl kk es)(y:Cr env lo l)(u:Cr env hi h)
  (m:l.getD 0<=h.getD es.length) (q:h.getD es.length<=es.length) (k:K (ct env dst (.sl kk (jH es l h))) H D):aF P r N (.mj T x lo hi none kk) dst env H D K:=
 aF.pure rfl zj (λo hl C a w S L hs=>by
  have A:=hs.cY x hx rfl
  simp only[aR]at A
  have i:=y.val hs 0
  have f:=u.val hs es.length
  cases hl with
  |mj d t v=>
   rename_i E j
   rcases A with⟨⟨p,n⟩,rfl⟩|⟨b,off,cap,n,hc,hm,F⟩
   ·have e:=iq P w true 0 0 (l.getD 0) (h.getD 0) (lo.map a.eval) (hi.map a.eval) i f m (by simpa using q)
    have z:h.getD ([]:List (List AV)).length=0:=by simp only[bI]at q ⊢;omega
    simp only[bI]at z m
    have B:l.getD 0=0:=zz
    refine⟨.slice p 0 0,?_,by simp only[aR];exact .inl ⟨⟨_,rfl⟩,by cases l<;>cases h<;>simp [jH]⟩⟩
    simp [execOp,d,a8,bk,underlying,t,n,e,z,B,sizeOf,typeInfo,v]
   ·obtain⟨s,g⟩:=HA F l h m q
    have e:=iq P w true es.length cap (l.getD 0) (h.getD es.length) (lo.map a.eval) (hi.map a.eval) i f m zz
    by_cases c:cap=l.getD 0
    ·have G:jH es l h=[]:=be zz
     refine⟨.slice (some ⟨b,off,none⟩) (h.getD es.length-l.getD 0) (cap-l.getD 0),?_,by
      simp only[aR,G];exact .inr ⟨b,off,cap-l.getD 0,by rw[show h.getD es.length-l.getD 0=0 from zz];rfl,zj,zz,by simp [gE]⟩⟩
     rw[c]at e ⊢
     simp [execOp,d,a8,bk,underlying,t,n,e,c,sizeOf,typeInfo,v]
    ·refine⟨.slice (some ⟨b,off+l.getD 0*j.size,none⟩) (h.getD es.length-l.getD 0) (cap-l.getD 0),?_,by
      simp only[aR];exact .inr ⟨b,_,cap-l.getD 0,by rw[g],zz,zz,s⟩⟩
     simp [execOp,d,a8,bk,underlying,t,n,e,c,sizeOf,typeInfo,v,addr_add]) k
theorem aF.nY {lo hi:Option Operand}{s:ByteArray}(l h:Option Nat)(hx:bu env x= .v (.string s))(d:Cr env lo l)(b:Cr env hi h)
  (g:l.getD 0<=h.getD s.size) (i:h.getD s.size<=s.size) (k:K (ct env dst (.v (.string (s.extract (l.getD 0) (h.getD s.size))))) H D):aF P r N (.nY T x lo hi none) dst env H D K:=
 aF.pure rfl zj (λo hl C a w S L hs=>by
  have e:=d.val hs 0
  have c:=b.val hs s.size
  cases hl with
  |nY f j=>
   have m:=iq P w false s.size s.size (l.getD 0) (h.getD s.size) (lo.map a.eval) (hi.map a.eval) e c g i
   exact⟨.string (s.extract (l.getD 0) (h.getD s.size)),by simp [execOp,f,a8,bk,underlying,j,hs.int hx,m],by simp [aR]⟩) k
theorem aF.lJ {lo hi:Option Operand}(l h:Option Nat)(hx:bu env x= .pi cs)(p:Cr env lo l)(i:Cr env hi h)
  (G:n*kk<=cs.length) (F:n<=maxLen) (s:l.getD 0<=h.getD n) (t:h.getD n<=n) (k:K (ct env dst (.sl kk (jH (chunk kk n cs) l h))) H D):aF P r N (.lJ T x lo hi none n kk) dst env H D K:=
 aF.pure rfl zj (λo hl C a w S L hs=>by
  have y:=hs.cY x hx rfl
  simp only[aR]at y
  obtain⟨b,off,z,A⟩:=y
  have q:=p.val hs 0
  have m:=i.val hs n
  have B:=vh G A
  obtain⟨f,c⟩:=HA B l h (by rw[fB];exact s) (by rw[fB];exact t)
  rw[fB]at c
  cases hl with
  |lJ e u v=>
   rename_i E j
   have g:=iq P w false n n (l.getD 0) (h.getD n) (lo.map a.eval) (hi.map a.eval) q m s t
   by_cases d:n=l.getD 0
   ·have I:jH (chunk j.size n cs) l h=[]:=be zz
    refine⟨.slice (some ⟨b,off,none⟩) (h.getD n-l.getD 0) (n-l.getD 0),?_,by
     simp only[aR,I];exact .inr ⟨b,off,n-l.getD 0,by rw[show h.getD n-l.getD 0=0 from zz];rfl,zj,zz,by simp [gE]⟩⟩
    rw[<-d]at g ⊢
    simp [execOp,e,a8,bi,underlying,u,z,g,sizeOf,typeInfo,v]
   ·refine⟨.slice (some ⟨b,off+l.getD 0*j.size,none⟩) (h.getD n-l.getD 0) (n-l.getD 0),?_,by
     simp only[aR];exact .inr ⟨b,_,n-l.getD 0,by rw[c],zz,zz,f⟩⟩
    simp [execOp,e,a8,bi,underlying,u,z,g,d,sizeOf,typeInfo,v,addr_add]) k
theorem aF.Up (hx:bu env x= .po b off)(k:K (ct env dst (.v (.slice (some ⟨b,off,none⟩) n n))) H D):aF P r N (.lJ T x none none none n kk) dst env H D K:=
 aF.pure rfl zj (λo hl C a w S L hs=>by
  have d:=hs.cY x hx rfl
  simp only[aR]at d
  cases hl with
  |lJ c e g=>
   rename_i E j
   have f:=iq P w false n n 0 n none none (.inl ⟨rfl,rfl⟩) (.inl ⟨rfl,rfl⟩) (Nat.zero_le _) (b8 _)
   refine⟨.slice (some ⟨b,off,none⟩) n n,?_,by simp [aR]⟩
   simp [execOp,c,a8,bi,underlying,e,d,f,sizeOf,typeInfo,g,addr_add]) k
theorem aF.concat {s t:ByteArray}(hx:bu env x= .v (.string s))(hy:bu env y= .v (.string t))(h:s.size+t.size<=9223372036854775807)
  (k:K (ct env dst (.v (.string (s++t)))) H D):aF P r N (.bin .add T x y) dst env H D K:=
 aF.pure rfl zj (λo b C a w S L hs=>⟨.string (s++t),by
  have c: ¬(((s.size+t.size:Nat):Int)>b6.max):=by
   have:b6.max=9223372036854775807:=rfl
   rw[this];omega
  rw[yL b (hs.int hx) (hs.int hy)]
  simp only[Op.stringOp,if_neg c]
  rfl,by simp [aR]⟩) k
theorem aF.min2 {g:List TypeId}{a b:Int}(hx:bu env x= .v (.int kd a))(hy:bu env y= .v (.int kd b))(k:K (ct env dst (.v (.int kd (min a b)))) H D):
  aF P r N (.min g ty [x,y]) dst env H D K:=
 aF.pure rfl zj (λo c C h w S L hs=>⟨.int kd (min a b),by
  generalize f:[x,y]=xs at c
  cases c with
  |min d=>
   rw[G1 f.symm]at d
   have e:min a b=if b<a then b else a:=by
    rw[Int.min_def];split<;>split<;>omega
   simp [execOp,d,resolve,invoke,builtin,Builtin.min_,Builtin.min2,hs.int hx,hs.int hy,e],by simp [aR]⟩) k
theorem aF.max2 {g:List TypeId}{a b:Int}(hx:bu env x= .v (.int kd a))(hy:bu env y= .v (.int kd b))(k:K (ct env dst (.v (.int kd (max a b)))) H D):
  aF P r N (.max g ty [x,y]) dst env H D K:=
 aF.pure rfl zj (λo c C h w S L hs=>⟨.int kd (max a b),by
  generalize f:[x,y]=xs at c
  cases c with
  |max d=>
   rw[G1 f.symm]at d
   have e:max a b=if b>a then b else a:=by
    rw[Int.max_def];split<;>split<;>omega
   simp [execOp,d,resolve,invoke,builtin,Builtin.max_,Builtin.max2,hs.int hx,hs.int hy,e],by simp [aR]⟩) k
theorem aF.Yo {i:Operand}{len:Nat}{e:List AV}{n:Int}(m:Nat)(hx:bu env x= .pi cs)(hi:bu env i= .v (.int kd n))(l:n=m)(hm:m<len)(he:e<+:cs.drop (m*kk))
  (k:K (ct env dst (.pi e)) H D):aF P r N (.kq T x i len kk) dst env H D K:=
 aF.pure rfl zj (λo c C q w S L hs=>by
  have f:=hs.cY x hx rfl
  simp only[aR]at f
  obtain⟨b,off,p,g⟩:=f
  have a:=(g.drop (m*kk)).Sn e.length
  rw[<-List.prefix_iff_eq_take.1 he]at a
  refine⟨.pointer (some ⟨b,off+m*kk,none⟩),?_,by simp only[aR];exact⟨b,_,rfl,a⟩⟩
  cases c with
  |kq d h s j=>
   subst l
   simp [execOp,d,Instr.indexAt,hs.int hi,asIntOf,underlying,h,p,bi,hm,sizeOf,typeInfo,j,addr_add]) k
theorem aF.iS {i:Operand}{len:Nat}{g:Option Nat}{l:List AV}{F:Int}(n:Nat)(hx:bu env x= .agg l)(hi:bu env i= .v (.int kd F))(G:F=n)(e:n<len)(b:jO g (n*kk) l=some p)(t:p.bC=false)
  (k:K (ct env dst p) H D):aF P r N (.iS T x i len kk g) dst env H D K:=by
 subst G
 refine aF.pure t zj (λo s C a w S L hs=>?_) k
 have A:=hs.cY x hx rfl
 simp only[aR]at A
 obtain⟨cs,B,hc⟩:=A
 have d:=hs.int hi
 cases s with
 |iS f u z hg=>
  rename_i E j
  cases g with
  |none=>
   simp only[jO]at b
   obtain⟨c,h,q⟩:=hc.get b
   refine⟨c,?_,q⟩
   have:=wm (P:=P) (w:=w) hg (cs:=cs.toArray) (y:=c) (by simpa using h)
   simp [execOp,f,b4,d,asIntOf,underlying,u,B,e,sizeOf,typeInfo,z,this]
  |some m=>
   simp only[jO]at b
   split at b
   ·cases b
    refine⟨.agg ((cs.drop (n*j.size)).take m).toArray,?_,by simp only[aR];exact⟨_,rfl,(hc.drop _).take m⟩⟩
    have:=wm (P:=P) (w:=w) hg (cs:=cs.toArray) (off:=n*j.size) (y:=.agg ((cs.drop (n*j.size)).take m).toArray) (by simp [List.extract_toArray,List.extract_eq_take_drop])
    simp [execOp,f,b4,d,asIntOf,underlying,u,B,e,sizeOf,typeInfo,z,this]
   ·cases b
def qS (P:Program)(f:FuncId):Prop:= ∀(a:Option Addr) (n cap:Nat),n<=cap->(a=none->cap=0)->Ev P f [.v (.slice a n cap)] (.v (.slice a n n))
theorem aF.R5 {T:Nat}(hc:qS P f)(Z:env t= .aI T kk es)(k:K (dK (dK env t .any) d (.aI T kk es)) H D):aF P r N (.call f [.tmp t] ty) (some d) env H D K:=by
 intro o q hd x C a w S L hN hs next Q j
 have R:=hs.env t;rw[Z]at R;simp only[bF]at R
 obtain⟨m,cap,hy,M,O⟩: ∃m cap,a.tmps.getD t undef= .slice m es.length cap/\es.length<=cap/\(m=none->cap=0):=by
  rcases R with⟨hy,he,_⟩|⟨g,cap,_,hy,A⟩
  ·grind
  ·obtain⟨cur,_,_,I,_⟩:=A.arr;exact⟨_,cap,hy,I,λe=>by cases e⟩
 have s:=hc m es.length cap M O;generalize V:[Operand.tmp t]=a0 at x;cases x with
 |call B hf hn hb=>
  rename_i xs ts fn;have U:xs.map a.eval= #[a.tmps.getD t undef]:=by apply Array.toList_inj.1;rw[Array.toList_map,<-V];rfl
  refine Oper.kr (.call B hf hn hb) zj (f:=f) (args:=xs.map a.eval) (w':=w) ?_ ?_
  ·simp [execOp,B,resolve,cc,Act.eval,invoke,dI s.1]
  ·rw[U];refine(s.2 S w [a.tmps.getD t undef] hs.gl hs.sin (by simp only[aS,aR];exact⟨_,_,rfl,hy,rfl⟩)).mono ?_;rintro e w' ⟨v,S',g,rfl,i,J,z,n,F⟩;simp only[bF,aR]at F;obtain⟨-,rfl⟩:=F;obtain⟨W,h⟩:=hs.called (dst:=none) (p:=.any) (v:=undef) (g:=none) (λd e=>by cases e) i J z n (bF.dC rfl (by simp [aR]));have h:Sat C env H D a w' S' W:=h;have l:=h.env t;rw[Z]at l;have h1:=h.oW (t:=t) (p:=.any) rfl (by simp [aR])
   have I:=h1.lP (d:=d) (p:=.aI T kk es) (y:=.slice m es.length es.length) (g:=W t) (bn (hN▸hd d rfl) hs.size) (by
    simp only[bF]at l ⊢
    rcases l with⟨c,he,hl⟩|⟨g,Y,hl,c,A⟩
    ·rw[hy]at c
     simp only[bx]at c
     obtain⟨rfl,h0,-⟩:=c
     exact .inl ⟨by rw[h0],he,hl⟩
    ·rw[hy]at c
     simp only[bx]at c
     obtain⟨rfl,-,rfl⟩:=c
     obtain⟨cur,E,c1,X,c3,c4,c5,c6⟩:=A.arr
     exact .inr ⟨g,es.length,hl,rfl,⟨A.base,A.apart,_,E,cur,rfl,b3 (Nat.mul_le_mul_right _ X) c1,b8 _,b3 X c3,c4,c5,c6⟩⟩) (by
    intro b e
    refine⟨h.aI t b e,λu _ G=>?_⟩
    simp only[gV]at G
    split at G
    ·cases G
    ·rename_i hu;exact hu (h.gk u t b G e))
   exact⟨_,rfl,by rw[q];exact j _ _ _ _ _ _ _ k I i⟩
end
variable {ys:List (List AV)}{ps qs:List AV}
inductive Hint where
 |cells (e:List AV)
 |byte (c:UInt8)
 |ret (res:AV)
 |wC (qs:List AV) (res:AV)
 |at (i:Nat)
 |elt (i m f:Nat) (e:List AV)
 |bW
 |aI
 |val (p:AV)
 |op (p:AV)
 |Fq (qs:List AV) (res:AV)
 |own (u:Nat)
 |abU (fs:List Nat)
 |gI (i:Nat)
 |stE (i m f:Nat) (e:List AV)
 |pre (e:List AV)
 |O1 (i:Nat) (p:AV)
 |idx (p:AV)
 |clip
abbrev XR:=Option (List (Nat×AV)×List Hint×Option Prop)
abbrev Lm:Option Prop->Prop
 |none=>True
 |some p=>p
def kJ (dst:Option Nat)(p:AV)(hs:List Hint)(ob:Option Prop):XR:=match dst with
 |some d=>some ([(d,p)],hs,ob)
 |none=>some ([],hs,ob)
def zG (dst:Option Nat)(p:AV)(hs:List Hint)(ob:Option Prop):XR:=match dst with
 |some d=>some ([(d,p)],hs,ob)
 |none=>none
def F7 (dst:Option Nat)(p:AV)(hs:List Hint)(ob:Option Prop):XR:=bif p.bC then none else kJ dst p hs ob
def arith (op:BinOp)(a b:Int):Option (Int×Prop):=match op with
 | .add=>some (a+b,-9223372036854775808<=a+b/\a+b<=9223372036854775807)
 | .sub=>some (a-b,-9223372036854775808<=a-b/\a-b<=9223372036854775807)
 | .mul=>some (a*b,-9223372036854775808<=a*b/\a*b<=9223372036854775807)
 | .quo=>some (a/b,0<=a/\a<=9223372036854775807/\0<b)
 | .rem=>some (a%b,0<=a/\0<b)
 | .and=>some (((a.toNat &&& b.toNat:Nat):Int),(0<=a/\a<9223372036854775808)/\(0<=b/\b<9223372036854775808))
 | .or=>some (((a.toNat ||| b.toNat:Nat):Int),(0<=a/\a<9223372036854775808)/\(0<=b/\b<9223372036854775808))
 | .andNot=>some ((((b0 64 a.toNat &&& ~~~ b0 64 b.toNat).toNat:Nat):Int),(0<=a/\a<9223372036854775808)/\0<=b)
 | .shl=>some (a*2^b.toNat,0<=a/\0<=b/\b<64/\a*2^b.toNat<9223372036854775808)
 | .shr=>some (a/2^b.toNat,0<=a/\0<=b/\b<64)
 |_=>none
def mW (op:jM)(dst:Option Nat)(env:Env)(hs:List Hint):XR:=match jJ op env with
 |some p=>F7 dst p hs none
 |none=>none
def Z4 (op:BinOp)(T:TypeId)(x y:Operand)(dst:Option Nat)(env:Env)(hs:List Hint):XR:=match bu env x,bu env y with
 | .v (.int .i64 a),.v (.int .i64 b)=>match arith op a b with
  |some (n,ob)=>kJ dst (.v (.int .i64 n)) hs (some ob)
  |none=>mW (.bin op T x y) dst env hs
 | .v (.string s),.v (.string t)=>match op with
  | .add=>kJ dst (.v (.string (s++t))) hs (some (s.size+t.size<=9223372036854775807))
  |_=>mW (.bin op T x y) dst env hs
 |_,_=>mW (.bin op T x y) dst env hs
def W2 (gs:Nat->Option Bool)(c x y:Operand)(dst:Option Nat)(env:Env)(hs:List Hint):XR:=match c with
 | .tmp t=>match gs t,env t with
  |some b,.v (.bool e)=>F7 dst (bu env (match b with|true=>x|false=>y)) hs (some (e=b))
  |_,_=>none
 |_=>none
def RS (kd:IntKind)(x:Operand)(dst:Option Nat)(env:Env)(hs:List Hint):XR:=match bu env x with
 | .v (.int _ n)=>kJ dst (.v (.int kd n)) hs (some (kd.wrap n=n))
 |_=>none
def QO (x i:Operand)(kk:Nat)(dst:Option Nat)(env:Env)(hs:List Hint):XR:=match bu env x,bu env i with
 | .sl k es,.v (.int _ n)=>match hs with
  | .cells e::hs=>bif a6 k kk then kJ dst (.pi e) hs (some (0<=n/\es[n.toNat]? =some e))else none
  |_=>none
 | .so b len _,.v (.int _ n)=>kJ dst (.po b (n.toNat*kk)) hs (some (0<=n/\n.toNat<len))
 |_,_=>none
def MR (x i:Operand)(len kk:Nat)(dst:Option Nat)(env:Env)(hs:List Hint):XR:=match bu env x,bu env i with
 | .pi cs,.v (.int _ n)=>match hs with
  | .pre e::hs'=>kJ dst (.pi e) hs' (some ((0<=n/\n.toNat<len)/\e<+:cs.drop (n.toNat*kk)))
  |_=>kJ dst (.pi (cs.drop (n.toNat*kk))) hs (some (0<=n/\n.toNat<len))
 | .po b off,.v (.int _ n)=>kJ dst (.po b (off+n.toNat*kk)) hs (some (0<=n/\n.toNat<len))
 |_,_=>none
def MT (T:TypeId)(x i:Operand)(len kk:Nat)(g:Option Nat)(dst:Option Nat)(env:Env)(hs:List Hint):XR:=match hs with
 | .idx p::hs'=>(match bu env x,bu env i with
  | .agg l,.v (.int _ n)=>F7 dst p hs' (some ((0<=n/\n.toNat<len)/\jO g (n.toNat*kk) l=some p))
  |_,_=>none)
 |_=>mW (.iS T x i len kk g) dst env hs
def LG (x i:Operand)(dst:Option Nat)(env:Env)(hs:List Hint):XR:=match bu env x,bu env i with
 | .v (.string s),.v (.int _ n)=>match hs with
  | .byte c::hs=>kJ dst (.v (.int .u8 c.toNat)) hs (some (0<=n/\s.data.toList[n.toNat]? =some c))
  |_=>none
 |_,_=>none
def lY (t:Nat):Operand->Bool
 | .tmp u=> !(a6 u t)
 |_=>true
def WM (c:TypeId)(x:Operand)(n:Option Nat)(dst:Option Nat)(H:Heap)(env:Env)(hs:List Hint):XR:=match bu env x with
 | .pi cs=>match eX n cs with
  |some p=>F7 dst p hs none
  |none=>none
 | .po b off=>match hs with
  | .at i::hs=>match H[i]? with
   |some (a,.cells _ cs)=>match eX n (cs.drop off)with
    |some p=>kJ dst p hs (some (a=b))
    |none=>none
   |_=>none
  | .elt i m f e::hs=>match H[i]? with
   |some (a,.arr _ kk _ es)=>match eX n (e.drop f)with
    |some p=>kJ dst p hs (some (a=b/\off=m*kk+f/\es[m]? =some e))
    |none=>none
   |_=>none
  | .O1 i p::hs=>match H[i]? with
   |some (a,.cells _ cs)=>kJ dst p hs (some (a=b/\eX n (cs.drop off)=some p))
   |_=>none
  |_=>none
 | .dO _ cs=>match eX n cs,dst with
  |some p,some d=>bif lY d x then some ([(d,p)],hs,none)else none
  |_,_=>none
 |_=>none
def RI (x y:Operand)(n:Nat)(dst:Option Nat)(env:Env)(hs:List Hint):XR:=match x,dst with
 | .tmp t,none=>match env t with
  | .dO T cs=>bif lY t y then some ([(t,.dO T (bK cs 0 (bQ (bu env y))))],hs,some <|
   (bu env y).cj=true/\(bQ (bu env y)).length=n/\(bQ (bu env y)).all AV.dW=true/\n<=cs.length)else none
  |_=>none
 |_,_=>none
def Zl (T:TypeId)(x:Operand)(dst:Option Nat)(env:Env)(hs:List Hint):XR:=match hs with
 | .bW::hs=>zG dst (.pi (bQ (bu env x))) hs (some ((bu env x).cj=true/\(bQ (bu env x)).all AV.dW=true))
 | .aI::hs=>zG dst (.dO T (bQ (bu env x))) hs (some ((bu env x).cj=true/\(bQ (bu env x)).all AV.dW=true))
 |_=>none
def QH (T:TypeId)(z:List Value)(dst:Option Nat)(hs:List Hint):XR:=match hs with
 | .bW::hs=>zG dst (.pi (z.map .v)) hs (some (z.all bm=true))
 | .aI::hs=>zG dst (.dO T (z.map .v)) hs (some (z.all bm=true))
 |_=>none
def LA (n:Nat)(ps:List (Nat×Operand))(E:TypeId)(kk:Nat)(z:List Value)(dst:Option Nat)(env:Env)(hs:List Hint):XR:=
 match gH (rep n (z.map .v)) (ps.map λp=>(p.1*kk,kk,bu env p.2))with
 |some q=>match hs with
  | .bW::hs=>zG dst (.sl kk (chunk kk n q)) hs (some (q.all AV.dW=true))
  | .aI::hs=>zG dst (.aI E kk (chunk kk n q)) hs (some (q.all AV.dW=true))
  |_=>none
 |none=>none
def TQ (kk:Nat):AV->Option (List (List AV))
 | .sl k ys=>bif a6 k kk then some ys else none
 | .nil=>some []
 |_=>none
def Ib (x y:Operand)(E kk bytes:Nat)(dst:Option Nat)(env:Env)(hs:List Hint):XR:=match x,dst with
 | .tmp t,some d=>bif lY t y then(match TQ kk (bu env y),env t with
  |some ys,.aI a b es=>bif a6 a E&&a6 b kk then
   some ([(t,.any),(d,.aI E kk (es++ys))],hs,some ((es.length+ys.length)*bytes<=140737488355328/\es.length+ys.length<=9223372036854775807))else none
  |some ys,.nil=>some ([(t,.any),(d,.aI E kk ys)],hs,some (ys.length*bytes<=140737488355328/\ys.length<=9223372036854775807))
  |_,_=>none)else none
 |_,_=>none
def wU (x y:Operand)(E kk bytes:Nat)(dst:Option Nat)(env:Env)(hs:List Hint):XR:=match hs with
 | .own u::hs'=>match x,dst with
  | .tmp t,some d=>match env t,env u with
   | .v (.slice e n cap),.jr c f es b a=>bif a6 c E&&(a6 f kk&&(lY u y&&(lY t y&& !(a6 t u))))then(match TQ kk (bu env y)with
    |some ys=>some ([(u,.any),(t,.any),(d,.aI E kk (es++ys))],hs',some ((b=e/\a=cap/\n=es.length)/\(es.length+ys.length)*bytes<=140737488355328/\es.length+ys.length<=9223372036854775807))
    |none=>none)else none
   |_,_=>none
  |_,_=>none
 |_=>Ib x y E kk bytes dst env hs
def M3 (l c:Operand)(E kk bytes:Nat)(z:List Value)(dst:Option Nat)(env:Env)(hs:List Hint):XR:=match bu env l,bu env c with
 | .v (.int _ a),.v (.int _ b)=>zG dst (.aI E kk (List.replicate a.toNat (z.map AV.v))) hs (some (0<=a/\b=a/\bytes*a.toNat<=281474976710656/\a.toNat<=9223372036854775807/\z.all bm=true))
 |_,_=>none
def aam (x:Operand)(dst:Option Nat)(env:Env)(hs:List Hint):XR:=match x,dst with
 | .tmp t,some d=>match env t with
  | .aI T k es=>bif a6 t d then none else some ([(t,.any),(d,.aI T k es)],hs,none)
  | .jr _ _ es a cap=>some ([(d,.v (.slice a es.length cap))],hs,none)
  |_=>mW (.rF x) dst env hs
 |_,_=>mW (.rF x) dst env hs
def mI (ps:List AV):Bool:=ps.all λp=> !p.bC
def Xb (P:Program)(H:Heap)(f:FuncId)(xs:List Operand)(dst:Option Nat)(env:Env)(hs:List Hint):XR:=match hs with
 | .ret res::hs=>bif mI (xs.map (bu env))then kJ dst res hs (some (Ev P f (xs.map (bu env)) res))else none
 | .wC qs res::hs=>bif mI (xs.map (bu env))then kJ dst res hs (some (Ev P f qs res/\oL (xs.map (bu env)) qs))else none
 | .Fq qs res::hs=>bif mI (xs.map (bu env))then kJ dst res hs (some (Ev P f qs res/\res.sW=true/\fN (lB env H) (xs.map (bu env)) qs))else none
 | .clip::hs=>(match xs,dst with
  |[.tmp t],some d=>(match env t with
   | .aI T k es=>some ([(t,.any),(d,.aI T k es)],hs,some (qS P f))
   |_=>none)
  |_,_=>none)
 |_=>none
def Tb (P:Program)(H:Heap)(x:Operand)(xs:List Operand)(dst:Option Nat)(env:Env)(hs:List Hint):XR:=match bu env x with
 | .fn (.func f) first a=>bif mI (xs.map (bu env))then(match hs with
  | .ret res::hs=>kJ dst res hs (some (Ev P f (first++xs.map (bu env)++a) res))
  | .wC qs res::hs=>kJ dst res hs (some (Ev P f qs res/\oL (first++xs.map (bu env)++a) qs))
  | .Fq qs res::hs=>kJ dst res hs (some (Ev P f qs res/\res.sW=true/\fN (lB env H) (first++xs.map (bu env)++a) qs))
  |_=>none)else none
 |_=>none
def Wg (c:Bool)(xs:List Operand)(dst:Option Nat)(env:Env)(hs:List Hint):XR:=match xs with
 |[x,y]=>match bu env x,bu env y with
  | .v (.int .i64 a),.v (.int .i64 b)=>kJ dst (.v (.int .i64 (match c with|true=>min a b|false=>max a b))) hs none
  |_,_=>none
 |_=>none
def Ep (env:Env):Option Operand->Option (Option Nat×Prop)
 |none=>some (none,True)
 |some x=>match bu env x with
  | .v (.int _ n)=>some (some n.toNat,0<=n)
  |_=>none
def K6 (x:Operand)(lo hi:Option Operand)(dst:Option Nat)(env:Env)(hs:List Hint):XR:=match bu env x,Ep env lo,Ep env hi with
 | .v (.string s),some (l,a),some (h,b)=>kJ dst (.v (.string (s.extract (l.getD 0) (h.getD s.size)))) hs (some ((a/\b)/\l.getD 0<=h.getD s.size/\h.getD s.size<=s.size))
 |_,_,_=>none
def MV (x:Operand)(lo hi:Option Operand)(kk:Nat)(dst:Option Nat)(env:Env)(hs:List Hint):XR:=match bu env x,Ep env lo,Ep env hi with
 | .sl k es,some (l,a),some (h,b)=>bif a6 k kk then kJ dst (.sl kk (jH es l h)) hs (some ((a/\b)/\l.getD 0<=h.getD es.length/\h.getD es.length<=es.length))else none
 |_,_,_=>none
def MF (x:Operand)(lo hi:Option Operand)(n kk:Nat)(dst:Option Nat)(env:Env)(hs:List Hint):XR:=match bu env x,Ep env lo,Ep env hi with
 | .pi cs,some (l,a),some (h,c)=>kJ dst (.sl kk (jH (chunk kk n cs) l h)) hs (some ((a/\c)/\(n*kk<=cs.length/\n<=maxLen)/\l.getD 0<=h.getD n/\h.getD n<=n))
 | .po b off,some (none,_),some (none,_)=>match lo,hi with
  |none,none=>kJ dst (.v (.slice (some ⟨b,off,none⟩) n n)) hs none
  |_,_=>none
 |_,_,_=>none
def ZG (neg:Bool)(T:TypeId)(x y:Operand)(P:Program)(dst:Option Nat)(env:Env)(hs:List Hint):XR:=match bu env x,bu env y with
 | .v (.bool a),.v (.bool b)=>kJ dst (.v (.bool (match neg with|true=>a !=b|false=>a==b))) hs (some (P.underlying T=some .bool))
 |_,_=>mW (.nI neg T x y) dst env hs
def vQ (P:Program)(gs:Nat->Option Bool)(H:Heap)(hs:List Hint)(dst:Option Nat)(op:jM)(env:Env):XR:=match op with
 | .pick c x y=>W2 gs c x y dst env hs
 | .bin op T x y=>Z4 op T x y dst env hs
 | .nI neg T x y=>ZG neg T x y P dst env hs
 | .toInt kd _ _ x=>RS kd x dst env hs
 | .ni _ x i kk=>QO x i kk dst env hs
 | .kq _ x i len kk=>MR x i len kk dst env hs
 | .og _ x i=>LG x i dst env hs
 | .iS T x i len kk g=>MT T x i len kk g dst env hs
 | .load T x n=>WM T x n dst H env hs
 | .store _ x y n=>RI x y n dst env hs
 | .box T x=>Zl T x dst env hs
 | .alloc T z=>QH T z dst hs
 | .iB _ n ps E kk z=>LA n ps E kk z dst env hs
 | .append _ _ x y E kk bytes _=>wU x y E kk bytes dst env hs
 | .gR _ l c E kk bytes z=>M3 l c E kk bytes z dst env hs
 | .rF x=>aam x dst env hs
 | .call f xs _=>Xb P H f xs dst env hs
 | .fP x xs _=>Tb P H x xs dst env hs
 | .min _ _ xs=>Wg true xs dst env hs
 | .max _ _ xs=>Wg false xs dst env hs
 | .nY _ x lo hi none=>K6 x lo hi dst env hs
 | .mj _ x lo hi none kk=>MV x lo hi kk dst env hs
 | .lJ _ x lo hi none n kk=>MF x lo hi n kk dst env hs
 |op=>mW op dst env hs
section
variable {P:Program}{r:Option Nat}{N:Nat}{env:Env}{H:Heap}{D:List Nat}{dst:Option Nat}{W:List (Nat×AV)}{hs hs':List Hint}{ob:Option Prop}
abbrev KW (env:Env)(H:Heap)(D:List Nat)(W:List (Nat×AV)):Env->Heap->List Nat->Prop:=λe h d=>e=dG env W/\h=H/\d=D
theorem dD {l:jM}{b:List Hint}{a:Option Prop}(h:kJ dst p b a=some (W,hs',ob))(k:Lm a-> ∀K:Env->Heap->List Nat->Prop,K (ct env dst p) H D->aF P r N l dst env H D K)(o:Lm ob):
  aF P r N l dst env H D (KW env H D W):=by
 cases dst with
 |none=>simp only[kJ,an,ap]at h;obtain⟨rfl,rfl,rfl⟩:=h;exact k o _ ⟨rfl,rfl,rfl⟩
 |some d=>simp only[kJ,an,ap]at h;obtain⟨rfl,rfl,rfl⟩:=h;exact k o _ ⟨rfl,rfl,rfl⟩
theorem cO {a:List Hint}{b:Option Prop}(h:kJ dst p a b=some (W,hs',ob)):gB dst (bT W)=true:=by
 cases dst with
 |none=>rfl
 |some d=>simp only[kJ,an,ap]at h;obtain⟨rfl,rfl,rfl⟩:=h;simp [gB,bT]
theorem qR {l:jM}{b:List Hint}{a:Option Prop}(h:zG dst p b a=some (W,hs',ob))(k:Lm a-> ∀d,∀K:Env->Heap->List Nat->Prop,K (dK env d p) H D->aF P r N l (some d) env H D K)(o:Lm ob):
  aF P r N l dst env H D (KW env H D W):=by
 cases dst with
 |none=>simp only[zG,reduceCtorEq]at h
 |some d=>simp only[zG,an,ap]at h;obtain⟨rfl,rfl,rfl⟩:=h;exact k o _ _ ⟨rfl,rfl,rfl⟩
theorem oo {a:List Hint}{b:Option Prop}(h:zG dst p a b=some (W,hs',ob)):gB dst (bT W)=true:=by
 cases dst with
 |none=>rfl
 |some d=>simp only[zG,an,ap]at h;obtain⟨rfl,rfl,rfl⟩:=h;simp [gB,bT]
theorem zT {l:jM}{b:List Hint}{a:Option Prop}(h:F7 dst p b a=some (W,hs',ob))(k:p.bC=false->Lm a-> ∀K:Env->Heap->List Nat->Prop,K (ct env dst p) H D->aF P r N l dst env H D K)(o:Lm ob):
  aF P r N l dst env H D (KW env H D W):=by grind [F7,dD]
theorem xe {a:List Hint}{b:Option Prop}(h:F7 dst p a b=some (W,hs',ob)):gB dst (bT W)=true:=by grind [F7,cO]
theorem gU {l:jM}(h:mW l dst env hs=some (W,hs',ob))(o:Lm ob):aF P r N l dst env H D (KW env H D W):=by
 unfold mW at h;split at h
 ·rename_i p a;exact zT h (λhl _ K k=>aF.plain a hl k) o
 ·cases h
theorem fO {l:jM}(h:mW l dst env hs=some (W,hs',ob)):gB dst (bT W)=true:=by
 unfold mW at h;split at h
 ·exact xe h
 ·cases h
theorem iG {n:Int}(h:0<=n): ∃m:Nat,n=m:=⟨n.toNat,zz⟩
theorem RQ {op:BinOp}{a b n:Int}{g:Prop}(hx:bu env x= .v (.int .i64 a))(hy:bu env y= .v (.int .i64 b))(h:arith op a b=some (n,g))(o:g)
  (K:Env->Heap->List Nat->Prop) (k:K (ct env dst (.v (.int .i64 n))) H D):aF P r N (.bin op T x y) dst env H D K:=by
 cases op<;>simp only[arith,an,ap,reduceCtorEq]at h<;>obtain⟨rfl,rfl⟩:=h
 case add=>exact aF.add hx hy o.1 o.2 k
 case sub=>exact aF.sub hx hy o.1 o.2 k
 case mul=>exact aF.mul hx hy o.1 o.2 k
 case quo=>
  obtain⟨c,f,d⟩:=o
  obtain⟨a,rfl⟩:=iG c
  obtain⟨b,rfl⟩:=iG (b1 d)
  exact aF.quo hx hy f zz k
 case rem=>
  obtain⟨c,d⟩:=o
  obtain⟨a,rfl⟩:=iG c
  obtain⟨b,rfl⟩:=iG (b1 d)
  exact aF.rem hx hy zz k
 case and=>
  obtain⟨⟨c,f⟩,d,i⟩:=o
  obtain⟨a,rfl⟩:=iG c
  obtain⟨b,rfl⟩:=iG d
  exact aF.and hx hy zz zz k
 case or=>
  obtain⟨⟨c,f⟩,d,i⟩:=o
  obtain⟨a,rfl⟩:=iG c
  obtain⟨b,rfl⟩:=iG d
  exact aF.or hx hy zz zz k
 case andNot=>
  obtain⟨⟨c,f⟩,d⟩:=o
  obtain⟨a,rfl⟩:=iG c
  obtain⟨b,rfl⟩:=iG d
  exact aF.andNot hx hy zz k
 case shl=>
  obtain⟨c,f,d,i⟩:=o
  obtain⟨a,rfl⟩:=iG c
  obtain⟨b,rfl⟩:=iG f
  have e:(a:Int)*2^(b:Int).toNat=((a*2^b:Nat):Int):=zj
  rw[e]at i k
  exact aF.shl hx hy zz zz k
 case shr=>
  obtain⟨c,f,d⟩:=o
  obtain⟨a,rfl⟩:=iG c
  obtain⟨b,rfl⟩:=iG f
  have e:(a:Int)/2^(b:Int).toNat=((a/2^b:Nat):Int):=zj
  rw[e]at k
  exact aF.shr hx hy zz k
theorem tN {x:Option Operand}{m:Option Nat}{o:Prop}(h:Ep env x=some (m,o))(a:o):Cr env x m:=by
 cases x with
 |none=>simp only[Ep,an,ap]at h;exact h.1.symm
 |some x=>
  simp only[Ep]at h;split at h
  ·rename_i kd n hx;simp only[an,ap]at h;obtain⟨rfl,rfl⟩:=h;exact⟨kd,n,n.toNat,hx,zz,rfl⟩
  ·cases h
theorem tt (h:lY t y=true)(p:AV):bu (dK env t p) y=bu env y:=by
 cases y with
 |tmp u=>simp only[lY,bs]at h;exact eB _ _ (λe=>by subst e;rw[Nat.beq_refl]at h;cases h)
 |_=>rfl
theorem Eo (hy:TQ kk p=some ys):OB kk p ys:=by
 unfold TQ at hy;split at hy
 ·rename_i k zs;cases hk:a6 k kk with
  |false=>grind
  |true=>rw[hk]at hy;have:=az hk;subst this;simp only[cond_true,an]at hy;subst hy;exact .inl rfl
 ·simp only[an]at hy;subst hy;exact .inr ⟨rfl,rfl⟩
 ·cases hy
theorem fL (h:ps=qs):oL ps qs:=h▸oL.refl ps
theorem XM {gs:Nat->Option Bool}{op:jM}(h:vQ P gs H hs dst op env=some (W,hs',ob))(o:Lm ob):aF P r N op dst env H D (KW env H D W)/\gB dst (bT W)=true:=by
 cases op
 case pick c x y=>
  simp only[vQ,W2]at h;split at h
  ·split at h
   ·rename_i b e F C;refine⟨zT h (λhl he K k=>?_) o,xe h⟩;cases b with
    |true=>exact aF.SM C he rfl hl k
    |false=>exact aF.aan C he rfl hl k
   ·cases h
  ·cases h
 case bin op T x y=>
  simp only[vQ,Z4]at h;split at h
  ·rename_i a b hx hy;split at h
   ·rename_i n a1 ha;exact⟨dD h (λj K k=>RQ hx hy ha j K k) o,cO h⟩
   ·exact⟨gU h o,fO h⟩
  ·rename_i s t hx hy;split at h
   ·exact⟨dD h (λj K k=>aF.concat hx hy j k) o,cO h⟩
   ·exact⟨gU h o,fO h⟩
  ·exact⟨gU h o,fO h⟩
 case nI neg T x y=>
  simp only[vQ,ZG]at h;split at h
  ·rename_i a b hx hy;exact⟨dD h (λj K k=>aF.eqB hx hy j k) o,cO h⟩
  ·exact⟨gU h o,fO h⟩
 case toInt kd s d x=>
  simp only[vQ,RS]at h;split at h
  ·rename_i kx n hx;exact⟨dD h (λj K k=>aF.toInt hx j k) o,cO h⟩
  ·cases h
 case ni T x i kk=>
  simp only[vQ,QO]at h;split at h
  ·rename_i k es kd n hx hi;split at h
   ·rename_i e A;cases hk:a6 k kk with
    |false=>rw[hk]at h;cases h
    |true=>rw[hk]at h;have:=az hk;subst this;exact⟨dD h (λj K k=>aF.ni n.toNat hx hi zz j.2 k) o,cO h⟩
   ·cases h
  ·rename_i b len cap kd n hx hi;exact⟨dD h (λj K k=>aF.Yq n.toNat hx hi zz j.2 k) o,cO h⟩
  ·cases h
 case kq T x i len kk=>
  simp only[vQ,MR]at h;split at h
  ·rename_i cs kd n hx hi;split at h
   ·exact⟨dD h (λj K k=>aF.Yo n.toNat hx hi zz j.1.2 j.2 k) o,cO h⟩
   ·exact⟨dD h (λj K k=>aF.kq n.toNat hx hi zz j.2 k) o,cO h⟩
  ·rename_i b off kd n hx hi;exact⟨dD h (λj K k=>aF.VV n.toNat hx hi zz j.2 k) o,cO h⟩
  ·cases h
 case og T x i=>
  simp only[vQ,LG]at h;split at h
  ·rename_i s kd n hx hi;split at h
   ·exact⟨dD h (λj K k=>aF.og n.toNat hx hi zz j.2 k) o,cO h⟩
   ·cases h
  ·cases h
 case iS T x i len kk g=>
  simp only[vQ,MT]at h;split at h
  ·split at h
   ·rename_i l kd n hx hi;exact⟨zT h (λhl j K k=>aF.iS n.toNat hx hi zz j.1.2 j.2 hl k) o,xe h⟩
   ·cases h
  ·exact⟨gU h o,fO h⟩
 case load T x n=>
  simp only[vQ,WM]at h;split at h
  ·rename_i cs hx;split at h
   ·rename_i p G;exact⟨zT h (λhl _ K k=>aF.plain (by simp only[jJ,hx];exact G) hl k) o,xe h⟩
   ·cases h
  ·rename_i b off hx;split at h
   ·rename_i i A;split at h
    ·rename_i X O cs I;split at h
     ·rename_i p G;exact⟨dD h (λj K k=>aF.TB hx (j▸I) G k) o,cO h⟩
     ·cases h
    ·cases h
   ·rename_i i m f e A;split at h
    ·rename_i X O kk cap es I;split at h
     ·rename_i p G;exact⟨dD h (λj K k=>aF.aaB m f hx (j.1▸I) j.2.1 j.2.2 G k) o,cO h⟩
     ·cases h
    ·cases h
   ·rename_i i p A;split at h
    ·rename_i X O cs I;exact⟨dD h (λj K k=>aF.TB hx (j.1▸I) j.2 k) o,cO h⟩
    ·cases h
   ·cases h
  ·rename_i O cs hx;split at h
   ·rename_i p d G;cases w:lY d x with
    |false=>rw[w]at h;cases h
    |true=>
     rw[w]at h;simp only[cond_true,an,ap]at h;obtain⟨rfl,rfl,rfl⟩:=h;refine⟨?_,by simp [gB,bT]⟩;cases x with
     |tmp t=>refine aF.Z6 hx G ?_ ⟨rfl,rfl,rfl⟩;intro e;subst e;simp [lY]at w
     |const v=>exfalso;have:=X2 v;simp only[bu]at hx;rw[hx]at this;cases this
     |global g=>cases hx
     |func f=>cases hx
   ·cases h
  ·cases h
 case store T x y n=>
  simp only[vQ,RI]at h;split at h
  ·rename_i t;split at h
   ·rename_i O cs B;cases w:lY t y with
    |false=>rw[w]at h;cases h
    |true=>rw[w]at h;simp only[cond_true,an,ap]at h;obtain⟨rfl,rfl,rfl⟩:=h;exact⟨aF.XW B (λp=>tt w p) o.1 o.2.1 o.2.2.1 o.2.2.2 ⟨rfl,rfl,rfl⟩,rfl⟩
   ·cases h
  ·cases h
 case box T x=>
  simp only[vQ,Zl]at h;split at h
  ·exact⟨qR h (λj d K k=>aF.abI rfl j.1 j.2 k) o,oo h⟩
  ·exact⟨qR h (λj d K k=>aF.abj rfl j.1 j.2 k) o,oo h⟩
  ·cases h
 case alloc T z=>
  simp only[vQ,QH]at h;split at h
  ·exact⟨qR h (λj d K k=>aF.YF j k) o,oo h⟩
  ·exact⟨qR h (λj d K k=>aF.Yn j k) o,oo h⟩
  ·cases h
 case iB T n ps E kk z=>
  simp only[vQ,LA]at h;split at h
  ·rename_i q hq;split at h
   ·exact⟨qR h (λj d K k=>aF.Ej hq j k) o,oo h⟩
   ·exact⟨qR h (λj d K k=>aF.iB hq j k) o,oo h⟩
   ·cases h
  ·cases h
 case append T Q x y E kk bytes z=>
  simp only[vQ,wU]at h;split at h
  ·rename_i u A;split at h
   ·rename_i t d;split at h
    ·rename_i ad n cap R V es a0 Y B hu;cases hk:(a6 R E&&(a6 V kk&&(lY u y&&(lY t y&& !(a6 t u)))))with
     |false=>rw[hk]at h;cases h
     |true=>
      rw[hk]at h;simp only[bA,bs]at hk;obtain⟨k1,k2,k3,k4,k5⟩:=hk;have S:=az k1;have U:=az k2;subst S U;simp only[cond_true]at h;split at h
      ·rename_i ys hy;simp only[an,ap]at h;obtain⟨rfl,rfl,rfl⟩:=h;obtain⟨⟨rfl,rfl,L⟩,M,o3⟩:=o;refine⟨aF.T6 (u:=u) (λe=>by subst e;simp at k5) hu B L ?_ M o3 ⟨rfl,rfl,rfl⟩,by simp [gB,bT]⟩;rw[tt k4,tt k3];exact Eo hy
      ·cases h
    ·cases h
   ·cases h
  simp only[Ib]at h;split at h
  ·rename_i t d;cases w:lY t y with
   |false=>grind
   |true=>
    rw[w]at h;simp only[cond_true]at h;split at h
    ·rename_i ys R V es hy B;cases hk:(a6 R E&&a6 V kk)with
     |false=>rw[hk]at h;cases h
     |true=>rw[hk]at h;simp only[bA]at hk;have S:=az hk.1;have U:=az hk.2;subst S U;simp only[cond_true,an,ap]at h;obtain⟨rfl,rfl,rfl⟩:=h;refine⟨?_,by simp [gB,bT]⟩;exact aF.append B (Eo hy) o.1 o.2 ⟨rfl,rfl,rfl⟩
    ·rename_i ys hy B;simp only[an,ap]at h;obtain⟨rfl,rfl,rfl⟩:=h;exact⟨aF.NB B (λp=>by rw[tt w];exact Eo hy) o.1 o.2 ⟨rfl,rfl,rfl⟩,by simp [gB,bT]⟩
    ·cases h
  ·cases h
 case gR T l c E kk bytes z=>
  simp only[vQ,M3]at h;split at h
  ·rename_i kl nl kc nc hl hc;exact⟨qR h (λj d K k=>aF.Um nl.toNat hl hc zz zz j.2.2.1 j.2.2.2.1 j.2.2.2.2 k) o,oo h⟩
  ·cases h
 case rF x=>
  simp only[vQ,aam]at h;split at h
  ·rename_i t d;split at h
   ·rename_i T k es B;cases hb:a6 t d with
    |true=>rw[hb]at h;cases h
    |false=>rw[hb]at h;simp only[cond_false,an,ap]at h;obtain⟨rfl,rfl,rfl⟩:=h;exact⟨aF.abr B ⟨rfl,rfl,rfl⟩,by simp [gB,bT]⟩
   ·rename_i T k es ad cap B;simp only[an,ap]at h;obtain⟨rfl,rfl,rfl⟩:=h;exact⟨aF.abl B ⟨rfl,rfl,rfl⟩,by simp [gB,bT]⟩
   ·exact⟨gU h o,fO h⟩
  ·exact⟨gU h o,fO h⟩
 case call f xs Q=>
  simp only[vQ,Xb]at h;split at h
  ·rename_i res A;cases w:mI (xs.map (bu env))with
   |false=>grind
   |true=>rw[w]at h;exact⟨dD h (λj K k=>aF.call j rfl w (oL.refl _) k) o,cO h⟩
  ·rename_i qs res A;cases w:mI (xs.map (bu env))with
   |false=>grind
   |true=>rw[w]at h;exact⟨dD h (λj K k=>aF.call j.1 rfl w j.2 k) o,cO h⟩
  ·rename_i qs res A;cases w:mI (xs.map (bu env))with
   |false=>grind
   |true=>rw[w]at h;exact⟨dD h (λj K k=>aF.Wq j.1 rfl w j.2.2 j.2.1 k) o,cO h⟩
  ·split at h
   ·split at h
    ·rename_i t d _ T k es B;simp only[an,ap]at h;obtain⟨rfl,rfl,rfl⟩:=h;exact⟨aF.R5 o B ⟨rfl,rfl,rfl⟩,by simp [gB,bT]⟩
    ·cases h
   ·cases h
  ·cases h
 case fP x xs Q=>
  simp only[vQ,Tb]at h;split at h
  ·rename_i f first Z hx
   cases w:mI (xs.map (bu env))with
   |false=>grind
   |true=>
    rw[w]at h;simp only[cond_true]at h;split at h
    ·exact⟨dD h (λj K k=>aF.fP hx j rfl w (oL.refl _) k) o,cO h⟩
    ·exact⟨dD h (λj K k=>aF.fP hx j.1 rfl w j.2 k) o,cO h⟩
    ·exact⟨dD h (λj K k=>aF.SU hx j.1 rfl w j.2.2 j.2.1 k) o,cO h⟩
    ·cases h
  ·cases h
 case min ts Q xs=>
  simp only[vQ,Wg]at h;split at h
  ·split at h
   ·rename_i a b hx hy;exact⟨dD h (λj K k=>aF.min2 hx hy k) o,cO h⟩
   ·cases h
  ·cases h
 case max ts Q xs=>
  simp only[vQ,Wg]at h;split at h
  ·split at h
   ·rename_i a b hx hy;exact⟨dD h (λj K k=>aF.max2 hx hy k) o,cO h⟩
   ·cases h
  ·cases h
 case nY T x lo hi J=>
  cases J with
  |some m=>simp only[vQ]at h;exact⟨gU h o,fO h⟩
  |none=>
   simp only[vQ,K6]at h;split at h
   ·rename_i s l L hh M hx F C;exact⟨dD h (λj K k=>aF.nY l hh hx (tN F j.1.1) (tN C j.1.2) j.2.1 j.2.2 k) o,cO h⟩
   ·cases h
 case mj T x lo hi J kk=>
  cases J with
  |some m=>simp only[vQ]at h;exact⟨gU h o,fO h⟩
  |none=>
   simp only[vQ,MV]at h;split at h
   ·rename_i k es l L hh M hx F C;cases hk:a6 k kk with
    |false=>rw[hk]at h;cases h
    |true=>rw[hk]at h;have:=az hk;subst this;exact⟨dD h (λj K k=>aF.mj l hh hx (tN F j.1.1) (tN C j.1.2) j.2.1 j.2.2 k) o,cO h⟩
   ·cases h
 case lJ T x lo hi J n kk=>
  cases J with
  |some m=>simp only[vQ]at h;exact⟨gU h o,fO h⟩
  |none=>
   simp only[vQ,MF]at h;split at h
   ·rename_i cs l L hh M hx F C;exact⟨dD h (λj K k=>aF.lJ l hh hx (tN F j.1.1) (tN C j.1.2) j.2.1.1 j.2.1.2 j.2.2.1 j.2.2.2 k) o,cO h⟩
   ·rename_i b off L M hx F C;split at h
    ·exact⟨dD h (λj K k=>aF.Up hx k) o,cO h⟩
    ·cases h
   ·cases h
 all_goals (simp only[vQ]at h;exact⟨gU h o,fO h⟩)
def N2 (P:Program)(gs:Nat->Option Bool)(H:Heap)(hs:List Hint)(dst:Option Nat)(op:jM)(env:Env):XR:=match vQ P gs H hs dst op env with
 |some x=>some x
 |none=>match hs,dst with
  | .op p::hs,some d=>some ([(d,p)],hs,some (∀(r:Option Nat) (N:Nat) (D:List Nat),Q1 P r N op (some d) env H D [(d,p)]))
  |_,_=>none
theorem zU {gs:Nat->Option Bool}{op:jM}(h:N2 P gs H hs dst op env=some (W,hs',ob))(o:Lm ob):aF P r N op dst env H D (KW env H D W)/\gB dst (bT W)=true:=by
 unfold N2 at h;split at h
 ·rename_i x hx;cases h;exact XM hx o
 ·split at h
  ·rename_i p a d;simp only[an,ap]at h;obtain⟨rfl,rfl,rfl⟩:=h;exact⟨o r N D,by simp [gB,bT]⟩
  ·cases h
end
variable {gs:List (Nat×Bool)}{X:Type}{ls:List aH}{W:List (Nat×AV)}{ob:Prop}{hs':List Hint}{env':Env}
def rI:List (Nat×Bool)->Nat->Option Bool
 |[],_=>none
 |(t,b)::l,i=>bif a6 i t then some b else rI l i
def Tz:Option Prop->Prop->Prop
 |none,q=>q
 |some p,q=>p/\q
def Ga (P:Program)(gs:List (Nat×Bool))(H:Heap)(hs:List Hint)(l:aH)(env:Env):XR:=match l.guard with
 |none=>N2 P (rI gs) H hs l.dst l.op env
 |some (t,b)=>match rI gs t,env t with
  |some c,.v (.bool e)=>match c,b with
   |true,true|false,false=>(match N2 P (rI gs) H hs l.dst l.op env with
    |some (W,hs',none)=>some (W,hs',some (e=c))
    |some (W,hs',some q)=>some (W,hs',some (e=c/\q))
    |none=>none)
   |_,_=>match l.dst with
    |some d=>some ([(d,.v undef)],hs,some (e=c))
    |none=>none
  |_,.v (.tuple _)=>match l.dst with
   |some d=>some ([(d,.v undef)],hs,none)
   |none=>none
  |_,_=>none
theorem zM {o:Option Prop}{p:Prop}(h:Tz o p):Lm o/\p:=by
 cases o with
 |none=>exact⟨trivial,h⟩
 |some q=>exact h
section
variable {P:Program}{r:Option Nat}{N:Nat}{env:Env}{H:Heap}{D:List Nat}{Q:cI}
theorem vZ {hs:List Hint}{l:aH}{ob:Option Prop}(h:Ga P gs H hs l env=some (W,hs',ob))(o:Lm ob):jm P r N l env H D W/\gB l.dst (bT W)=true:=by
 unfold Ga at h
 unfold jm
 split at h
 ·rename_i hg
  try rw[hg]
  exact zU h o
 ·rename_i t b hg
  try rw[hg]
  split at h
  ·rename_i c e hc he
   have f:c=b->(match N2 P (rI gs) H hs l.dst l.op env with
     |some (W,hs',none)=>some (W,hs',some (e=c))
     |some (W,hs',some q)=>some (W,hs',some (e=c/\q))
     |none=>none)=some (W,hs',ob)->(∃c:Bool,env t= .v (.bool c)/\((c=b/\Q1 P r N l.op l.dst env H D W)\/(c≠b/\ ∃d,l.dst=some d/\W=[(d,.v undef)])))/\gB l.dst (bT W)=true:=by
    intro a h
    split at h
    ·rename_i k j hx
     simp only[an,ap]at h
     obtain⟨rfl,rfl,rfl⟩:=h
     obtain⟨g,i⟩:=zU (r:=r) (N:=N) (D:=D) hx trivial
     exact⟨⟨e,he,.inl ⟨by rw[o,a],g⟩⟩,i⟩
    ·rename_i k j p hx
     simp only[an,ap]at h
     obtain⟨rfl,rfl,rfl⟩:=h
     obtain⟨m,n⟩:=o
     obtain⟨g,i⟩:=zU (r:=r) (N:=N) (D:=D) hx n
     exact⟨⟨e,he,.inl ⟨by rw[m,a],g⟩⟩,i⟩
    ·cases h
   have neg:c≠b->(match l.dst with
     |some d=>some ([(d,AV.v undef)],hs,some (e=c))
     |none=>none)=some (W,hs',ob)->(∃c:Bool,env t= .v (.bool c)/\((c=b/\Q1 P r N l.op l.dst env H D W)\/(c≠b/\ ∃d,l.dst=some d/\W=[(d,.v undef)])))/\gB l.dst (bT W)=true:=by
    intro a h
    split at h
    ·rename_i d hd
     simp only[an,ap]at h
     obtain⟨rfl,rfl,rfl⟩:=h
     exact⟨⟨e,he,.inr ⟨by rw[o];exact a,d,hd,rfl⟩⟩,by simp [gB,bT,hd]⟩
    ·cases h
   cases c<;>cases b
   ·exact(f rfl h).imp .inl id
   ·exact(neg zj h).imp .inl id
   ·exact(neg zj h).imp .inl id
   ·exact(f rfl h).imp .inl id
  ·rename_i cs he
   split at h
   ·rename_i d hd
    simp only[an,ap]at h
    obtain⟨rfl,rfl,rfl⟩:=h
    exact⟨.inr ⟨⟨cs,he⟩,d,hd,rfl⟩,by simp [gB,bT,hd]⟩
   ·cases h
  ·cases h
def ld (P:Program)(gs:List (Nat×Bool))(H:Heap):List aH->List Hint->Env->Env×List aH×List Hint×Prop
 |[],hs,env=>(env,[],hs,True)
 |l::ls,hs,env=>match Ga P gs H hs l env with
  |some (W,hs',ob)=>match ld P gs H ls hs' (dG env W),ob with
   |(e,rest,h,o),none=>(e,rest,h,o)
   |(e,rest,h,o),some p=>(e,rest,h,p/\o)
  |none=>(env,l::ls,hs,True)
theorem aT.WB {l:aH}(h:jm P r N l env H D W)(k:aT P r N ls Q (dG env W) H D):aT P r N (l::ls) Q env H D:=by
 obtain⟨dst,g,op⟩:=l;unfold jm at h;cases g with
 |none=>exact aT.cons (aF.mono h zx)
 |some f=>
  obtain⟨t,b⟩:=f;rcases h with⟨c,hc,h⟩|⟨⟨cs,hc⟩,d,hd,rfl⟩
  ·rcases h with⟨a,h⟩|⟨a,d,hd,rfl⟩
   ·subst a;exact aT.yes hc (aF.mono h (by rintro e h d ⟨rfl,rfl,rfl⟩;exact k))
   ·simp only at hd;subst hd;exact aT.no hc a k
  ·simp only at hd;subst hd;exact aT.nop hc k
theorem aT.xq : ∀{ls:List aH} {hs:List Hint} {env env':Env} {ls':List aH} {hs':List Hint} {ob:Prop},ld P gs H ls hs env=(env',ls',hs',ob)->ob->aT P r N ls' Q env' H D->aT P r N ls Q env H D
 |[],hs,env,env',ls',hs',ob,h,o,k=>by
  simp only[ld,ap]at h
  obtain⟨rfl,rfl,rfl,rfl⟩:=h
  exact k
 |l::ls,hs,env,env',ls',hs',ob,h,o,k=>by
  simp only[ld]at h
  split at h
  ·rename_i W b a hx
   obtain⟨⟨e,rest,f,g⟩,d⟩: ∃q,ld P gs H ls b (dG env W)=q:=⟨_,rfl⟩
   rw[d]at h
   have h:(e,rest,f,Tz a g)=(env',ls',hs',ob):=by cases a<;>exact h
   simp only[ap]at h
   obtain⟨rfl,rfl,rfl,rfl⟩:=h
   obtain⟨i,c⟩:=zM o
   exact aT.WB (vZ hx i).1 (aT.xq d c k)
  ·simp only[ap]at h
   obtain⟨rfl,rfl,rfl,rfl⟩:=h
   exact k
theorem aT.xd {hs:List Hint}(h:ld P gs H ls hs env=(env',[],hs',ob))(o:ob)(k:Q .normal env' H D):aT P r N ls Q env H D:=
 aT.xq h o (aT.nil k)
theorem aJ.xq {hs:List Hint}(h:ld P gs H ls hs env=(env',[],hs',ob))(o:ob)(k:Q .normal env' H D):aJ P r N (.ops ls) Q env H D:=
 aJ.ops (aT.xd h o k)
theorem aJ.sx {y:bN}{hs:List Hint}(h:ld P gs H ls hs env=(env',[],hs',ob))(o:ob)(k:aJ P r N y Q env' H D):aJ P r N (.seq (.ops ls) y) Q env H D:=
 aJ.seq (aJ.xq h o k)
def dt:Operand->List Nat
 | .tmp t=>[t]
 |_=>[]
def yi:Option Operand->List Nat
 |some (.tmp t)=>[t]
 |_=>[]
def rK:List Operand->List Nat
 |[]=>[]
 | .tmp t::l=>t::rK l
 |_::l=>rK l
def Kj:List (Nat×Operand)->List Nat
 |[]=>[]
 |(_,.tmp t)::l=>t::Kj l
 |_::l=>Kj l
def KJ:List (Nat×Nat×Operand)->List Nat
 |[]=>[]
 |(_,_,.tmp t)::l=>t::KJ l
 |_::l=>KJ l
def YJ:jM->List Nat
 | .rF x=>dt x
 | .pick c x y=>dt c++(dt x++dt y)
 | .bin _ _ x y=>dt x++dt y
 | .nI _ _ x y=>dt x++dt y
 | .un _ x=>dt x
 | .toInt _ _ _ x=>dt x
 | .conv _ _ x=>dt x
 | .extract x _=>dt x
 | .oN _ x _ _=>dt x
 | .ni _ x i _=>dt x++dt i
 | .kq _ x i _ _=>dt x++dt i
 | .load _ x _=>dt x
 | .store _ x y _=>dt x++dt y
 | .field _ x _ _ _=>dt x
 | .og _ x i=>dt x++dt i
 | .iS _ x i _ _ _=>dt x++dt i
 | .build _ _ _ d=>KJ d
 | .iB _ _ ps _ _ _=>Kj ps
 | .box _ x=>dt x
 | .vv _ a b=>rK a++rK b
 | .uM x=>dt x
 | .len _ _ _ x=>dt x
 | .It _ _ x=>dt x
 | .append _ _ x y _ _ _ _=>dt x++dt y
 | .kQ _ _ _ x y _ _ _ _=>dt x++dt y
 | .mn _ _ _ x y _ _ _ _=>dt x++dt y
 | .wz _ _ x=>dt x
 | .Cg _ _ _ x y=>dt x++dt y
 | .min _ _ xs=>rK xs
 | .max _ _ xs=>rK xs
 | .gR _ l c _ _ _ _=>dt l++dt c
 | .lookup _ x i _ _ _ _=>dt x++dt i
 | .nY _ x a b _=>dt x++(yi a++yi b)
 | .mj _ x a b _ _=>dt x++(yi a++yi b)
 | .lJ _ x a b _ _ _=>dt x++(yi a++yi b)
 | .call _ xs _=>rK xs
 | .fP x xs _=>dt x++rK xs
 | .JY _ x=>dt x
 |_=>[]
def yf (l:aH):List Nat:=(match l.guard with|some (t,_)=>[t]|none=>[])++((match l.dst with|some d=>[d]|none=>[])++YJ l.op)
def MX (l:aH)(hs:List Hint):List Nat×List Hint:=match hs with
 | .abU a::hs'=>(match l.op with
  | .call _ _ _=>(yf l++a,hs')
  | .fP _ _ _=>(yf l++a,hs')
  |_=>(yf l,hs))
 | .own u::_=>(match l.op with
  | .append _ _ _ _ _ _ _ _=>(yf l++[u],hs)
  |_=>(yf l,hs))
 |_=>(yf l,hs)
def zC (P:Program)(gs:List (Nat×Bool))(H:Heap):List (aH×List Nat)->List Hint->Env->Env×List (List Nat×List Nat)×List (aH×List Nat)×List Hint×Prop
 |[],hs,env=>(env,[],[],hs,True)
 |(l,c)::ls,hs,env=>match MX l hs with
  |(f,b)=>match Ga P gs H b l (only f env)with
   |some (W,hs',ob)=>bif Cq (bT W) f then(match zC P gs H ls hs' (dG env W),ob with
    |(e,a,rest,h,o),none=>(e,(f,bT W)::a,rest,h,o)
    |(e,a,rest,h,o),some p=>(e,(f,bT W)::a,rest,h,p/\o))else(env,[],(l,c)::ls,hs,True)
   |none=>(env,[],(l,c)::ls,hs,True)
theorem vE.run : ∀{ls:List (aH×List Nat)} {hs:List Hint} {env d env':Env} {g j:List (List Nat×List Nat)} {rest:List (aH×List Nat)} {hs':List Hint} {ob:Prop} {rC:List aH},
  zC P gs H ls hs env=(d,g,rest,hs',ob)->ob->vE P r N H D d rest j rC env'->vE P r N H D env ls (g++j) rC env'
 |[],hs,env,d,env',g,j,rest,hs',ob,rC,h,o,k=>by
  simp only[zC,ap]at h
  obtain⟨rfl,rfl,rfl,rfl,rfl⟩:=h
  exact k
 |(l,z)::ls,hs,env,d,env',g,j,rest,hs',ob,rC,h,o,k=>by
  simp only[zC]at h
  obtain⟨⟨f,w⟩,v⟩: ∃q,MX l hs=q:=⟨_,rfl⟩
  rw[v]at h
  simp only at h
  split at h
  ·rename_i W n i hx
   cases a:Cq (bT W) f with
   |false=>
    rw[a]at h
    simp only[cond_false,ap]at h
    obtain⟨rfl,rfl,rfl,rfl,rfl⟩:=h
    exact k
   |true=>
    rw[a]at h
    obtain⟨⟨e,b,c,u,x⟩,s⟩: ∃q,zC P gs H ls n (dG env W)=q:=⟨_,rfl⟩
    rw[s]at h
    have h:(e,(f,bT W)::b,c,u,Tz i x)=(d,g,rest,hs',ob):=by cases i<;>exact h
    simp only[ap]at h
    obtain⟨rfl,rfl,rfl,rfl,rfl⟩:=h
    obtain⟨y,p⟩:=zM o
    obtain⟨t,m⟩:=vZ (r:=r) (N:=N) (D:=D) hx y
    exact vE.cons f t a m (vE.run s p k)
  ·simp only[ap]at h
   obtain⟨rfl,rfl,rfl,rfl,rfl⟩:=h
   exact k
theorem aJ.dq {ops:List (aH×List Nat)}{hs:List Hint}{a:List (List Nat×List Nat)}{rest:List (aH×List Nat)}(hm:P.follows .mixedOrders=true)
  (h:zC P gs H ops hs env=(env',a,rest,hs',ob)) (b:mY (ops.map (·.2)) a=true) (o:ob) (k:aT P r N (rest.map (·.1)) Q env' H D):aJ P r N (.iP ops) Q env H D:=
 aJ.iP hm (vE.run h o vE.nil) zx k
theorem aJ.sd {y:bN}{ops:List (aH×List Nat)}{hs:List Hint}{a:List (List Nat×List Nat)}(hm:P.follows .mixedOrders=true)
  (h:zC P gs H ops hs env=(env',a,[],hs',ob)) (b:mY (ops.map (·.2)) a=true) (o:ob) (k:aJ P r N y Q env' H D):aJ P r N (.seq (.iP ops) y) Q env H D:=
 aJ.seq (aJ.dq hm h b o (aT.nil k))
theorem aJ.PX (h:X->Prop)(E:X->Env)(g:X->Heap)(f:X->List Nat)(m:X->Nat){x:bN}(d:X)(k:h d)(p:bB env H D (E d) (g d) (f d))
  (v: ∀i,h i->aJ P r N x (jG (λenv' H' j=> ∃b,h b/\m b<m i/\bB env' H' j (E b) (g b) (f b)) Q) (E i) (g i) (f i)):aJ P r N (.loop x) Q env H D:=
 aJ.loop (X:={i:X//h i}) (λi=>E i.1) (λi=>g i.1) (λi=>f i.1) (λi=>m i.1) ⟨d,k⟩ p
  (λi=>by
    intro c hc C a w S L u hs
    refine wpIn_mono (v i.1 i.2 c hc C a w S L u hs) ?_
    rintro e y w' ⟨env',H',j,o,n,hs',l⟩
    refine⟨env',H',j,o,n,hs',?_⟩
    cases e with
    |normal=>obtain⟨b,q,s,t⟩:=l;exact⟨⟨b,q⟩,s,t⟩
    |_=>exact l)
theorem aJ.mono {x:bN}{b:cI}(h:aJ P r N x Q env H D)(k: ∀e env H D,Q e env H D->b e env H D):aJ P r N x b env H D:=
 λc hc C a w S L i hs=>wpIn_mono (h c hc C a w S L i hs) (by
  rintro e l w' ⟨env',H',d,g,f,hs',j⟩
  exact⟨env',H',d,g,f,hs',k _ _ _ _ j⟩)
end
section
variable {P:Program}{r:Option Nat}{N:Nat}{env:Env}{H:Heap}{D:List Nat}{Q:cI}
theorem aJ.ZK {x:bN}(t:Nat)(g:env t= .sl k es)(h:es.length<=9223372036854775807->aJ P r N x Q env H D):aJ P r N x Q env H D:=by
 intro c hc C a w S L f hs;refine h ?_ c hc C a w S L f hs;have d:=hs.rep g rfl;simp only[aR]at d;rcases d with⟨_,rfl⟩|⟨b,off,cap,_,i,e,_⟩
 ·simp
 ·unfold maxLen at e;omega
theorem aJ.gK {Y:Type}{id:Nat}{x y:bN}(i:Y->Prop)(E:Y->Env)(g:Y->Heap)(f:Y->List Nat)(h:aJ P r N x (pI id (jG (λe h d=> ∃j,i j/\bB e h d (E j) (g j) (f j)) Q)) env H D)
  (k: ∀j,i j->aJ P r N y Q (E j) (g j) (f j)):aJ P r N (.block id x) (jG (λe h d=>aJ P r N y Q e h d) Q) env H D:=
 aJ.block (aJ.mono h (by
  intro e env' H' m a
  cases e with
  |normal=>obtain⟨j,b,c⟩:=a;exact aJ.lr c (k j b)
  |exit l=>
   simp only[pI]at a ⊢
   split
   ·rename_i e;rw[if_pos e]at a;obtain⟨j,b,c⟩:=a;exact aJ.lr c (k j b)
   ·rename_i e;rw[if_neg e]at a;exact a
  |_=>exact a))
theorem aJ.qq {Y:Type}{id:Nat}{x y:bN}(i:Y->Prop)(E:Y->Env)(g:Y->Heap)(f:Y->List Nat)(h:aJ P r N x (pI id (jG (λe h d=> ∃j,i j/\bB e h d (E j) (g j) (f j)) Q)) env H D)
  (k: ∀j,i j->aJ P r N y Q (E j) (g j) (f j)):aJ P r N (.seq (.block id x) y) Q env H D:=
 aJ.nV (aJ.mono h (by
  intro e env' H' m a
  cases e with
  |normal=>obtain⟨j,b,c⟩:=a;exact aJ.lr c (k j b)
  |exit l=>
   simp only[pI]at a ⊢
   split
   ·rename_i e;rw[if_pos e]at a;obtain⟨j,b,c⟩:=a;exact aJ.lr c (k j b)
   ·rename_i e;rw[if_neg e]at a;exact a
  |_=>exact a))
theorem aJ.En {Y:Type}{x y:bN}(c:Y->Prop)(E:Y->Env)(b:Y->Heap)(a:Y->List Nat)(h:aJ P r N x (jG (λe h d=> ∃j,c j/\bB e h d (E j) (b j) (a j)) Q) env H D)
  (k: ∀j,c j->aJ P r N y Q (E j) (b j) (a j)):aJ P r N (.seq x y) Q env H D:=
 aJ.seq (aJ.mono h (by
  intro e env' H' l f
  cases e with
  |normal=>obtain⟨j,g,i⟩:=f;exact aJ.lr i (k j g)
  |_=>exact f))
theorem aJ.dd {ops:List (aH×List Nat)}{hs:List Hint}{a:List (List Nat×List Nat)}(hm:P.follows .mixedOrders=true)
  (h:zC P gs H ops hs env=(env',a,[],hs',ob)) (b:mY (ops.map (·.2)) a=true) (o:ob) (k:Q .normal env' H D):aJ P r N (.iP ops) Q env H D:=
 aJ.dq hm h b o (aT.nil k)
abbrev ints (l:List Int):AV:=.sl 1 (l.map λx=>[I x])
end
variable {i:Nat}
section
variable {P:Program}{r:Option Nat}{N:Nat}{env:Env}{H:Heap}{D:List Nat}{dst:Option Nat}{K:Env->Heap->List Nat->Prop}{Q:cI}
theorem aF.tn {T:Nat}{s:ByteArray}(hx:bu env x= .v (.string s))(k: ∀b,K (dK env d (.po b 0)) ((b,.raw (.stringIter s 0))::H) D):aF P r N (.range T x true) (some d) env H D K:=by
 intro o e hd g C a w S L l hs next Q c
 have h:=hs.alloc (x:=.raw (.stringIter s 0)) (o:=.stringIter s 0) rfl;have i:=h.put (d:=d) (bn (l▸hd d rfl) hs.size) (p:=.po w.heap.size 0) (y:=.pointer (some ⟨w.heap.size,0,none⟩)) rfl (by simp [aR]);cases g with
 |tn f j=>refine Oper.bO (.tn f j) zj (y:=.pointer (some ⟨w.heap.size,0,none⟩)) (w':=w.alloc (.stringIter s 0)) ?_ (by rw[e];exact c _ _ _ _ _ _ _ (k _) i (aE.Le.refl _));simp [execOp,f,Instr.range,underlying,j,hs.int hx,newObj,cb]
theorem aF.Qr {s:ByteArray}{c:Nat}(hx:bu env x= .po b 0)(E:H[i]? =some (b,.raw (.stringIter s c)))
  (J:c<s.size->K (ct env dst (.bZ [B true,I c,.v (.int .i32 (a7 s c).1)])) (H.set i (b,.raw (.stringIter s (c+(a7 s c).2)))) D)
  (M: ¬c<s.size->K (ct env dst (.bZ [B false])) H D):aF P r N (.next x true ty) dst env H D K:=by
 intro o k hd m C a w S L F hs next Q f
 obtain⟨O,h,n⟩:=(hs.at_ E).holds
 simp only[Holds]at n
 subst n
 have A:=hs.cY x hx rfl
 simp only[aR]at A
 have t:b<w.heap.size:=(Array.getElem?_eq_some_iff.1 h).1
 generalize z:true=st at m
 cases m with
 |next j=>
  subst z
  by_cases q:c<s.size
  ·have u:=hs.replace E (y:=.raw (.stringIter s (c+(a7 s c).2))) (w':={w with heap:=w.heap.setIfInBounds b (.stringIter s (c+(a7 s c).2))}) (o:=.stringIter s (c+(a7 s c).2))
    (by simp [t]) rfl zj (λg hg=>by
      show (w.heap.setIfInBounds b _)[g]? =w.heap[g]?
      rw[Array.getElem?_setIfInBounds,if_neg (λe=>hg e.symm)]) rfl rfl rfl
   obtain⟨G,l⟩:=u.lA (dst:=dst) (λd e=>F▸hd d e) (p:=.bZ [B true,I c,.v (.int .i32 (a7 s c).1)]) (y:=.tuple #[.bool true,.int .i64 c,.int .i32 (a7 s c).1]) rfl
    (by simp only[aR];exact⟨[.bool true,.int .i64 c,.int .i32 (a7 s c).1],rfl,by simp [aS,aR]⟩)
   refine Oper.bO (.next j) zj (y:=.tuple #[.bool true,.int .i64 c,.int .i32 (a7 s c).1]) (w':={w with heap:=w.heap.setIfInBounds b (.stringIter s (c+(a7 s c).2))}) ?_
    (by rw[k];exact f _ _ _ _ _ _ _ (J q) l (aE.Le.refl _))
   simp [execOp,j,b9,A,getObj,setObj,cb,h,q,goInt]
  ·obtain⟨G,l⟩:=hs.lA (dst:=dst) (λd e=>F▸hd d e) (p:=.bZ [B false]) (y:=.tuple #[.bool false]) rfl (by simp only[aR];exact⟨[.bool false],rfl,by simp [aS,aR]⟩)
   refine Oper.bO (.next j) zj (y:=.tuple #[.bool false]) (w':=w) ?_ (by rw[k];exact f _ _ _ _ _ _ _ (M q) l (aE.Le.refl _))
   simp [execOp,j,b9,A,getObj,cb,h,q]
end
end Go.Px
