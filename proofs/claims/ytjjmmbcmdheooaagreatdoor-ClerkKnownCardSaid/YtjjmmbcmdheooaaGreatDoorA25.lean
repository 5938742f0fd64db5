/- Part 25 of the proof of a statement of this seat (a logic of pure contracts; the functions; their contracts). No conditions. -/
import Derived.Test.YtjjmmbcmdheooaaGreatDoorA24
import Derived.Lib.ItoaLen
open And renaming intro->ap
open Bool renaming eq_iff_iff->b7
open ByteArray renaming mk->az
open Classical renaming not_not->b3
open Go.Proofs.Tryz renaming prog->ad
open List renaming drop_eq_getElem_cons->a6,append_ne_nil_of_right_ne_nil->a7,mem_iff_getElem?->a8,length_map->be,getElem?_eq_some_iff->bi,length_cons->bk,nil_sublist->bm,drop_eq_nil_of_le->bn,headD_cons->bs,length_filter_le->bt,perm_append_comm->bx,mem_of_getElem?->bA,replicate->bI,drop_succ_cons->b0,mem_singleton->b1,mem_map->b4,cons_ne_nil->b6,append_nil->b9,mem_append->cb,drop_zero->cc,range->cr,any_cons->cA
open List.Perm renaming of_eq->b8
open List.Sublist renaming refl->an
open List.cons renaming inj->cB
open Nat renaming le_refl->cD
set_option maxRecDepth 100000
set_option maxHeartbeats 8000000
namespace Go.Px
open Go.Proofs
instance:Inhabited DX:=⟨⟨0,0⟩⟩
theorem As {α:Type}[Inhabited α]{p:α->Bool}{l:List α}{k:Nat}(hk:k<l.length)(h:bD p l 0=bD p (l.drop k) k)(a:p (nx l k)=true):(k:Int)=bD p l 0:=by rw[h,a6 hk,bD,if_pos zx]
theorem Ke {α:Type}[Inhabited α]{p:α->Bool}{l:List α}{k:Nat}(hk:k<l.length)(h:bD p l 0=bD p (l.drop k) k)(a:p (nx l k)=false):bD p l 0=bD p (l.drop (k+1)) ((k+1:Nat):Int):=by rw[h,a6 hk,bD,if_neg zx];rfl
theorem Eg {α:Type}{p:α->Bool}{l:List α}{k:Nat}(hk: ¬k<l.length)(h:bD p l 0=bD p (l.drop k) k):(-1:Int)=bD p l 0:=by rw[h,bn zz,bD]
theorem EV {α:Type}(p:α->Bool): ∀(l:List α) (k:Nat),decide (bD p l k>=0)=l.any p
 |[],_=>rfl
 |x::l,k=>by
  rw[bD,cA]
  split
  ·rename_i h;rw[h];simp
  ·rename_i h;rw[show ((k:Int)+1)=((k+1:Nat):Int)from zz,EV p l (k+1)];simp [h]
theorem Uq (l:List Wd)(g:Nat)(a:List AV)(p:Wd->Bool)(c:l.length<=9223372036854775807)(h: ∀x∈l,Ev ad g (bg x::a) (B (p x))):Ev ad 78 [strs l,.fn (.func g) [] a] (I (bD p l 0)):=by
 refine dV S78.ok (kh []) (lh [(0,{n:=l.length,E:=λk=>[(0,strs l),(1,.fn (.func g) [] a),(7,I l.length),(8,I k)],I:=λk=>bD p l 0=bD p (l.drop k) k,K:=λk=>[(14,[.i (.cells [bg (nx l k)])]),(16,[.i (.ret (B (p (nx l k))))])]})]) ?_;repeat' first|apply aP|apply aO|apply aN|apply aw|apply ap|(intro b;(try simp only[nL]at b);(try contradiction))
 all_goals try first|exact fo _|exact⟨h _ (fE zy)⟩|exact⟨rfl,As zy zy zy⟩|exact⟨Ke zy zy zy⟩|exact⟨rfl,Eg zy zy⟩|exact fi _
theorem Uh (l:List DX)(g:Nat)(a:List AV)(p:DX->Bool)(c:l.length<=9223372036854775807)(h: ∀x∈l,Ev ad g (.agg x.enc::a) (B (p x))):Ev ad 316 [uP l,.fn (.func g) [] a] (I (bD p l 0)):=by
 refine dV agU.ok (kh []) (lh [(0,{n:=l.length,E:=λk=>[(0,uP l),(1,.fn (.func g) [] a),(7,I l.length),(8,I k)],I:=λk=>bD p l 0=bD p (l.drop k) k,K:=λk=>[(14,[.i (.cells (nx l k).enc)]),(16,[.i (.ret (B (p (nx l k))))])]})]) ?_;repeat' first|apply aP|apply aO|apply aN|apply aw|apply ap|(intro b;(try simp only[nL]at b);(try contradiction))
 all_goals try first|exact fo _|exact⟨h _ (fE zy)⟩|exact⟨rfl,As zy zy zy⟩|exact⟨Ke zy zy zy⟩|exact⟨rfl,Eg zy zy⟩|exact fi _
abbrev cU (a:cE)(w:AV):List AV:=a.enc++[w]
abbrev ck (b:Nat)(a:cE)(w:AV):Nat×cP:=(b,.cells 80 (cU a w))
theorem PG (l:List Wd)(g:Nat)(a:List AV)(p:Wd->Bool)(b:l.length<=9223372036854775807)(h: ∀x∈l,Ev ad g (bg x::a) (B (p x))):Ev ad 38 [strs l,.fn (.func g) [] a] (B (l.any p)):=by have e:=EV p l 0;rw[<-e];exact gA S38.ok [(7,[.ev (Uq l g a p b h)])] []
theorem RX (l:List DX)(g:Nat)(a:List AV)(p:DX->Bool)(b:l.length<=9223372036854775807)(h: ∀x∈l,Ev ad g (.agg x.enc::a) (B (p x))):Ev ad 246 [uP l,.fn (.func g) [] a] (B (l.any p)):=by have e:=EV p l 0;rw[<-e];exact gA afv.ok [(7,[.ev (Uh l g a p b h)])] []
theorem Im (l:List Wd)(hl:l.length<=1000000):Ev ad 38 [strs l,.fn (.func 39) [] []] (B (!l.all dL)):=by have h:=PG l 39 [] (λs=> !dL s) zz (λx _=>Rd x);rwa [List.any_eq_not_all_not,show (λs=> !!dL s)=dL from funext λs=>Bool.not_not _]at h
set_option maxRecDepth 20000 in
theorem HO {a:cE}(w:a.wf){l:List Wd}(hl:l.length<=1000000)(h:dB a l≠0):Ev ad 18 [.agg a.enc,strs l] (.bZ [.v (.pointer none),I (dB a l)]):=by have hc:=tW w;unfold dB at h ⊢;generalize (cZ a).1=c1 at hc;generalize (cZ a).2=b at hc h;exact gA S18.ok [(10,[.ev hc]),(22,[.ev (Im l hl)])] []
set_option maxRecDepth 20000 in
theorem T0 {a:cE}(w:a.wf){l:List Wd}(hl:l.length<=1000000)(h:dB a l=0):yg ad 18 [.agg a.enc,strs l] [] (λb=>.bZ [.po b 0,I 0]) (λb=>[ck b a (.v (.slice none 0 0))]):=by
 have hc:=tW w;unfold dB at h;generalize (cZ a).1=c1 at hc;generalize (cZ a).2=d at hc h;refine yg.vc S18.ok (kh [(10,[.ev hc]),(22,[.ev (Im l hl)]),(25,[.sh])]) (lh []) ?_;repeat' first|apply aP|apply aO|apply aN|apply aw|apply ap|(intro c;(try simp only[nL]at c);(try contradiction))
 all_goals try exact fi _
 exact⟨⟨c,an _,⟨zw⟩,⟨zq⟩,⟨rfl⟩,⟨rfl⟩,⟨rfl,rfl⟩,trivial⟩⟩
def eb (e:Int):Prop:=0<=e/\e<=15
theorem vG {e:Int}(h:eb e):(Lit.int .i64 e).wf=true:=qN (by have:=h.1;omega) (by have:=h.2;omega)
theorem fq {f:Nat->Int}(h: ∀i,eb (f i)): ∀m k,eb (aA f m k).2
 |0,_=>show eb 0 from⟨zq,zq⟩
 |m+1,k=>by
  rw[aA]
  split
  ·exact fq h m _
  ·exact h k
theorem RR {f:Nat->Int}(h: ∀i,eb (f i))(n a:Nat):eb (cL f n a).2:=by
 unfold cL;split
 ·exact⟨zq,zq⟩
 ·exact fq h _ _
section
variable (l:List Wd) (p:Part) (ps:List Part) (fs:List Form) (i:Nat) (s:Shelf) (f:Nat->Bool) (e:Int) (es:List qh) (d:kK) (c:lH) (m:iX) (t:aX) (x:eY) (b:dv) (n:Int) (ls:List bz) (y:ry)
theorem ef:eb (cG l):=by
 unfold cG;repeat' split
 all_goals exact⟨zq,zq⟩
theorem RU:eb (sS p):=by
 unfold sS;repeat' split
 all_goals first|exact⟨zq,zq⟩|exact ef _
theorem NI:eb (nR ps i):=by
 unfold nR;repeat' split
 all_goals first|exact⟨zq,zq⟩|exact(by apply RU)
theorem Rw:eb (kN fs i):=by
 unfold kN;repeat' split
 all_goals first|exact⟨zq,zq⟩|exact fq (λ_=>by apply NI) _ _
theorem Dv:eb (eD s).2.2:=by
 unfold eD;repeat' split
 all_goals first|exact⟨zq,zq⟩|exact fq (λ_=>by apply Rw) _ _
theorem Sl:eb (eR f e es i):=by
 unfold eR;repeat' split
 all_goals first|exact⟨zq,zq⟩|exact ef _
theorem CU:eb (dH d).2.2:=by
 unfold dH;repeat' split
 all_goals first|exact⟨zq,zq⟩|exact fq (λ_=>by apply Sl) _ _
theorem CY:eb (eA l i):=by
 unfold eA;repeat' split
 all_goals first|exact⟨zq,zq⟩|exact ef _
theorem UO:eb (wD c i):=by
 unfold wD;repeat' split
 all_goals first|exact⟨zq,zq⟩|exact ef _
theorem VQ:eb (wW c i):=by
 unfold wW;repeat' split
 all_goals first|exact⟨zq,zq⟩|exact ef _
theorem DE:eb (fc c).2.2:=by
 unfold fc;repeat' split
 all_goals first|exact⟨zq,zq⟩|exact fq (λ_=>by apply CY) _ _|exact fq (λ_=>by apply UO) _ _|exact fq (λ_=>by apply VQ) _ _
theorem V8:eb (vr m i):=by
 unfold vr;repeat' split
 all_goals first|exact⟨zq,zq⟩|exact ef _
theorem UJ:eb (wF m i):=by
 unfold wF;repeat' split
 all_goals first|exact⟨zq,zq⟩|exact ef _
theorem U5:eb (vY m i):=by
 unfold vY;repeat' split
 all_goals first|exact⟨zq,zq⟩|exact ef _
theorem DY:eb (eK m).2.2:=by grind [eK,RR,CY,V8,UJ,U5]
theorem Da (l:List Int):eb (gQ m e l):=by
 unfold gQ;repeat' split
 all_goals first|exact⟨zq,zq⟩|apply DY
theorem Eb:eb (eC n ls i):=by
 unfold eC;repeat' split
 all_goals first|exact⟨zq,zq⟩|exact ef _
theorem Jn:eb (eH b i):=by
 unfold eH;repeat' split
 all_goals first|exact⟨zq,zq⟩|exact fq (λ_=>by apply Eb) _ _
theorem Ih:eb (dR b i):=by
 unfold dR;repeat' split
 all_goals first|exact⟨zq,zq⟩|exact ef _
theorem Rj:eb (check b).2.2:=by
 unfold check;repeat' split
 all_goals first|exact⟨zq,zq⟩|exact fq (λ_=>by apply Jn) _ _|exact fq (λ_=>by apply Ih) _ _
theorem Lp:eb (qc t x n):=by
 unfold qc;repeat' split
 all_goals first|exact⟨zq,zq⟩|exact ef _
theorem TY:eb (E2 t y):=by
 unfold E2;repeat' split
 all_goals first|exact⟨zq,zq⟩|exact ef _
theorem Ta:eb (lC t i):=by
 unfold lC;repeat' split
 all_goals first|exact⟨zq,zq⟩|exact(by apply Lp)
theorem St:eb (lG t i):=by
 unfold lG;repeat' split
 all_goals first|exact⟨zq,zq⟩|exact(by apply TY)
theorem yj:eb (iQ t).2.2:=by
 unfold iQ;repeat' split
 all_goals first|exact⟨zq,zq⟩|apply Rj|exact fq (λ_=>by apply Ta) _ _|exact fq (λ_=>by apply St) _ _
theorem OG:eb (gq t).2.2:=by
 have h:=yj t;unfold gq iv;repeat' split
 all_goals first|exact⟨zq,zq⟩|exact(show eb 0 from⟨zq,zq⟩)|exact h
theorem Vd (a:cE)(j:Nat):eb (iL a j):=by
 unfold iL;split
 ·apply Dv
 ·apply yj
 ·apply CU
 ·apply DY
 ·apply DE
 ·split
  ·exact⟨zq,zq⟩
  ·exact fq (λi=>by unfold OR;(repeat' split);all_goals exact⟨zq,zq⟩) _ _
 ·split
  ·exact⟨zq,zq⟩
  ·exact fq (λi=>by unfold Ot;(repeat' split);all_goals first|exact⟨zq,zq⟩|apply ef) _ _
 ·split<;>exact⟨zq,zq⟩
 ·apply OG
 ·apply Da
 ·exact⟨zq,zq⟩
theorem CZ (a:cE):eb (cZ a).2:=by
 unfold cZ;split
 ·exact⟨zq,zq⟩
 ·exact fq (Vd a) _ _
end
theorem mf {B:Nat}: ∀{l:List Wd},(∀w∈l,w.length<=B)->(oe l).length<=l.length*(B+1)
 |[],_=>by simp [oe]
 |[w],h=>by have:=h w zj;simp [oe];omega
 |w::v::l,h=>by
  have b:=h w zj
  have c:=mf (l:=v::l) (λx hx=>h x (by simp [hx]))
  show (w++32::oe (v::l)).length<=_
  rw[List.length_append,bk,bk (a:=w),Nat.add_mul]
  omega
theorem xS {l:List Int}(hl:l.length<=1000)(h: ∀x∈l,-9223372036854775808<=x/\x<=9223372036854775807):Ev ad 229 [ints l] (bg (mA l)):=by
 refine KC l zz h ?_
 have:=mf (B:=21) (l:=l.map eG) (by
  intro w a
  obtain⟨x,hx,rfl⟩:=b4.1 a
  exact Lib.itoa_length_le x (h x hx).1 (h x hx).2)
 rw[be]at this;omega
theorem M8 {all:List Wd}{l:List Int}(hl:l.length<=1000)(h: ∀i∈l,0<=i/\i.toNat<all.length)(a: ∀w∈all,w.length<=16):Ev ad 237 [strs all,ints l] (bg (uE all l)):=by
 refine Nf all l zz h ?_
 have:=mf (B:=16) (l:=l.map λi=>all.getD i.toNat []) zx
 rw[be]at this;omega
structure cE.OK (a:cE):Prop where
 w:a.wf
 z:(cZ a).2=0
theorem cE.OK.e {a:cE}(h:a.OK): ∀j,j<10->iL a j=0:=by
 have b:=h.z;unfold cZ at b;split at b
 ·rename_i c;exact λj d=>eQ.1 c j d
 ·grind
theorem xI {s:Wd}(h:fl s=true):s.length<=16:=by unfold fl at h;simp at h;omega
variable {a:cE}
theorem cE.OK.li (h:a.OK):a.li.OK:=JX h.w.li (h.e 3 zq)
theorem cE.OK.ch (h:a.OK):a.ch.OK:=FB h.w.ch (h.e 4 zq)
theorem cE.OK.dr (h:a.OK):a.dr.OK:=IK h.w.dr (h.e 2 zq)
theorem cE.OK.sh (h:a.OK):BD a.sh:=xx.1 (h.e 0 zq)
theorem cE.OK.held (h:a.OK):(oP a.li).2=0:=by have:gQ a.li 0 []=0:=h.e 9 zq;unfold oP;rw[if_neg zz]
theorem Ss (b:Nat)(c:AV)(hl:(a.sh.bH).length<=1000000):yg ad 147 [.po b 0] [ck b a c] (λ_=>strs (a.sh.bH.map (·.name))) (λ_=>[ck b a c]):=by
 refine yg.vc adG.ok (kh [(8,[.ev (Tn a.sh.bH 218 [] (·.name) hl λx _=>O8 x)])]) (lh []) ?_;repeat' first|apply aP|apply aO|apply aN|apply aw|apply ap|(intro d;(try simp only[nL]at d);(try contradiction))
 all_goals try exact fi _
 exact⟨⟨0,an _,⟨rfl,rfl⟩⟩⟩
theorem Oq (b:Nat)(c:AV)(hl:(a.ch.pe).length<=1000000):yg ad 148 [.po b 0] [ck b a c] (λ_=>strs (a.ch.pe)) (λ_=>[ck b a c]):=by
 refine yg.vc agI.ok (kh []) (lh []) ?_;repeat' first|apply aP|apply aO|apply aN|apply aw|apply ap|(intro d;(try simp only[nL]at d);(try contradiction))
 all_goals try exact fi _
 exact⟨⟨0,an _,⟨rfl,rfl⟩⟩⟩
theorem N1 (b:Nat)(c:AV)(hl:(a.dr.hs).length<=1000000):yg ad 149 [.po b 0] [ck b a c] (λ_=>strs (a.dr.hs.map (·.nm))) (λ_=>[ck b a c]):=by
 refine yg.vc ado.ok (kh [(8,[.ev (RJ a.dr.hs 220 [] (·.nm) hl λx _=>IZ x)])]) (lh []) ?_;repeat' first|apply aP|apply aO|apply aN|apply aw|apply ap|(intro d;(try simp only[nL]at d);(try contradiction))
 all_goals try exact fi _
 exact⟨⟨0,an _,⟨rfl,rfl⟩⟩⟩
theorem MN (b:Nat)(c:AV)(hl:(a.li.su).length<=1000000):yg ad 150 [.po b 0] [ck b a c] (λ_=>strs (a.li.su.map (·.nm))) (λ_=>[ck b a c]):=by
 refine yg.vc agd.ok (kh [(8,[.ev (Qk a.li.su 222 [] (·.nm) hl λx _=>Py x)])]) (lh []) ?_;repeat' first|apply aP|apply aO|apply aN|apply aw|apply ap|(intro d;(try simp only[nL]at d);(try contradiction))
 all_goals try exact fi _
 exact⟨⟨0,an _,⟨rfl,rfl⟩⟩⟩
theorem E5 (b:Nat)(c:AV)(hl:(a.li.cl).length<=1000000):yg ad 151 [.po b 0] [ck b a c] (λ_=>strs (a.li.cl)) (λ_=>[ck b a c]):=by
 refine yg.vc af6.ok (kh []) (lh []) ?_;repeat' first|apply aP|apply aO|apply aN|apply aw|apply ap|(intro d;(try simp only[nL]at d);(try contradiction))
 all_goals try exact fi _
 exact⟨⟨0,an _,⟨rfl,rfl⟩⟩⟩
abbrev uO (b:Nat):Heap->Prop:=λh=> ∃cs,cs.length=27/\h=[(b,.cells 80 cs)]
theorem dT {b:Nat}{cs:List AV}{h:Heap}(e:h=[])(hc:cs.length=27): ∃g,uO b g/\g.Sublist (wc [(b,.cells 80 cs)] 0 0 h):=by subst e;exact⟨_,⟨cs,hc,rfl⟩,an _⟩
theorem dj {b:Nat}{x:Nat×cP}{h:Heap}(e:uO b h): ∃g,uO b g/\g.Sublist (wc [x] 0 1 h):=⟨h,e,by simp [wc]⟩
theorem Db {b:Nat}{cs:List AV}{y:Nat×cP}{h:Heap}(e:h=[])(hc:cs.length=27): ∃g,uO b g/\g.Sublist (wc [(b,.cells 80 cs),y] 0 0 h):=by subst e;exact⟨_,⟨cs,hc,rfl⟩,(bm _).cons_cons _⟩
def iM.is:iM->Bool
 | .inl _=>false
 | .inr _=>true
def iM.Zf (a:cE):iM->cE
 | .inl _=>a
 | .inr x=>x.1
def iM.Ze:iM->Wd
 | .inl _=>[]
 | .inr x=>x.2
def iM.err:iM->Int
 | .inl e=>e
 | .inr _=>0
def kM (f:Nat)(a:cE)(ws:List Wd)(n:List Int)(r:iM):Prop:= ∀b,Dm ad f [.po b 0,ints n] [ck b a (strs ws)] r.is (bg r.Ze) [ck b (r.Zf a) (strs ws)] (uw r.err) (uO b)
section
def fnK:Kd->Nat
 | .bH=>147
 | .kV=>148
 | .BL=>149
 | .nt=>150
 |_=>151
def tyK:Kd->Nat
 | .num _=>260
 | .yU _=>264
 | .fresh=>263
 |_=>258
def uK:Kd->Value
 | .num o=>.agg #[.bool o]
 | .yU s=>.string ⟨s.toArray⟩
 | .fresh=>.agg #[]
 |k=>.agg #[.func (.func (fnK k)) #[] #[]]
abbrev xi (k:Kd):Value:=.iface (tyK k) (uK k)
def isC:Kd->Bool
 | .num _| .yU _| .fresh=>false
 |_=>true
theorem ez.fn0 (f:Nat):ez (.agg [.v (.func (.func f) #[] #[])]) (.agg [.fn (.func f) [] []]):=by intro S v h;simp only[aR,aS]at h ⊢;obtain⟨cs,e,c,a,b,rfl,rfl⟩:=h;exact⟨cs,e,_,_,b,⟨[],[],rfl,rfl,rfl⟩,rfl⟩
variable {a:cE} (ok:a.OK)
theorem Ff {k:Kd}(hk:isC k=true){s:Wd}(hs:s≠[]):gY a k s=if bD (λx=>x==s) (oE a k) 0<0 then some (0,4)else some (bD (λx=>x==s) (oE a k) 0,0):=by unfold gY;rw[if_neg hs];cases k<;>first|rfl|cases hk
include ok
theorem RA (k:Kd)(hk:isC k=true)(b:Nat)(ws:List Wd):yg ad (fnK k) [.po b 0] [ck b a (strs ws)] (λ_=>strs (oE a k)) (λ_=>[ck b a (strs ws)]):=by
 cases k with
 |bH=>exact Ss b (strs ws) (by have:=ok.sh.f4;omega)
 |kV=>exact Oq b (strs ws) (by have:=ok.ch.p3;omega)
 |BL=>exact N1 b (strs ws) (by have:=ok.dr.h4;omega)
 |nt=>exact MN b (strs ws) (by have:=ok.li.s5;omega)
 |gT=>exact E5 b (strs ws) (by have:=ok.li.c4;omega)
 |_=>cases hk
theorem SS (k:Kd)(hk:isC k=true)(b:Nat)(ws:List Wd):yg ad 173 [.agg [.fn (.func (fnK k)) [] []],.po b 0] [ck b a (strs ws)] (λ_=>strs (oE a k)) (λ_=>[ck b a (strs ws)]):=by
 have h:=RA ok k hk b ws;refine yg.vc ag2.ok (kh [(8,[.b 0 h])]) (lh []) ?_;repeat' first|apply aP|apply aO|apply aN|apply aw|apply ap|(intro c;(try simp only[nL]at c);(try contradiction))
 all_goals try exact fi _
 exact⟨⟨0,an _,⟨rfl,rfl⟩⟩⟩
omit ok in
theorem Gt (s:Wd)(x:AV):Ev ad 172 [bg s,x] (strs [s]):=by exact gA adv.ok [] []
omit ok in
theorem jn {c d:Bool}(h:c=d):ez (B c) (B d):=by rw[h];exact aU _
omit ok in
theorem TE (l:List Wd)(s:Wd):bD (λx=>s==x) l 0=bD (λx=>x==s) l 0:=by congr 1;funext x;rw[b7,beq_iff_eq,beq_iff_eq];exact eq_comm
omit ok in
theorem pC {s:Wd}(h:s≠[]):ez (B (!((az s.toArray).toList==(az #[]).toList))) (B true):=by
 have:(!((az s.toArray).toList==(az #[]).toList))=true:=by simpa using h
 rw[this];exact aU _
omit ok in
theorem UI:ez (B (!((az #[]).toList==(az #[]).toList))) (B false):=by grind [ez.refl]
def MB (a:cE)(b:Nat)(ws:List Wd)(k:Kd)(s:Wd)(r:Option (Int×Int)):Prop:=Dm ad 90 [.po b 0,.v (xi k),bg s] [ck b a (strs ws)] r.isSome (.bZ [I (r.getD (0,0)).1,I (r.getD (0,0)).2]) [ck b a (strs ws)] (uw 6) (uO b)
theorem yh (b:Nat)(ws:List Wd)(k:Kd)(s:Wd)(hs:s.length<=1000):MB a b ws k s (gY a k s):=by
 have c:=λso=>bR so 6 rfl zq;by_cases e:s=[]
 ·rw[show gY a k s=none by unfold gY;rw[if_pos e]];subst e;unfold MB;refine cq S90.ok (kh [(13,[.u 0 (c false)])]) (lh []) ?_;repeat' first|apply aP|apply aO|apply aN|apply aw|apply ap|(intro d;(try simp only[nL]at d);(try contradiction))
  all_goals try first|exact fo _|exact⟨UI⟩|exact⟨dT zy rfl⟩|exact fi _
 cases hc:isC k with
 |true=>
  have j:=SS ok k hc b ws;have hi:=DZ (oE a k) s;rw[TE]at hi;have p:=vw (λx=>x==s) (oE a k) 0 (Int.le_refl _);rw[Ff hc e];generalize bD (λx=>x==s) (oE a k) 0=i at hi p;unfold MB;rw[show xi k= .iface 258 (.agg #[.func (.func (fnK k)) #[] #[]])by cases k<;>first|rfl|cases hc];by_cases ud:i<0
  ·rw[if_pos ud];refine cq S90.ok (kh [(13,[.u 0 (c true)]),(43,[.b 0 j]),(45,[.ev hi])]) (lh []) ?_;repeat' first|apply aP|apply aO|apply aN|apply aw|apply ap|(intro d;(try simp only[nL]at d);(try contradiction))
   all_goals try first|exact fo _|exact⟨pC e⟩|exact⟨ez.fn0 _⟩|exact fi _
  ·rw[if_neg ud];refine cq S90.ok (kh [(13,[.u 0 (c true)]),(43,[.b 0 j]),(45,[.ev hi])]) (lh []) ?_;repeat' first|apply aP|apply aO|apply aN|apply aw|apply ap|(intro d;(try simp only[nL]at d);(try contradiction))
   all_goals try first|exact fo _|exact⟨pC e⟩|exact⟨ez.fn0 _⟩|exact fi _
 |false=>
  have hd:=Nk s zz;have m:=qz s;unfold MB;cases k with
  |num o=>
   have j:gY a (.num o) s=if o=true/\s=[45]then some (-1,0)else if rH s<0 then none else some (rH s,0):=by unfold gY;rw[if_neg e]
   rw[j];clear j;generalize rH s=v at hd m;cases o with
   |false=>
    rw[if_neg zj];by_cases l:v<0
    ·rw[if_pos l];refine cq S90.ok (kh [(13,[.u 0 (c true)]),(19,[.ev hd]),(20,[.sT 8]),(21,[.i (.at 1)]),(28,[.u 0 (c false)])]) (lh []) ?_;repeat' first|apply aP|apply aO|apply aN|apply aw|apply ap|(intro d;(try simp only[nL]at d);(try contradiction))
     all_goals try first|exact fo _|exact⟨pC e⟩|exact⟨jn (decide_eq_false zz)⟩|exact⟨Db zy rfl⟩|exact fi _
    ·rw[if_neg l];refine cq S90.ok (kh [(13,[.u 0 (c true)]),(19,[.ev hd]),(20,[.sT 8]),(21,[.i (.at 1)]),(28,[.u 0 (c true)])]) (lh []) ?_;repeat' first|apply aP|apply aO|apply aN|apply aw|apply ap|(intro d;(try simp only[nL]at d);(try contradiction))
     all_goals try first|exact fo _|exact⟨pC e⟩|exact⟨jn (decide_eq_true zz)⟩|exact fi _
   |true=>
    by_cases g:s=[45]
    ·rw[if_pos ⟨rfl,g⟩];subst g;refine cq S90.ok (kh [(13,[.u 0 (c true)]),(19,[.ev hd]),(20,[.sT 8]),(21,[.i (.at 1)])]) (lh []) ?_;repeat' first|apply aP|apply aO|apply aN|apply aw|apply ap|(intro d;(try simp only[nL]at d);(try contradiction))
     all_goals try first|exact fo _|exact⟨pC e⟩|exact fi _
    ·rw[if_neg (λh=>g h.2)];by_cases l:v<0
     ·rw[if_pos l];refine cq S90.ok (kh [(13,[.u 0 (c true)]),(19,[.ev hd]),(20,[.sT 8]),(21,[.i (.at 1)]),(28,[.u 0 (c false)])]) (lh []) ?_;repeat' first|apply aP|apply aO|apply aN|apply aw|apply ap|(intro d;(try simp only[nL]at d);(try contradiction))
      all_goals try first|exact fo _|exact⟨pC e⟩|exact⟨jn (decide_eq_false zz)⟩|exact⟨Db zy rfl⟩|exact fi _
     ·rw[if_neg l];refine cq S90.ok (kh [(13,[.u 0 (c true)]),(19,[.ev hd]),(20,[.sT 8]),(21,[.i (.at 1)]),(28,[.u 0 (c true)])]) (lh []) ?_;repeat' first|apply aP|apply aO|apply aN|apply aw|apply ap|(intro d;(try simp only[nL]at d);(try contradiction))
      all_goals try first|exact fo _|exact⟨pC e⟩|exact⟨jn (decide_eq_true zz)⟩|exact fi _
  |yU w=>
   have n:=mq [w] s;rw[show gY a (.yU w) s=if s=w then some (0,0)else none by unfold gY;rw[if_neg e]];by_cases f:s=w
   ·rw[if_pos f];refine cq S90.ok (kh [(13,[.u 0 (c true)]),(34,[.ev (Gt w (.po b 0))]),(36,[.ev n]),(37,[.u 0 (c true)])]) (lh []) ?_;repeat' first|apply aP|apply aO|apply aN|apply aw|apply ap|(intro d;(try simp only[nL]at d);(try contradiction))
    all_goals try first|exact fo _|exact⟨pC e⟩|exact⟨jn (by simp [f])⟩|exact fi _
   ·rw[if_neg f];refine cq S90.ok (kh [(13,[.u 0 (c true)]),(34,[.ev (Gt w (.po b 0))]),(36,[.ev n]),(37,[.u 0 (c false)])]) (lh []) ?_;repeat' first|apply aP|apply aO|apply aN|apply aw|apply ap|(intro d;(try simp only[nL]at d);(try contradiction))
    all_goals try first|exact fo _|exact⟨pC e⟩|exact⟨jn (by simp [f])⟩|exact⟨dT zy rfl⟩|exact fi _
  |fresh=>
   rw[show gY a .fresh s=some (0,0)by unfold gY;rw[if_neg e]];refine cq S90.ok (kh [(13,[.u 0 (c true)])]) (lh []) ?_;repeat' first|apply aP|apply aO|apply aN|apply aw|apply ap|(intro d;(try simp only[nL]at d);(try contradiction))
   all_goals try first|exact fo _|exact⟨pC e⟩|exact fi _
  |_=>cases hc
end
section
variable {P:Program}{r:Option Nat}{N:Nat}{env:Env}{H:Heap}{D:List Nat}{dst:Option Nat}{K:Env->Heap->List Nat->Prop}
theorem aF.Si {x:Operand}{T A t:TypeId}{u zv:Value}(hx:bu env x= .v (.iface t u))(c:t≠A)(hA:uU P A=true)(i:(P.info? A).bind (·.zero)=some zv)(k:K (ct env dst (.bZ [.v zv,B false])) H D):
  aF P r N (.zn x T A true) dst env H D K:=by
 have hd: ∃d,P.underlying A=some d/\ ∀m,d≠.interface m:=by
  unfold uU at hA
  split at hA
  ·cases hA
  ·grind
  ·cases hA
 obtain⟨d,g,hd⟩:=hd
 refine aF.pure rfl zj (λo b C a w S L hs=>⟨.tuple #[zv,.bool false],?_,by
  simp only[aR]
  exact⟨[zv,.bool false],rfl,by simp only[aS];exact⟨zv,_,rfl,by simp [aR],.bool false,[],rfl,by simp [aR],rfl⟩⟩⟩) k
 have f:=hs.int hx
 have h:=B7 i w
 cases b with
 |zn e=>cases d<;>first|exact absurd rfl (hd _)|simp [execOp,e,f,Instr.typeAssert,underlying,g,c,h]
end
def FU:Kd->Wd
 | .yU s=>s
 |_=>[]
def YY:Kd->Bool
 | .yU _=>true
 |_=>false
def H8:Option Kd->Value
 |none=>.nilIface
 |some k=>xi k
theorem SF (k:Kd){x:Operand}{env:Env}{H:Heap}{t:Nat}(hx:bu env x= .v (xi k)): ∀(r:Option Nat) (N:Nat) (D:List Nat),Q1 ad r N (.zn x 187 264 true) (some t) env H D [(t,.bZ [bg (FU k),B (YY k)])]:=by
 intro r N D;refine Q1.of λK h=>?_;have z:(ad.info? 264).bind (·.zero)=some (.string ⟨#[]⟩):=zw
 have c:uU ad 264=true:=zw
 cases k with
 |yU s=>exact AR (p:=.bZ [bg s,B true]) (c:=uU ad 264) (by unfold Xn;dsimp only;rw[hx];rfl) c h
 |num o=>exact aF.Si (show bu env x= .v (.iface 260 _)from hx) zq c z h
 |fresh=>exact aF.Si (show bu env x= .v (.iface 263 _)from hx) zq c z h
 |_=>exact aF.Si (show bu env x= .v (.iface 258 _)from hx) zq c z h
theorem MY (m:Option Kd){x:Operand}{env:Env}{H:Heap}{t:Nat}(hx:bu env x= .v (H8 m)): ∀(r:Option Nat) (N:Nat) (D:List Nat),Q1 ad r N (.nI false 187 x (.const .nilIface)) (some t) env H D [(t,B (!m.isSome))]:=by
 intro r N D;refine Q1.of λK h=>?_;have c:sF ad 187=true:=zw
 cases m with
 |none=>exact AR (p:=B true) (c:=sF ad 187) (by unfold Xn;dsimp only;rw[hx];rfl) c h
 |some k=>exact AR (p:=B false) (c:=sF ad 187) (by unfold Xn;dsimp only;rw[hx];rfl) c h
instance:Inhabited Kd:=⟨.fresh⟩
abbrev bf.enc (b:Nat)(f:Nat->Nat)(x:bf):List AV:=[.sl 1 (x.ws.map λk=>[.v (xi k)]),.v (H8 x.more),.fn (.func (f x.id)) [.po b 0] []]
def EI (x:bf)(own:List Wd)(i:Nat):Bool:=match x.ws[i]? with|some (.yU s)=>own[i]? ==some s|_=>true
theorem EA {x:bf}{own:List Wd}{i:Nat}(h:i<x.ws.length)(a:i<own.length):EI x own i=(!YY (nx x.ws i)||FU (nx x.ws i)==nx own i):=by unfold EI;rw[mX h,mX a];cases nx x.ws i<;>first|rfl|(rw[b7];simp [YY,FU];exact eq_comm)
structure wI (x:bf)(own:List Wd)(k:Nat):Prop where
 h: ∀i,i<k->EI x own i=true
theorem wI.on {x:bf}{own:List Wd}{k:Nat}(h:wI x own k)(hk:EI x own k=true):wI x own (k+1):=⟨λi hi=>if e:i=k then e▸hk else h.h i zz⟩
theorem B2 (x:bf)(own:List Wd):dF x own=(decide (x.ws.length<=own.length)&&(decide (own.length=x.ws.length)||x.more.isSome)&&(cr x.ws.length).all (EI x own)):=rfl
theorem L8 {x:bf}{own:List Wd}{k:Nat}(a: ¬own.length<x.ws.length)(hk:k<x.ws.length)(b:EI x own k=false):false=dF x own:=by grind [B2]
theorem HZ {x:bf}{own:List Wd}(h:own.length<x.ws.length):dF x own=false:=by unfold dF;rw[show decide (x.ws.length<=own.length)=false from decide_eq_false zz];rfl
theorem CM {x:bf}{own:List Wd}(h:x.ws.length<own.length)(hm:x.more.isSome=false):dF x own=false:=by unfold dF;rw[show decide (own.length=x.ws.length)=false from decide_eq_false zz,hm];simp
theorem Gv {x:bf}{own:List Wd}{k:Nat}(a: ¬own.length<x.ws.length)(h1:own.length=x.ws.length\/x.more.isSome=true)(h:wI x own k)(hk: ¬k<x.ws.length):true=dF x own:=by rw[B2,List.all_eq_true.2 (λi hi=>h.h i zx),decide_eq_true (show x.ws.length<=own.length from zz)];rcases h1 with h1|h1<;>simp [h1]
theorem wI.zero {x:bf}{own:List Wd}:wI x own 0:=⟨λi hi=>absurd hi (Nat.not_lt_zero i)⟩
theorem SC {x:bf}{own:List Wd}{k:Nat}(c: ¬own.length<x.ws.length)(hk:k<x.ws.length)(b:YY (nx x.ws k)=true)(a: ¬(az (FU (nx x.ws k)).toArray).toList=(az (nx own k).toArray).toList):EI x own k=false:=by rw[EA hk zz,b];simpa using a
theorem Qa {x:bf}{own:List Wd}{k:Nat}(a: ¬own.length<x.ws.length)(hk:k<x.ws.length)(b:(az (FU (nx x.ws k)).toArray).toList=(az (nx own k).toArray).toList):EI x own k=true:=by
 rw[EA hk zz];have:FU (nx x.ws k)=nx own k:=by simp_all
 rw[this];simp
theorem Qt {x:bf}{own:List Wd}{k:Nat}(b: ¬own.length<x.ws.length)(hk:k<x.ws.length)(a:YY (nx x.ws k)=false):EI x own k=true:=by rw[EA hk zz,a];rfl
set_option maxRecDepth 20000 in
set_option maxHeartbeats 4000000 in
theorem R6 (b:Nat)(f:Nat->Nat)(x:bf)(own:List Wd)(hx:x.ws.length<=1000)(d:own.length<=1000):Ev ad 89 [.agg (x.enc b f),strs own] (B (dF x own)):=by
 obtain⟨a,more,id⟩:=x;cases more with
 |none=>
  refine Ev.vc S89.ok (kh [(25,[.i (.op (B (!(none:Option Kd).isSome)))])]) (lh [(0,{n:=a.length,E:=λk=>[(1,strs own),(29,.sl 1 (a.map λk=>[.v (xi k)])),(30,I a.length),(31,I k)],I:=λk=>wI (⟨a,none,id⟩:bf) own k,K:=λk=>[(34,[.i (.cells [.v (xi (nx a k))])]),(38,[.i (.op (.bZ [bg (FU (nx a k)),B (YY (nx a k))]))]),(46,[.i (.cells [bg (nx own k)])])]})]) ?_;repeat' first|apply VW.st|apply VO.st|apply VD.st|apply VS.step|apply ap|(intro c;(try simp only[nL]at c);(try contradiction))
  all_goals try first|exact fo _|exact⟨(HZ (x:=(⟨a,none,id⟩:bf)) zy).symm⟩|exact⟨(CM (x:=(⟨a,none,id⟩:bf)) zy rfl).symm⟩|exact⟨wI.zero⟩|exact⟨SF _ rfl⟩|exact⟨decide_eq_true (by simp only[be];omega),MY none rfl⟩|exact⟨zy,zz,wu zz⟩|exact⟨L8 (x:=(⟨a,none,id⟩:bf)) zy zy (SC (x:=(⟨a,none,id⟩:bf)) zy zy zy zy)⟩|exact⟨wI.on zy (Qa (x:=(⟨a,none,id⟩:bf)) zy zy zy)⟩|exact⟨wI.on zy (Qt (x:=(⟨a,none,id⟩:bf)) zy zy zy)⟩|exact⟨Gv (x:=(⟨a,none,id⟩:bf)) zy (.inl (show own.length=a.length from zz)) zy zy⟩|exact fi _
  done
 |some m=>
  refine Ev.vc S89.ok (kh [(25,[.i (.op (B (!((some m):Option Kd).isSome)))])]) (lh [(0,{n:=a.length,E:=λk=>[(1,strs own),(29,.sl 1 (a.map λk=>[.v (xi k)])),(30,I a.length),(31,I k)],I:=λk=>wI (⟨a,(some m),id⟩:bf) own k,K:=λk=>[(34,[.i (.cells [.v (xi (nx a k))])]),(38,[.i (.op (.bZ [bg (FU (nx a k)),B (YY (nx a k))]))]),(46,[.i (.cells [bg (nx own k)])])]})]) ?_;repeat' first|apply VW.st|apply VO.st|apply VD.st|apply VS.step|apply ap|(intro c;(try simp only[nL]at c);(try contradiction))
  all_goals try first|exact fo _|exact⟨(HZ (x:=(⟨a,(some m),id⟩:bf)) zy).symm⟩|exact⟨(CM (x:=(⟨a,(some m),id⟩:bf)) zy rfl).symm⟩|exact⟨wI.zero⟩|exact⟨SF _ rfl⟩|exact⟨decide_eq_true (by simp only[be];omega),MY (some m) rfl⟩|exact⟨zy,zz,wu zz⟩|exact⟨L8 (x:=(⟨a,(some m),id⟩:bf)) zy zy (SC (x:=(⟨a,(some m),id⟩:bf)) zy zy zy zy)⟩|exact⟨wI.on zy (Qa (x:=(⟨a,(some m),id⟩:bf)) zy zy zy)⟩|exact⟨wI.on zy (Qt (x:=(⟨a,(some m),id⟩:bf)) zy zy zy)⟩|exact⟨Gv (x:=(⟨a,(some m),id⟩:bf)) zy (.inr rfl) zy zy⟩|exact fi _
  done
open Go.MapKept
abbrev vH (w:Wd):Value:=.string ⟨w.toArray⟩
theorem Zg: ∃d,gO ad 9 (IsKey d)/\ ∀w:Wd,IsKey d (vH w):=by refine⟨_,gO.plain Tryz.underlying9,λw=>?_⟩;trivial
abbrev bL (l:List (Wd×AV)):List (Value×AV):=l.map λx=>(vH x.1,x.2)
theorem nZ {d:TypeDesc}(h: ∀w:Wd,IsKey d (vH w))(l:List (Wd×AV)): ∀e∈bL l,IsKey d e.1:=by intro e he;obtain⟨x,_,rfl⟩:=b4.1 he;exact h _
theorem ZU {v w:Wd}(h:vH v=vH w):v=w:=by injection h with h;injection h with h;exact List.toArray_inj h
theorem zI {l:List (Wd×AV)}{w:Wd}(h:(l.map (·.1)).contains w=false): ∀e∈bL l,e.1≠vH w:=zx
theorem Lx (l:List (Wd×AV))(w:Wd): ∃ks,gO ad 9 ks/\ks (vH w)/\ ∀e∈bL l,ks e.1:=by obtain⟨d,b,a⟩:=Zg;exact⟨_,b,a w,nZ a l⟩
theorem P9 {l:List (Wd×AV)}{w:Wd}{x y:Operand}{env:Env}{H:Heap}{n g t:Nat}(hx:bu env x= .mo g)(c:H[n]? =some (g,.map (bL l)))(hy:bu env y=bg w)(h:(l.map (·.1)).contains w=false):
  ∀(r:Option Nat) (N:Nat) (D:List Nat),Q1 ad r N (.lookup 182 x y false 9 181 [.slice none 0 0]) (some t) env H D [(t,.nil)]:=by
 intro r N D
 refine Q1.of λK k=>?_
 obtain⟨d,b,a⟩:=Zg
 exact aF.nD b (zv:=.slice none 0 0) zw hx c (kv:=vH w) (by rw[hy];rfl) (a w) (nZ a l) (.none (zI h)) k
theorem QV {l:List (Wd×AV)}{w:Wd}{j:Nat}{p:AV}{x y:Operand}{env:Env}{H:Heap}{n g t:Nat}(hx:bu env x= .mo g)(c:H[n]? =some (g,.map (bL l)))(hy:bu env y=bg w)(h:l[j]? =some (w,p)):
  ∀(r:Option Nat) (N:Nat) (D:List Nat),Q1 ad r N (.lookup 182 x y false 9 181 [.slice none 0 0]) (some t) env H D [(t,p)]:=by
 intro r N D
 refine Q1.of λK k=>?_
 obtain⟨d,b,a⟩:=Zg
 exact aF.nD b (zv:=.slice none 0 0) zw hx c (kv:=vH w) (by rw[hy];rfl) (a w) (nZ a l) (.some (j:=j) (p:=p) (by simp [h])) k
abbrev xm (m:Option Kd)(fn a:Nat)(ws:List Kd):List AV:=[.sl 1 (ws.map λk=>[.v (xi k)]),.v (H8 m),.fn (.func fn) [.po a 0] []]
theorem jU (c g:Nat)(l:List (Wd×AV))(w:Wd)(m:Option Kd)(fn:Nat)(d:Nat)(ws:List Kd)(h:(l.map (·.1)).contains w=false):
  AN ad 152 [bg w,.v (H8 m),.fn (.func fn) [.po d 0] [],.sl 1 (ws.map λk=>[.v (xi k)]),.po c 0] [(c,.cells 182 [.mo g]),(g,.map (bL l))]
   (λ_ _=>.bZ []) (λb cap=>[(c,.cells 182 [.mo g]),(g,.map (bL l++[(vH w,.so b 1 cap)])),(b,.arr 190 3 cap [xm m fn d ws])]):=by
 cases m with
 |none=>
  refine AN.vc ae4.ok (kh [(13,[.i (.op .nil)]),(60000,[.sT 19,.up 1 none])]) (lh []) ?_
  repeat' first|apply aP|apply aO|apply aN|apply aw|apply ap|(intro a;(try simp only[nL]at a);(try contradiction))
  all_goals try first|exact fo _|exact⟨P9 (n:=1) rfl rfl rfl h⟩|exact⟨rfl,Lx l w,zI h,rfl⟩|exact⟨⟨_,_,an _,⟨zw⟩,⟨zq⟩,⟨rfl⟩,trivial⟩⟩|exact fi _
  done
 |some k=>
  refine AN.vc ae4.ok (kh [(13,[.i (.op .nil)]),(60000,[.sT 19,.up 1 none])]) (lh []) ?_
  repeat' first|apply aP|apply aO|apply aN|apply aw|apply ap|(intro a;(try simp only[nL]at a);(try contradiction))
  all_goals try first|exact fo _|exact⟨P9 (n:=1) rfl rfl rfl h⟩|exact⟨rfl,Lx l w,zI h,rfl⟩|exact⟨⟨_,_,an _,⟨zw⟩,⟨zq⟩,⟨rfl⟩,trivial⟩⟩|exact fi _
  done
theorem Jr (c g:Nat)(l:List (Wd×AV))(w:Wd)(m:Option Kd)(fn:Nat)(f:Nat)(ws:List Kd)(j b cap:Nat)(es:List (List AV))(he:es.length<=1000)(h:l[j]? =some (w,.so b es.length cap)):
  AN ad 152 [bg w,.v (H8 m),.fn (.func fn) [.po f 0] [],.sl 1 (ws.map λk=>[.v (xi k)]),.po c 0] [(c,.cells 182 [.mo g]),(g,.map (bL l)),(b,.arr 190 3 cap es)]
   (λ_ _=>.bZ []) (λb cap=>[(c,.cells 182 [.mo g]),(g,.map ((bL l).set j (vH w,.so b (es++[xm m fn f ws]).length cap))),(b,.arr 190 3 cap (es++[xm m fn f ws]))]):=by
 have s:(bL l)[j]? =some (vH w,.so b es.length cap):=by simp [h]
 cases m with
 |none=>
  refine bq ae4.ok (aJ.HN xr ?_)
  refine gp.Fo (Hs:=λx=>bif x then[(c,.cells 182 [.mo g]),(g,.map (bL l))]else[(c,.cells 182 [.mo g]),(g,.map (bL l)),(b,.arr 190 3 cap es)]) (q:=10) (n:=11) rfl
   (.xq [.at 0] zq rfl rfl rfl rfl rfl <| .xq [] zq rfl rfl rfl trivial trivial <| .xq [.at 0] zq rfl rfl rfl rfl rfl <| .xq [] zq rfl rfl rfl trivial trivial <|
     .cons [13,11,12] true false zq (λ_=>QV (n:=1) rfl rfl rfl h _ _ _) (λh=>by cases h) rfl rfl <|
     .xq [] zq rfl rfl rfl trivial trivial <| .xq [] zq rfl rfl rfl trivial trivial <| .xq [] zq rfl rfl rfl trivial trivial <| .xq [] zq rfl rfl rfl trivial trivial <|
     .xq [.bW] zq rfl rfl rfl rfl rfl <|
     .chg (W:=[(13,.any),(19,.aI 190 3 (es++[xm none fn f ws]))]) [19,13,18] rfl ⟨rfl,aF.pre (bB.jT (i:=2) (t:=13) rfl rfl) (aF.append (ys:=[xm none fn f ws]) rfl (.inl rfl) ?_ ?_ ⟨by rw[dX];rfl,rfl,rfl⟩)⟩ rfl rfl <| .nil) zw zw zw zw (.inl (by show 10<11;decide)) ?_
  ·grind
  ·grind
  ·refine(gp.Qz _ _ _ _ _ _).share (t:=19) rfl (λe=>absurd e (a7 _ (b6 _ _))) λp a=>?_
   refine(gp.Qz _ _ _ _ _ _).lr (cd (bx (l₁:=[_]))) ?_
   obtain⟨d,r,o⟩:=Zg
   refine gp.op rfl zw zw (aF.iI (n:=1) r rfl rfl rfl (o w) (nZ o l) (.some s) rfl rfl ?_)
   exact gp.end zw ⟨.inl rfl,_,.bZ [],_,rfl,.many zq trivial,⟨p,a,rfl,rfl⟩,an _⟩
 |some k=>
  refine bq ae4.ok (aJ.HN xr ?_)
  refine gp.Fo (Hs:=λx=>bif x then[(c,.cells 182 [.mo g]),(g,.map (bL l))]else[(c,.cells 182 [.mo g]),(g,.map (bL l)),(b,.arr 190 3 cap es)]) (q:=10) (n:=11) rfl
   (.xq [.at 0] zq rfl rfl rfl rfl rfl <| .xq [] zq rfl rfl rfl trivial trivial <| .xq [.at 0] zq rfl rfl rfl rfl rfl <| .xq [] zq rfl rfl rfl trivial trivial <|
     .cons [13,11,12] true false zq (λ_=>QV (n:=1) rfl rfl rfl h _ _ _) (λh=>by cases h) rfl rfl <|
     .xq [] zq rfl rfl rfl trivial trivial <| .xq [] zq rfl rfl rfl trivial trivial <| .xq [] zq rfl rfl rfl trivial trivial <| .xq [] zq rfl rfl rfl trivial trivial <|
     .xq [.bW] zq rfl rfl rfl rfl rfl <|
     .chg (W:=[(13,.any),(19,.aI 190 3 (es++[xm (some k) fn f ws]))]) [19,13,18] rfl ⟨rfl,aF.pre (bB.jT (i:=2) (t:=13) rfl rfl) (aF.append (ys:=[xm (some k) fn f ws]) rfl (.inl rfl) ?_ ?_ ⟨by rw[dX];rfl,rfl,rfl⟩)⟩ rfl rfl <| .nil) zw zw zw zw (.inl (by show 10<11;decide)) ?_
  ·grind
  ·grind
  ·refine(gp.Qz _ _ _ _ _ _).share (t:=19) rfl (λe=>absurd e (a7 _ (b6 _ _))) λp a=>?_
   refine(gp.Qz _ _ _ _ _ _).lr (cd (bx (l₁:=[_]))) ?_
   obtain⟨d,r,o⟩:=Zg
   refine gp.op rfl zw zw (aF.iI (n:=1) r rfl rfl rfl (o w) (nZ o l) (.some s) rfl rfl ?_)
   exact gp.end zw ⟨.inl rfl,_,.bZ [],_,rfl,.many zq trivial,⟨p,a,rfl,rfl⟩,an _⟩
def jE (i:Nat):Nat:=[153,154,155,156,157,158,159,160,161,162,163,164,165,166,167,168,169,170].getD i 0
abbrev qj (b:Nat):List (Wd×AV):=uY.map λx=>(x.1,.sl 3 (x.2.map (bf.enc b jE)))
theorem oG (b:Nat):Ev ad 86 [.po b 0] (.mi (bL (qj b))):=by
 refine dV S86.ok (kh [(10,[.sh]),(20,[.sw]),(10010,[.i (.gI 1)]),(19,[.mk]),(2,[.fm 1 174]),(31,[.ba 0 (λx y _ _=>jU x y ((qj b).take 0) Wy (some .fresh) (jE 0) b [.bH,.kV] rfl)]),(40,[.fM 2 1 0,.ba 0 (λx y _ _=>jU x y ((qj b).take 1) WJ (some .fresh) (jE 1) b [.kV] rfl)]),(49,[.fM 2 1 1,.ba 0 (λx y _ _=>jU x y ((qj b).take 2) Wi none (jE 2) b [.kV,.num false] rfl)]),(58,[.fM 2 1 2,.ba 0 (λx y _ _=>jU x y ((qj b).take 3) ZH none (jE 3) b [.kV,.num false] rfl)]),(67,[.fM 2 1 3,.ba 0 (λx y _ _=>jU x y ((qj b).take 4) W4 (some (.num true)) (jE 4) b [.fresh] rfl)]),(74,[.fM 2 1 4,.ba 0 (λx y _ _=>jU x y ((qj b).take 5) Wj none (jE 5) b [.BL] rfl)]),(89,[.fM 2 1 5,.ba 0 (λx y _ _=>jU x y ((qj b).take 6) FW none (jE 6) b [.num false,.num true,.num false,.num false,.num true] rfl)]),(98,[.fM 2 1 6,.ba 0 (λx y _ _=>jU x y ((qj b).take 7) Iu none (jE 7) b [.num false,.num false] rfl)]),(107,[.fM 2 1 7,.ba 0 (λx y _ _=>jU x y ((qj b).take 8) E9 none (jE 8) b [.num false,.num false] rfl)]),(117,[.fM 2 1 8,.ba 0 (λx y _ _=>jU x y ((qj b).take 9) yx none (jE 9) b [.nt,.yU wIs,.gT] rfl)]),(127,[.ba 0 (λx y z c=>Jr x y ((qj b).take 9++[(yx,.so z 1 c)]) yx none (jE 10) b [.nt,.yU VY,.gT] 9 z c [xm none (jE 9) b [.nt,.yU wIs,.gT]] zj rfl)]),(137,[.ba 0 (λx y z c=>Jr x y ((qj b).take 9++[(yx,.so z 2 c)]) yx none (jE 11) b [.nt,.yU Iu,.nt] 9 z c [xm none (jE 9) b [.nt,.yU wIs,.gT],xm none (jE 10) b [.nt,.yU VY,.gT]] zj rfl)]),(147,[.ba 0 (λx y z c=>Jr x y ((qj b).take 9++[(yx,.so z 3 c)]) yx none (jE 12) b [.nt,.yU E9,.nt] 9 z c [xm none (jE 9) b [.nt,.yU wIs,.gT],xm none (jE 10) b [.nt,.yU VY,.gT],xm none (jE 11) b [.nt,.yU Iu,.nt]] zj rfl)]),(154,[.fM 2 1 9,.ba 0 (λx y _ _=>jU x y ((qj b).take 10) WC none (jE 13) b [.num false] rfl)]),(161,[.fM 2 1 10,.ba 0 (λx y _ _=>jU x y ((qj b).take 11) Zz none (jE 14) b [.nt] rfl)]),(165,[.fM 2 1 11,.ba 0 (λx y _ _=>jU x y ((qj b).take 12) WK none (jE 15) b [] rfl)]),(169,[.fM 2 1 12,.ba 0 (λx y _ _=>jU x y ((qj b).take 13) WD none (jE 16) b [] rfl)]),(173,[.fM 2 1 13,.ba 0 (λx y _ _=>jU x y ((qj b).take 14) G5 none (jE 17) b [] rfl)]),(174,[.fM 2 1 14])]) (lh []) ?_;repeat' first|apply aP|apply aO|apply aN|apply aw|apply ap|(intro a;(try simp only[nL]at a);(try contradiction))
 all_goals try first|exact fo _|exact⟨rfl⟩|exact⟨aU _⟩|exact⟨gN _⟩|exact fi _
 done
abbrev V2:List AV:=bI 27 .any
abbrev nP (b b2 c b5 d:Nat)(cs a:List AV)(r:Wd)(e:Int):Heap:=
 [(b,.cells 80 cs),(b2,.cells 69 [.po b 0]),(c,.cells 9 [bg r]),(b5,.cells 52 [I e]),(d,.cells 80 a)]
theorem Qh {x:Int}{T:TypeId}{y:Operand}{env:Env}{H:Heap}{t:Nat}(hy:bu env y= .v (aai x)): ∀(r:Option Nat) (N:Nat) (D:List Nat),Q1 ad r N (.zn y T 179 false) (some t) env H D [(t,.agg [I x])]:=by
 intro r N D;have c:uU ad 179=true:=zw
 exact Q1.of λK h=>AR (p:=.agg [I x]) (c:=uU ad 179) (by unfold Xn;dsimp only;rw[hy];rfl) c h
theorem O6 (b2 a b5 b:Nat)(H:Heap):XJ ad 84 [.po b 0,.po b2 0,.po a 0,.po b5 0] H .returning .returning (·=H):=by
 refine XJ.intro (u:=.returning) S84.ok (VW.h (K:=kh []) (L:=lh []) (i:=0) ?_);repeat' first|apply VO.cons|apply VO.nil|apply VW.seq|apply VW.ops|apply VW.ite|apply VW.skip|apply ap|(intro c;try contradiction)
 all_goals first|exact .inl rfl|exact rfl|(refine Mn.mk ?_;kernel_rfl)|exact⟨_,rfl,an _⟩
theorem Pe (b b2 c b5 d:Nat)(r:Wd)(e x:Int)(a:cE)(ws:List Wd):XJ ad 84 [.po d 0,.po b2 0,.po c 0,.po b5 0] (nP b b2 c b5 d V2 (cU a (strs ws)) r e) (.panicking (uw x)) (jK (.panicking (uw x))).2 (·=nP b b2 c b5 d (cU a (strs ws)) (cU a (strs ws)) [] x):=by
 refine XJ.intro (u:=.panicking (uw x)) S84.ok (VW.h (K:=kh [(8,[.i (.at 1)]),(9,[.i (.at 4)]),(10010,[.i (.gI 0)])]) (L:=lh []) (i:=0) ?_);repeat' first|apply VO.cons|apply VO.nil|apply VW.seq|apply VW.ops|apply VW.ite|apply VW.skip|apply ap|(intro f;try contradiction)
 all_goals try first|exact .inl rfl|exact rfl|exact⟨rfl⟩|(refine Mn.mk ?_;kernel_rfl)|exact⟨_,rfl,an _⟩|(refine Ob.mk ?_;exact pf _)
 refine⟨aJ.HN xr ?_⟩
 refine gp.Fo (Hs:=λy=>bif y then nP b b2 c b5 d (cU a (strs ws)) (cU a (strs ws)) [] e else nP b b2 c b5 d (cU a (strs ws)) (cU a (strs ws)) r e) (q:=3) (n:=4) rfl
  (.xq [] zq rfl rfl rfl trivial trivial <| .cons [12,11] true true zq (λ_=>Qh (x:=x) rfl _ _ _) (λ_=>Qh (x:=x) rfl _ _ _) rfl rfl <| .xq [] zq rfl rfl rfl trivial trivial <|
    .chg (W:=[]) [2] rfl ⟨rfl,aZ (i:=2) (b:=c) rfl rfl rfl rfl rfl rfl (cD 1) ⟨rfl,rfl,rfl⟩⟩ rfl rfl <| .nil) zw zw zw zw zx<|gp.op rfl zw zw (aZ (i:=3) (b:=b5) rfl rfl rfl rfl rfl rfl (cD 1) ?_);exact gp.end zw ⟨.inl rfl,rfl,_,rfl,an _⟩
section
theorem vy (b:Nat)(w:Wd){x y:Operand}{env:Env}{H:Heap}{t:Nat}(hx:bu env x= .mi (bL (qj b)))(hy:bu env y=bg w):
  ∀(r:Option Nat) (N:Nat) (D:List Nat),Q1 ad r N (.lookup 182 x y false 9 181 [.slice none 0 0]) (some t) env H D [(t,.sl 3 ((bG w).map (bf.enc b jE)))]:=by
 intro r N D
 refine Q1.of λK k=>?_
 obtain⟨d,c,a⟩:=Zg
 have z:(ad.info? 181).bind (·.zero)=some (.slice none 0 0):=zw
 cases h:uY.find? (λx=>x.1==w)with
 |none=>
  have hd:bG w=[]:=by unfold bG;rw[h]
  rw[hd]at k
  refine aF.lr (aF.Fg c z hx (kv:=vH w) (by rw[hy];rfl) (a w) (nZ a _) (.none (zI ?_)) ⟨_,_,_,bB.jD (t:=t) 3 (bw _ _ _),?_⟩)
  ·grind
  ·show K (dK (dK env t _) t (.sl 3 [])) H D
   rw[dX];exact k
 |some x=>
  have hd:bG w=x.2:=by unfold bG;rw[h]
  rw[hd]at k
  have f:x.1=w:=zx
  obtain⟨j,e⟩:=a8.1 (List.mem_of_find?_eq_some h)
  refine aF.Fg c z hx (kv:=vH w) (by rw[hy];rfl) (a w) (nZ a _) (.some (j:=j) (p:=.sl 3 (x.2.map (bf.enc b jE))) (by simp [e,f])) k
theorem oi (b:Nat)(x:bf)(own:List Wd)(hx:x.ws.length<=1000)(a:own.length<=1000):Ev ad 88 [.agg (x.enc b jE),.pi [strs own]] (B (dF x own)):=by refine ak S88.ok<|bc [.bW] rfl ⟨⟨rfl,by rcases x with⟨_,_|_,_⟩<;>rfl⟩,trivial⟩<|bc [.ret (B (dF x own))] rfl ⟨R6 b jE x own hx a,trivial⟩<|ab (aB ?_);rfl
theorem qp (b:Nat)(l:List bf)(g:Nat)(a:List AV)(p:bf->Bool)(h: ∀x∈l,Ev ad g (.agg (x.enc b jE)::a) (B (p x))):Ev ad 87 [.sl 3 (l.map (bf.enc b jE)),.fn (.func g) [] a] (I (bD p l 0)):=by refine tU S87.ok (bf.enc b jE) 3 l _ _ rfl (λk x hx C Q K=>?_);refine bc [.cells (x.enc b jE),.ret (B (p x))] rfl ⟨⟨zz,by simp [hx]⟩,h x (bA hx),trivial⟩<|ae ?_ K;exact eL
variable (a:cE) (x:bf) (own:List Wd)
def rX (i:Nat):Option (Int×Int):=gY a (gS x i) (nx own i)
def eF (k:Nat):List Int:=(cr k).map λi=>((rX a x own i).getD (0,0)).1
def eg:Nat->Int
 |0=>0
 |k+1=>if ((rX a x own k).getD (0,0)).2=0 then eg k else((rX a x own k).getD (0,0)).2
theorem L4 (k:Nat):eF a x own (k+1)=eF a x own k++[((rX a x own k).getD (0,0)).1]:=by unfold eF;rw[List.range_succ,List.map_append];rfl
theorem Iw: ∀(l:List Wd) (k:Nat),k<=own.length->own.drop k=l->(∀i,i<k->(rX a x own i).isSome=true)->
  xW a x l k (eg a x own k) (eF a x own k)=if ∀i,i<own.length->(rX a x own i).isSome=true then some (eF a x own own.length,eg a x own own.length)else none
 |[],k,g,h,hk=>by
  have hl:own.length<=k:=List.drop_eq_nil_iff.1 h
  have:k=own.length:=zz
  subst this
  rw[xW,if_pos hk]
 |s::l,k,g,h,hk=>by
  have hl:k<own.length:=by
   rcases Nat.lt_or_ge k own.length with h1|h1
   ·exact h1
   ·rw[bn h1]at h;cases h
  rw[a6 hl]at h
  have hs:nx own k=s:=by
   have:own[k]=s:=(cB h).1
   rw[<-this];simp [nx,hl]
  have j:rX a x own k=gY a (gS x k) s:=by unfold rX;rw[hs]
  rw[xW,<-j]
  cases e:rX a x own k with
  |none=>
   rw[if_neg (λhh=>by have:=hh k hl;rw[e]at this;cases this)]
  |some v=>
   obtain⟨n,f⟩:=v
   have c:eF a x own (k+1)=eF a x own k++[n]:=by rw[L4,e];rfl
   have d:eg a x own (k+1)=if f=0 then eg a x own k else f:=by rw[eg,e];rfl
   have b:=Iw l (k+1) hl (cB h).2 (λi hi=>by
    by_cases h1:i=k
    ·subst h1;rw[e];rfl
    ·exact hk i zz)
   rw[c,d]at b
   exact b
theorem Qb:xW a x own 0 0 []=if ∀i,i<own.length->(rX a x own i).isSome=true then some (eF a x own own.length,eg a x own own.length)else none:=
 Iw a x own own 0 (Nat.zero_le _) rfl (λi hi=>zz)
theorem uf: ∀k,eg a x own k=0-> ∀i,i<k->((rX a x own i).getD (0,0)).2=0
 |0,_,i,hi=>zz
 |k+1,h,i,hi=>by
  rw[eg]at h
  split at h
  ·rename_i b
   by_cases e:i=k
   ·rw[e];exact b
   ·exact uf k h i zz
  ·rename_i b;exact absurd h b
theorem Cx {s:Wd}(h:dL s=false):gC a s= .inl 6:=by unfold gC;rw[if_pos h]
theorem Hp {s w0:Wd}(h:dL s=true)(c:aV 32 s=w0::own)(b:(bG w0).find? (λx=>dF x own)=none):gC a s= .inl 6:=by unfold gC;rw[if_neg (by rw[h];decide),c];simp only[bs,b0,cc,b]
theorem ou {s w0:Wd}(h:dL s=true)(c:aV 32 s=w0::own)(b:(bG w0).find? (λx=>dF x own)=some x):
  gC a s=if ∀i,i<own.length->(rX a x own i).isSome=true then(if eg a x own own.length≠0 then .inl (eg a x own own.length)else yW a (w0::own) (eF a x own own.length) x.id)else .inl 6:=by
 unfold gC
 rw[if_neg (by rw[h];decide),c]
 simp only[bs,b0,cc,b]
 rw[Qb]
 split
 ·grind
 ·grind
end
def Fp (a:cE)(c:List Wd)(s:Wd)(b:Nat)(res:AV)(h:Heap):Prop:=match gC a s with
 | .inl e=>res= .bZ [bg [],I e]/\h=[ck b a (strs c)]
 | .inr x=>res= .bZ [bg x.2,I 0]/\h=[ck b x.1 (strs (aV 32 s))]
def uN (a:cE)(c:List Wd)(s:Wd)(b b2 d b5 g:Nat):cI:=λe env H D=>match e with
 | .normal| .ret=>Ob (D=[]/\env 4= .po d 0/\env 5= .po b5 0/\ ∃f r,H=nP b b2 d b5 g (cU f (strs (aV 32 s))) (cU a (strs c)) r 0/\gC a s= .inr (f,r))
 | .panic ch=>Ob (D=[]/\env 4= .po d 0/\env 5= .po b5 0/\ ∃e cs r h,ch=uw e/\cs.length=27/\H=nP b b2 d b5 g cs (cU a (strs c)) r h/\gC a s= .inl e)
 |_=>False
theorem Lq: ∀cs:List AV,fN ez cs (bI cs.length .any)
 |[]=>trivial
 |_::cs=>⟨λ_ _ _=>by simp only[aR],Lq cs⟩
theorem QA {a:cE}{c:List Wd}{s:Wd}{b b2 f b5 g:Nat}{e:Exit}{env:Env}{H:Heap}{D:List Nat}(h:uN a c s b b2 f b5 g e env H D):
  ∃env' H' k,bB env H D env' H' k/\YX ad [.cell 4 9,.cell 5 52] (Fp a c s b) 84 [.po g 0,.po b2 0,.po f 0,.po b5 0] e env' H' k:=by
 have fin: ∀{e:Exit},Jl e=some .returning->(D=[]/\env 4= .po f 0/\env 5= .po b5 0/\ ∃l r,H=nP b b2 f b5 g (cU l (strs (aV 32 s))) (cU a (strs c)) r 0/\gC a s= .inr (l,r))->
   ∃env' H' k,bB env H D env' H' k/\YX ad [.cell 4 9,.cell 5 52] (Fp a c s b) 84 [.po g 0,.po b2 0,.po f 0,.po b5 0] e env' H' k:=by
  rintro e he ⟨rfl,h4,m,l,r,rfl,d⟩
  refine⟨env,_,[],bB.refl _ _ _,rfl,.returning,he,_,[],_,(b8 (b9 _)).symm,O6 b2 f b5 g _,rfl,?_⟩
  rintro _ rfl
  refine⟨.bZ [bg r,I 0],[ck b l (strs (aV 32 s))],.many zq ⟨.dw (n:=none) h4 (i:=2) rfl zw rfl,.dw (n:=none) m (i:=3) rfl zw rfl,trivial⟩,?_,(bm _).cons_cons _⟩
  unfold Fp;rw[d];exact⟨rfl,rfl⟩
 cases e with
 |normal=>exact fin rfl h.h
 |ret=>exact fin rfl h.h
 |panic ch=>
  obtain⟨rfl,h4,m,e,cs,r,o,rfl,Zj,rfl,d⟩:=h.h
  refine⟨env,nP b b2 f b5 g V2 (cU a (strs c)) r o,[],cx (j:=0) V2 rfl (by rw[show V2=bI cs.length .any by rw[Zj]];exact Lq cs),rfl,.panicking (uw e),rfl,_,[],_,(b8 (b9 _)).symm,Pe b b2 f b5 g r o e a c,rfl,?_⟩
  rintro _ rfl
  refine⟨.bZ [bg [],I e],[ck b a (strs c)],.many zq ⟨.dw (n:=none) h4 (i:=2) rfl zw rfl,.dw (n:=none) m (i:=3) rfl zw rfl,trivial⟩,?_,(bm _).cons_cons _⟩
  unfold Fp;rw[d];exact⟨rfl,rfl⟩
 |_=>exact h.elim
section
variable {a:cE} (ws0:List Wd) (s:Wd) (b:Nat)
def E6:bN:=match L44 with
 | .seq _ (.seq _ (.seq _ c))=>c
 |_=>.skip
abbrev Cm (s:Wd)(b b2 a b5 c:Nat):List (Nat×AV):=[(0,.po b 0),(1,bg s),(2,.po b2 0),(4,.po a 0),(5,.po b5 0),(6,.po c 0)]
theorem Oo (h: ∀b2 c b5 d,aJ ad none 96 E6 (uN a ws0 s b b2 c b5 d) (el (Cm s b b2 c b5 d)) (nP b b2 c b5 d (cU a (strs ws0)) (cU a (strs ws0)) [] 0) []):
  il ad 44 [.po b 0,bg s] [ck b a (strs ws0)] (Fp a ws0 s b):=by
 refine il.defer S44.ok<|ep [(2,[.sh]),(4,[.sh]),(5,[.sh])] [] ?_
 repeat' first|apply aP|apply aO|apply aN|apply aw|apply ap|(intro e;(try simp only[nL]at e);(try contradiction))
 all_goals try exact fi _
 rename_i b2 c
 revert e
 intro b5
 refine⟨?_⟩
 refine ep [(18,[.i (.at 1)]),(20,[.i (.at 0)]),(6,[.sh]),(10006,[.i (.gI 4)])] [] ?_
 repeat' first|apply aP|apply aO|apply aN|apply aw|apply ap|(intro e;(try simp only[nL]at e);(try contradiction))
 all_goals try exact fi _
 revert e
 intro d
 refine⟨⟨rfl,rfl,?_⟩⟩
 refine gm (Cm s b b2 c b5 d) ?_
 exact aJ.CN (h b2 c b5 d) (λ_ _ _ _ h=>QA h)
end
section
theorem QE:eb 0:=⟨zq,zq⟩
theorem XC:eb 2:=⟨zq,zq⟩
theorem WU:eb 4:=⟨zq,zq⟩
theorem Xe:eb 7:=⟨zq,zq⟩
theorem eb8:eb 8:=⟨zq,zq⟩
theorem XF:eb 9:=⟨zq,zq⟩
theorem Nj {l:List Wd}(h: ∀j,j<l.length->eA l j=0): ∀w∈l,w.length<=16:=by
 intro w b;obtain⟨j,a⟩:=a8.1 b;have:=h j (bi.1 a).1;unfold eA at this;rw[a]at this;simp only at this;refine xI ?_;cases c:fl w with
 |true=>rfl
 |false=>grind
variable {a:cE} (ok:a.OK)
include ok
theorem Hl: ∀w∈a.li.su.map (·.nm),w.length<=16:=by
 have h:=ok.e 3 zq;simp only[iL]at h;unfold eK at h;repeat' split at h
 all_goals first|cases h|contradiction|skip
 all_goals try (rename_i f b g h4)
 have b:=(nK (b3.1 b)).2;intro w d;obtain⟨x,hx,rfl⟩:=b4.1 d;obtain⟨j,c⟩:=a8.1 hx;have:=b j (bi.1 c).1;unfold vr at this;rw[c]at this;simp only at this;refine xI ?_;cases i:fl x.nm with
 |true=>rfl
 |false=>grind
theorem Td: ∀w∈a.li.cl,w.length<=16:=by
 have h:=ok.e 3 zq;simp only[iL]at h;unfold eK at h;split at h
 ·grind
 ·rename_i b;exact Nj (nK (b3.1 b)).2
theorem LV:(oP a.li).1.length<=1000/\ ∀i∈(oP a.li).1,0<=i/\i.toNat<(a.li.su.map (·.nm)).length:=by
 have b:=ok.li.s5;unfold oP;split
 ·grind
 ·unfold CC;refine⟨?_,?_⟩
  ·grind
  ·grind
theorem EE:(rq a.ch).2=0/\(rq a.ch).1.length<=1000/\ ∀x∈(rq a.ch).1,-9223372036854775808<=x/\x<=9223372036854775807:=by
 have j:fV a.ch []=0:=by have:=ok.e 4 zq;simp only[iL]at this;unfold fV;rw[if_neg zz];rfl
 have g:=ok.ch.la;unfold rq;rw[if_neg zz];refine⟨rfl,?_⟩
 have key: ∀(L:List Nat) (x:List nU×List Int),(∀n∈L,n<1000)->(∀v∈x.2,0<=v/\v<=1000)->(L.foldl oR x).2.length<=x.2.length+L.length/\ ∀v∈(L.foldl oR x).2,0<=v/\v<=1000:=by
  intro L;induction L with
  |nil=>grind
  |cons n L i=>
   intro x f hx;have h:=f n zj
   have st:(oR x n).2.length<=x.2.length+1/\ ∀v∈(oR x n).2,0<=v/\v<=1000:=by
    have c:(x.2++[(n:Int)+1]).length<=x.2.length+1/\ ∀v∈x.2++[(n:Int)+1],0<=v/\v<=1000:=by
     refine⟨zj,λv hv=>?_⟩;rcases cb.1 hv with hv|hv
     ·exact hx v hv
     ·simp only[b1]at hv;omega
    unfold oR;split
    ·split
     ·exact⟨zj,hx⟩
     ·exact c
    ·exact c
   obtain⟨d,b⟩:=i (oR x n) (λm hm=>f m (by simp [hm])) st.2;rw[List.foldl_cons,bk];exact⟨zz,b⟩
 obtain⟨d,b⟩:=key (cr a.ch.la.toNat) (a.ch.co,[]) (λn h=>zx) (λv hv=>by cases hv);rw[List.length_range]at d;refine⟨zx,λx hx=>?_⟩;have:=b x hx;omega
theorem vx:iv a.tw (kG a.tw)=0:=by
 have h:=ok.e 8 zq;simp only[iL]at h;unfold gq at h;split at h
 ·assumption
 ·exact h
theorem tM:a.tw.OK/\a.tw.ms.length<=5:=(kf ok.w.tw).1 (lT.1 (vx ok)).1
theorem BV:(dP a.tw).2=0:=by unfold dP;rw[if_pos (vx ok)]
theorem Bs: ∀x∈[(dP a.tw).1.1,(dP a.tw).1.2],-9223372036854775808<=x/\x<=9223372036854775807:=by
 have f:=(tM ok).2
 have key: ∀(L:List (List Nat)) (x:Sp×Bool),(∀p∈L,gw p<=1000)->(0<=x.1.1/\x.1.1<=1000/\0<=x.1.2/\x.1.2<=1000)->
   let y:=(L.foldl (λ(x:Sp×Bool) p=>(oI x.1 (((gw p:Nat):Int),((gw p:Nat):Int)) x.2,false)) x).1
   0<=y.1/\y.1<=1000/\0<=y.2/\y.2<=1000:=by
  intro L
  induction L with
  |nil=>grind
  |cons p L e=>
   intro x b hx
   have c:=b p zj
   refine e _ (λq d=>b q (by simp [d])) ?_
   show 0<=(oI x.1 _ x.2).1/\(oI x.1 _ x.2).1<=1000/\0<=(oI x.1 _ x.2).2/\(oI x.1 _ x.2).2<=1000
   unfold oI
   split
   ·grind
   ·grind
 unfold dP;rw[if_pos (vx ok)]
 have hk:=key (dz a.tw ir) ((0,0),true) (λp c=>by
  have:=(lK (List.mem_filter.1 c).1).le
  omega) zj
 intro x hx;simp only[List.mem_cons,List.not_mem_nil,or_false]at hx;change 0<=(zc _ _).1/\(zc _ _).1<=1000/\0<=(zc _ _).2/\(zc _ _).2<=1000 at hk;rcases hx with rfl|rfl<;>omega
omit ok in
theorem Dq (t:aX)(w:t.wf):(0:Int)<=(gq t).2.1/\(gq t).2.1<=1000:=by
 unfold gq;split
 ·rename_i h;have b:=((kf w).1 (lT.1 h).1).2;have h:=AK (n:=t.ms.length) zz;have a:(dz t ir).length<=(gF t.ms.length).length:=bt _ _;simp only;omega
 ·grind
omit ok in
theorem FM (d:kK)(h:Int):eb (iH d h).2:=by grind [iH,QE,XF,WU,Xe,XC,CU]
omit ok in
theorem Ha {d:kK}{h:Int}(a:(iH d h).2=0)(hc:(dH d).2.2=0):0<=(iH d h).1/\(iH d h).1.toNat<d.cs.length:=by
 unfold iH at a ⊢;split at a
 ·grind
 split at a
 ·cases a
 split at a
 ·cases a
 rename_i g i b;rw[if_neg g,if_neg i,if_neg b];have e:=Gl d;obtain⟨t,L,f⟩:=List.exists_cons_of_ne_nil e;have hm:t∈(ll d).1:=by rw[f];simp
 have c:=qG (Dn hm);rw[f]at b ⊢;simp only[cA,Bool.or_eq_true,not_or,bs,Bool.not_eq_true,beq_eq_false_iff_ne,Bool.or_eq_false_iff]at b ⊢;have j:=ET c h.toNat;rw[<-Iq]at j;have:=b.1.2;omega
omit ok in
theorem PN {t:aX}{e:Int}(h:eb e):eb (iv t e):=by
 unfold iv;repeat' split
 all_goals first|exact h|exact eb8|exact QE
omit ok in
theorem LQ (t:aX)(x:eY):eb (ti t x).2:=by grind [ti,sv,QE,PN,yj,Lp]
theorem QL (x:eY):(ti a.tw x).1.length<=1000/\ ∀v∈(ti a.tw x).1,-9223372036854775808<=v/\v<=9223372036854775807:=by
 have c:=(tM ok).2
 have key: ∀(s:Int) (n:Nat),∀v∈cM s n,0<=v/\v<n:=by
  intro s n;induction n with
  |zero=>intro v hv;simp [cM]at hv
  |succ n b=>
   intro v hv;rw[ia]at hv;rcases cb.1 hv with hv|hv
   ·have:=b v hv;omega
   ·split at hv
    ·simp only[b1]at hv;omega
    ·cases hv
 unfold ti;split
 ·refine⟨by have:=nG (xH a.tw.ms.length (dz (jo a.tw x) ir):Nat) a.tw.ms.length;simp only;omega,λv hv=>?_⟩;have:=key _ _ v hv;omega
 ·grind
omit ok in
theorem PC {e:Int}{l:List Wd}(h:eb e):eb (qb e l):=by
 unfold qb;split
 ·exact ef _
 ·exact h
omit ok in
theorem Sj (s:Shelf)(n:Int):eb (gj s n):=by grind [gj,QE,XF,WU,Xe,XC,Dv]
omit ok in
theorem CE (s:Shelf)(n:Int)(l:List Wd):eb (eJ s n l).2.2:=by
 unfold eJ;repeat' split
 all_goals first|exact QE|exact XF|exact WU|exact Xe|exact XC|exact PC (Sj _ _)
theorem GA (n:Int)(l:List Wd):(0:Int)<=(eJ a.sh n l).2.1/\(eJ a.sh n l).2.1<=1024:=by
 have c:=ok.sh;unfold eJ;split
 ·rename_i h;split
  ·grind
  ·rename_i m ms d
   have:(mD (partsOf a.sh n) l).length<=1024:=by
    unfold partsOf;split
    ·rename_i f b;exact(Ll (c.bH f (bA b)).2 l).2
    ·exact Nat.le_trans (bt _ _) zq
   rw[d]at this;simp only;omega
 ·grind
omit ok in
theorem LF (m:iX)(i:Int):eb (pz m i).2:=by
 unfold pz;repeat' split
 all_goals first|exact QE|exact XF|exact WU|exact Xe|exact XC|exact Da _ _ _
omit ok in
omit ok in
theorem CK (c:lH)(l:List (Int×Int)):eb (fV c l):=by
 unfold fV;repeat' split
 all_goals first|exact QE|exact XF|exact WU|exact Xe|exact XC|exact DE _
omit ok in
theorem GB (c:lH)(p:Int)(l:List Int):eb (oQ c p l).2:=by
 unfold oQ mL;repeat' split
 all_goals first|exact QE|exact XF|exact WU|exact Xe|exact XC|exact CK _ _
omit ok in
theorem Lf (c:lH)(p n:Int):eb (vk c p n).2:=by
 unfold vk;repeat' split
 all_goals first|exact QE|exact XF|exact WU|exact Xe|exact XC|exact CK _ _
end
end Go.Px
