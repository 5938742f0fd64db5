/- Part 28 of the proof of a statement of this seat (a logic of pure contracts; the functions; their contracts). No conditions. -/
import Derived.Test.YtjjmmbcmdheooaaGreatDoorA27
open And renaming intro->an
open Bool renaming and_eq_true->cB
open ByteArray renaming mk->be,size->bk,extract->b1,size_append->b8
open Classical renaming not_not->b3
open Go.Lib renaming itoa_length_le->bs,indexAny->bI,cut->cc
open Go.Proofs.Tryz renaming prog->ad
open Go.Value.int renaming injEq->ec
open Int renaming toNat_natCast->b4
open List renaming length_cons->ap,length_nil->az,length_append->a6,length_take->a7,not_mem_nil->a8,mem_cons->bi,append_nil->bm,all_eq_true->bn,mem_of_mem_take->bt,length_map->bx,mem_range->b0,length_drop->b6,take_of_length_le->b7,mem_of_mem_drop->b9,find?_eq_none->cb,take_add_one->cA,all_cons->c8,map_drop->de,map_take->dk,map_map->dl,range->dn
open List.Sublist renaming refl->cr
open List.cons renaming injEq->ds
open Nat renaming le_refl->bA,zero_le->cD,not_lt_zero->cR
open Option.some renaming inj->ea
open UInt8 renaming toNat_inj->c7
set_option maxRecDepth 100000
set_option maxHeartbeats 4000000
namespace Go.Px
open Go.Proofs
def lF (c:Int):Wd:=[99,97,115,104,32]++eG c++[10]
def kP (l:List Wd):Wd:=l.flatMap λs=>s++[10]
def GX (c0 c1:Int)(l:List Wd):Wd:=lF c0++kP l++lF c1
theorem WI (p q s:Wd):AV.v (.string (be p.toArray++be q.toArray++be s.toArray))=bg (p++q++s):=by rw[iZ,iZ]
theorem Ti {l:List Wd}(h: ∀s∈l,s.length<=1001000):(kP l).length<=l.length*1001001:=by
 induction l with
 |nil=>simp [kP]
 |cons s l b=>have c:=h s zj;have d:=b λt a=>h t (by simp [a]);have e:kP (s::l)=s++[10]++kP l:=rfl;rw[e];simp only[a6,ap,az,Nat.add_mul];omega
theorem VI {l:List Wd}{k:Nat}(hk:k<l.length):kP (l.take (k+1))=kP (l.take k)++(nx l k++[10]):=by unfold kP;rw[cA,mX hk];simp
theorem HM {c:Int}(a: -9223372036854775808<=c)(b:c<=9223372036854775807):(lF c).length<=27:=by have:=bs c a b;unfold lF eG;simp only[a6,ap,az];omega
theorem LM (c0 c1:Int)(l:List Wd)(d: -9223372036854775808<=c0/\c0<=9223372036854775807)(e: -9223372036854775808<=c1/\c1<=9223372036854775807)(hl:l.length<=100)(hs: ∀s∈l,s.length<=1001000):
  Ev ad 21 [I c0,I c1,strs l] (bg (GX c0 c1 l)):=by
 have ud:Ev ad 45 [I c0] (bg (eG c0)):=tX c0 d.1 d.2
 have Mr:Ev ad 45 [I c1] (bg (eG c1)):=tX c1 e.1 e.2
 have z:(eG c0).length<=21:=bs c0 d.1 d.2
 have A:(eG c1).length<=21:=bs c1 e.1 e.2
 have w:=HM d.1 d.2
 have y:=HM e.1 e.2
 have q: ∀k,(kP (l.take k)).length<=100100100:=λk=>by
  have p:=Ti (l:=l.take k) (λs hm=>hs s (bt hm))
  have r:(l.take k).length<=100:=by rw[a7];omega
  generalize (l.take k).length=n at r p
  generalize (kP (l.take k)).length=m at p
  omega
 refine ak S21.ok<|aC rfl<|bc [.aI] rfl ⟨rfl,trivial⟩<|bM (t:=7) rfl λb=>ae (aj (cx (j:=0) [.v (.pointer none),.nil] rfl ⟨aU _,λS v h=>by simp only[aR]at h;subst h;simp only[aR],trivial⟩) (aj (ar (H':=vK b (.v (.pointer none)) none []) rfl) (ao (l:=[(0,I c0),(1,I c1),(2,strs l),(7,.po b 0)]) ⟨rfl,rfl,rfl,rfl,trivial⟩)))<|aa (av ?_)
 refine lz [.ret (bg (eG c0))] 4 rfl rfl (by(repeat' (with_reducible apply an));(all_goals first|exact zk _|((first|exact ud|((simp only[b8,ta,ap,az]);omega)))))<|aG (ao (l:=[(0,I c0),(1,I c1),(2,strs l),(7,.po b 0),(13,bg (lF c0))]) ⟨rfl,rfl,rfl,rfl,WI _ _ _,trivial⟩)<|ai (bU (Hin:=vK b (.v (.pointer none)) none []) (H0:=[]) (od b (.v (.pointer none)) none [] (lF c0) (.inl rfl) rfl (by simp [lF]) (by simp only[az];omega)) rfl rfl (aK _) (bm _).symm ?_)
 rintro D Ho ⟨o,a,rfl⟩
 rw[bm,List.nil_append]at*
 refine bh<|show aJ _ _ _ _ _ _ _ _ from ?_
 refine gm [(1,I c1),(2,strs l),(7,.po b 0)]<|aa (aa ?_)
 refine cC rfl<|aJ.gK (Y:=Option (Nat×Nat)) (λo=>uL o (lF c0++kP l)) (λ_=>el [(1,I c1),(7,.po b 0)]) (λo=>vK b (.po b 0) o (lF c0++kP l)) (λ_=>[]) ?_ ?_
 ·refine br (X:=Nat×Option (Nat×Nat)) (λx=>x.1<=l.length/\uL x.2 (lF c0++kP (l.take x.1))) (λx=>el [(1,I c1),(7,.po b 0),(15,strs l),(16,I l.length),(17,I x.1)]) (λx=>vK b (.po b 0) x.2 (lF c0++kP (l.take x.1))) (λ_=>[]) (λx=>l.length-x.1) (0,o)
   ⟨cD _,by simpa [kP]using a⟩ (aj (ar (by simp [kP])) (ao ⟨rfl,rfl,rfl,by show I _=I _;rw[bx],rfl,trivial⟩)) ?_
  rintro⟨k,o⟩ ⟨hk,a⟩
  simp only at hk a ⊢
  refine aC rfl ?_
  refine aa (ag rfl (λhc=>?_) (λhc=>?_))
  ·simp only[nL]at hc
   have B:=hs _ (fE hc)
   have u:=q k
   refine af (aa (au (aa ?_)))
   refine iO [.cells [bg (nx l k)]] rfl ⟨⟨zz,by rw[b4];exact wu (f:=λs=>[bg s]) hc⟩,trivial⟩ ?_
   refine av ?_
   refine OF 2 rfl rfl (by(and_intros);(all_goals first|exact zk _|(((simp only[ta,ap,az]);omega)))) ?_
   refine aG (ao (l:=[(1,I c1),(7,.po b 0),(15,strs l),(16,I l.length),(17,I k),(22,bg (nx l k++[10]))]) ⟨rfl,rfl,rfl,rfl,rfl,abB _ _,trivial⟩) ?_
   refine ai (bU (Hin:=vK b (.po b 0) o (lF c0++kP (l.take k))) (H0:=[]) (od b (.po b 0) o _ (nx l k++[10]) (.inr rfl) a zj (by simp only[a6,ap,az];omega)) rfl rfl (aK _) (bm _).symm ?_)
   rintro C Ho ⟨g,c,rfl⟩
   rw[bm]
   refine bh ?_
   rw[List.append_assoc,<-VI hc]at*
   refine show aJ _ _ _ _ _ _ _ _ from ?_
   refine dS rfl ⟨zz,trivial⟩ ?_
   exact⟨(k+1,g),⟨by simp only;omega,c⟩,by simp only;omega,eL⟩
  ·simp only[nL]at hc
   rw[b7 zz]at*
   refine ay ?_
   exact⟨o,a,eL⟩
 ·intro o a
  have i:=q l.length
  rw[List.take_length]at i
  refine aa (av ?_)
  refine lz [.ret (bg (eG c1))] 4 rfl rfl (by(repeat' (with_reducible apply an));(all_goals first|exact zk _|((first|exact Mr|((simp only[b8,ta,ap,az]);omega))))) ?_
  refine aG (ao (l:=[(7,.po b 0),(28,bg (lF c1))]) ⟨rfl,WI _ _ _,trivial⟩) ?_
  refine ai (bU (Hin:=vK b (.po b 0) o (lF c0++kP l)) (H0:=[]) (od b (.po b 0) o _ (lF c1) (.inr rfl) a (by simp [lF]) (by simp only[a6];omega)) rfl rfl (aK _) (bm _).symm ?_)
  rintro C Ho ⟨g,c,rfl⟩
  rw[bm]
  refine bh ?_
  refine show aJ _ _ _ _ _ _ _ _ from ?_
  refine aa (av ?_)
  refine ai (bU (Hin:=vK b (.po b 0) g (lF c0++kP l++lF c1)) (H0:=[]) (IE b (.po b 0) g _ c (by simp only[a6];omega)) rfl rfl (aK _) (bm _).symm ?_)
  rintro E Ho ⟨rfl,rfl⟩
  refine eZ rfl ?_
  refine ab (aB ?_)
  rfl
theorem Sm (a:cE)(s:Wd):a.ch.co.length<=(rk a (gC a s)).ch.co.length:=by
 have key: ∀(ws:List Wd) (n:List Int) (id:Nat),a.ch.co.length<=(rk a (yW a ws n id)).ch.co.length:=by
  intro ws n id;unfold yW;split;all_goals first|unfold CX|unfold Df|unfold ug|unfold Nc|unfold GM|unfold DJ|unfold qi|unfold xG|unfold kO|unfold CJ|unfold Oj|unfold sH|unfold uZ|unfold oj
  all_goals try unfold kt
  all_goals try unfold sH
  all_goals try dsimp only
  all_goals (repeat' split)
  all_goals first|exact bA _|(simp [rk];done)|skip
 unfold gC;split
 ·exact bA _
 ·dsimp only;split
  ·exact bA _
  ·split
   ·exact bA _
   ·split
    ·exact bA _
    ·exact key _ _ _
theorem YT (l:List Wd): ∀(x:cE×List Wd),x.1.ch.co.length<=(l.foldl ze x).1.ch.co.length:=by
 induction l with
 |nil=>exact λ_=>bA _
 |cons s l a=>exact λx=>Nat.le_trans (Sm x.1 s) (a (ze x s))
theorem Ku (x:nU):Ev ad 51 [.agg x.enc] (I x.nu):=by exact gA S51.ok [(2,[.fz 1])] []
theorem Xk (l:List nU)(g:Nat)(a:List AV)(f:nU->Int)(c:l.length<=1000000)(h: ∀x∈l,Ev ad g (.agg x.enc::a) (I (f x))):Ev ad 50 [ky l,.fn (.func g) [] a] (.aI 3 1 ((l.map f).map λx=>[I x])):=by
 refine dV S50.ok (kh []) (lh [(0,{n:=l.length,E:=λk=>[(1,.fn (.func g) [] a),(4,.aI 3 1 ((l.take k).map λx=>[I (f x)])),(7,ky l),(8,I l.length),(9,I k)],I:=λk=>True,K:=λk=>[(11,[.i (.cells (nx l k).enc)]),(16,[.i (.ret (I (f (nx l k))))])]})]) ?_;repeat' first|apply aP|apply aO|apply aN|apply aw|apply an|(intro b;(try simp only[nL]at b);(try contradiction))
 all_goals try exact fi _
 ·exact⟨h _ (fE b)⟩
 ·exact⟨rfl,rfl,by rw[BW b,dl];rfl⟩
theorem abA {l m:List nU}:ez (.sl 4 (jH (l.map nU.enc) (some ((m.map nU.enc).length:Int).toNat) none)) (ky (l.drop m.length)):=by
 have e:jH (l.map nU.enc) (some ((m.map nU.enc).length:Int).toNat) none=(l.drop m.length).map nU.enc:=by simp [jH,de]
 rw[e];exact aU _
def zO (a:cE)(l:List Wd):List Int×Int:=if dB a l≠0 then([],dB a l)else(((lL a 0 l).2.ch.co.drop a.ch.co.length).map (·.nu),0)
theorem Pb {a:cE}(w:a.wf){l:List Wd}(hl:l.length<=1000000):Ev ad 29 [.agg a.enc,strs l] (.bZ [ints (zO a l).1,I (zO a l).2]):=by
 unfold zO;by_cases h:dB a l=0
 ·rw[if_neg zz,(lX l a 0).2.1];have hd:=Jv w h;have hx:a.ch.co.length<=(ml a [] l l.length).1.ch.co.length:=YT (l.take l.length) (a,[]);have c:(ml a [] l l.length).1.ch.co.length<=1000000:=by have ok:a.OK:=rj w (by unfold dB at h;split at h<;>omega);have:=(vl ok [] l l.length).ch.c6;omega
  generalize (ml a [] l l.length).1=x at hd hx c;generalize gu a l l.length=ls at hd;have hc:=Xk (x.ch.co.drop a.ch.co.length) 51 [] (·.nu) (by rw[b6];omega) (λy _=>Ku y);refine dV S29.ok (kh [(4,[.fz 2]),(12,[.ev hd]),(19,[.fz 7]),(27,[.ev hc])]) (lh []) ?_;repeat' first|apply aP|apply aO|apply aN|apply aw|apply an|(intro b;(try simp only[nL]at b);(try contradiction))
  all_goals try first|exact fo _|exact⟨abA⟩|exact fi _
  done
 ·rw[if_pos h];have hd:=EF w hl h;generalize dB a l=e at h hd;refine dV S29.ok (kh [(4,[.fz 2]),(12,[.ev hd])]) (lh []) ?_;repeat' first|exact absurd (show e=0 from zy) h|apply aP|apply aO|apply aN|apply aw|apply an|(intro b;(try simp only[nL]at b);(try contradiction))
  all_goals try exact fi _
  done
theorem Hy {a:cE}(ok:a.OK){l:List Wd}(hl:l.length<=1000)(hs: ∀s∈l,s.length<=70){s:Wd}(h:s∈gu a l l.length):s.length<=1001000:=by
 obtain⟨k,hk,rfl⟩:=List.mem_map.1 h;have hk:=b0.1 hk;have c:=hs _ (fE hk);have d:(eG (k+1)).length<=21:=bs ((k:Int)+1) zz zz;have b:=zR (vl ok [] l k) (nx l k);unfold fw C7;cases hc:gC (ml a [] l k).1 (nx l k)with
 |inl e=>rw[hc]at b;have h4:(eG e).length<=21:=bs e (by have:=b.2.1;omega) (by have:=b.2.2;omega);simp only[a6,ap,az];omega
 |inr x=>rw[hc]at b;have h4:x.2.length<=1000000:=b.2;simp only[a6,ap,az];omega
def D8 (a:cE)(l:List Wd):Wd×Int:=if dB a l≠0 then([],dB a l)else(GX a.ca (lL a 0 l).2.ca (lL a 0 l).1,0)
theorem Bl {a:cE}{l:List Wd}(h:dB a l=0):l.length<=14/\(cZ a).2=0/\ ∀s∈l,s.length<=70:=by grind [dB,dL,only]
theorem MJ {a:cE}(w:a.wf){l:List Wd}(hl:l.length<=1000000):Ev ad 7 [.agg a.enc,strs l] (.bZ [bg (D8 a l).1,I (D8 a l).2]):=by
 unfold D8;by_cases h:dB a l=0
 ·rw[if_neg zz,(lX l a 0).2.1,<-tr];obtain⟨j,f,g⟩:=Bl h;have ok:a.OK:=rj w f;have hd:=Jv w h;have b:=vl ok [] l l.length;have d:(gu a l l.length).length<=100:=by unfold gu;simp;omega
  have c:=LM a.ca (ml a [] l l.length).1.ca (gu a l l.length) ⟨w.Xa,w.Wz⟩ ⟨b.w.Xa,b.w.Wz⟩ d (λs hs=>Hy ok zz g hs);generalize (ml a [] l l.length).1=x at hd c;generalize gu a l l.length=ls at hd c;exact gA S7.ok [(4,[.fz 2]),(12,[.ev hd]),(19,[.fz 7]),(24,[.ev c])] []
 ·rw[if_pos h];have hd:=EF w hl h;generalize dB a l=e at h hd;refine dV S7.ok (kh [(4,[.fz 2]),(12,[.ev hd])]) (lh []) ?_;repeat' first|exact absurd (show e=0 from zy) h|apply aP|apply aO|apply aN|apply aw|apply an|(intro i;(try simp only[nL]at i);(try contradiction))
  all_goals try exact fi _
def di (s:Wd):Wd:=(cc s [58]).2.1
def gD (s:Wd):Int:=bI (di s) [62,35]
def zu (s:Wd):Wd:=((di s).take (gD s-1).toNat).drop 1
def FE (s:Wd):Bool:=(cc s [58]).2.2&&decide (1<gD s)&&(di s).getD 0 0==32&&(di s).getD (gD s-1).toNat 0==32&&dL (zu s)
def mZ (l:List Wd):List Wd×Bool:=if l.all FE then(l.map zu,true)else([],false)
structure sY (l:List Wd)(k:Nat):Prop where
 h: ∀i,i<k->FE (nx l i)=true
theorem sY.zero {l:List Wd}:sY l 0:=⟨λi hi=>absurd hi (cR i)⟩
theorem sY.on {l:List Wd}{k:Nat}(h:sY l k)(hk:FE (nx l k)=true):sY l (k+1):=⟨λi hi=>if e:i=k then e▸hk else h.h i zz⟩
theorem Mm {l:List Wd}{k:Nat}(hk:k<l.length)(h:FE (nx l k)=false):mZ l=([],false):=by unfold mZ;rw[List.all_eq_false.2 ⟨nx l k,fE hk,by rw[h];decide⟩];rfl
theorem FH {l:List Wd}{k:Nat}(hk: ¬k<l.length)(h:sY l k):mZ l=(l.map zu,true):=by
 unfold mZ;rw[bn.2 λx hx=>?_]
 ·rfl
 ·obtain⟨i,hi,rfl⟩:=List.getElem_of_mem hx;have e:=mX hi;rw[List.getElem?_eq_getElem hi]at e;rw[ea e];exact h.h i zz
theorem qI (cs:Wd): ∀l:Wd,bI l cs<l.length
 |[]=>by simp [bI]
 |b::l=>by
  have:=qI cs l
  simp only[bI,ap]
  repeat' split
  all_goals omega
theorem getD_at {l:Wd}{n:Nat}(h:n<l.length):(be l.toArray).data.toList[n]? =some (l.getD n 0):=by simp [List.getD,h]
theorem Us (s:Wd):(di s).length<=s.length:=by unfold di cc;split<;>simp
theorem VZ {p:UInt8->Bool}{s:Wd}(h:s.all p=true):(di s).all p=true:=by
 unfold di cc;split
 ·exact bn.2 λx hx=>bn.1 h x (b9 hx)
 ·rfl
theorem by0 {s:Wd}(h:1<gD s):decide (bI (di s) [62,35]>1)=true/\(0:Int)<=0/\(be (di s).toArray).data.toList[(0:Int).toNat]? =some ((di s).getD 0 0):=by have:=qI [62,35] (di s);exact⟨decide_eq_true h,Int.le_refl _,getD_at (by unfold gD at h;show 0<_;omega)⟩
theorem U4 {c:UInt8}(h:(c.toNat:Int)=32):((c.toNat:Int)==32)=true:=by rw[h];rfl
theorem by1 {s:Wd}{c:UInt8}(h:1<gD s)(a:(c.toNat:Int)=32):((c.toNat:Int)==32)=true/\0<=gD s-1/\(be (di s).toArray).data.toList[(gD s-1).toNat]? =some ((di s).getD (gD s-1).toNat 0):=by have:=qI [62,35] (di s);exact⟨U4 a,zz,getD_at (by unfold gD at h ⊢;omega)⟩
theorem rg1 {s:Wd}{c:UInt8}(b:(di s).length<=1000000)(h:1<gD s)(a:(c.toNat:Int)=32):((c.toNat:Int)==32)=true/\ -9223372036854775808<=gD s-1/\gD s-1<=9223372036854775807:=by have:=qI [62,35] (di s);exact⟨U4 a,zz,by unfold gD;omega⟩
theorem sl1 {s:Wd}{c:UInt8}(h:1<gD s)(a:(c.toNat:Int)=32):((c.toNat:Int)==32)=true/\((0:Int)<=1/\0<=gD s-1)/\(some (1:Int).toNat).getD 0<=(some (gD s-1).toNat).getD (bk ⟨(di s).toArray⟩)/\(some (gD s-1).toNat).getD (bk ⟨(di s).toArray⟩)<=(bk ⟨(di s).toArray⟩):=by
 have:=qI [62,35] (di s);refine⟨U4 a,zz,?_,?_⟩
 ·show 1<=(gD s-1).toNat;omega
 ·show (gD s-1).toNat<=(di s).length;unfold gD at h ⊢;omega
theorem rg2 {s:Wd}(a:(di s).length<=1000000)(h:1<gD s): -9223372036854775808<=gD s-1/\gD s-1<=9223372036854775807:=by have:=qI [62,35] (di s);exact⟨zz,by unfold gD;omega⟩
theorem sl2 {s:Wd}(h:1<gD s):((0:Int)<=1/\0<=gD s-1)/\(some (1:Int).toNat).getD 0<=(some (gD s-1).toNat).getD (bk ⟨(di s).toArray⟩)/\(some (gD s-1).toNat).getD (bk ⟨(di s).toArray⟩)<=(bk ⟨(di s).toArray⟩):=by
 have:=qI [62,35] (di s);refine⟨zz,?_,?_⟩
 ·show 1<=(gD s-1).toNat;omega
 ·show (gD s-1).toNat<=(di s).length;unfold gD at h ⊢;omega
theorem Rx (s:Wd):AV.v (.string (b1 ⟨(di s).toArray⟩ ((some (1:Int).toNat).getD 0) ((some (gD s-1).toNat).getD (bk ⟨(di s).toArray⟩))))=bg (zu s):=Ys _ _ _
theorem Uc {s:Wd}:ez (.v (.string (b1 ⟨(di s).toArray⟩ ((some (1:Int).toNat).getD 0) ((some (gD s-1).toNat).getD (bk ⟨(di s).toArray⟩))))) (bg (zu s)):=by rw[Rx];exact aU _
theorem XG {p:AV}{T kk:Nat}{es a:List (List AV)}(b:p= .aI T kk a)(h:a=es):UX p (.aI T kk es):=by subst b;exact⟨rfl,rfl,h⟩
theorem ZD {p:AV}{T kk:Nat}{es a:List (List AV)}(b:p= .aI T kk a)(h:a=es):UX p (.sl kk es):=by subst b;exact⟨rfl,h⟩
theorem BP {p:AV}{kk:Nat}{es:List (List AV)}(a:p= .nil)(h:es=[]):UX p (.sl kk es):=by subst a;exact⟨h⟩
theorem OW {p:AV}{b a:Bool}(c:p=B a)(h:a=b):UX p (B b):=by subst c;exact⟨h⟩
theorem Yb {l:List Wd}{k:Nat}(hk:k<l.length):(l.take k).map (λs=>[bg (zu s)])++[[AV.v (.string (b1 ⟨(di (nx l k)).toArray⟩ ((some (1:Int).toNat).getD 0) ((some (gD (nx l k)-1).toNat).getD (bk ⟨(di (nx l k)).toArray⟩))))]]=(l.take (k+1)).map (λs=>[bg (zu s)]):=by rw[Rx,cA,mX hk];simp
theorem YI {s:Wd}(c:(cc s [58]).2.2=true)(d:1<gD s)(f:(((di s).getD 0 0).toNat:Int)=32)(h4:(((di s).getD (gD s-1).toNat 0).toNat:Int)=32)(e:dL (zu s)=true):FE s=true:=by have a:(di s).getD 0 0=32:=c7.1 (by show _=32;omega);have b:(di s).getD (gD s-1).toNat 0=32:=c7.1 (by show _=32;omega);unfold FE;rw[c,decide_eq_true d,a,b,e];rfl
theorem no1 {s:Wd}(h:(cc s [58]).2.2=false):FE s=false:=by unfold FE;rw[h];rfl
theorem no2 {s:Wd}(h: ¬1<gD s):FE s=false:=by unfold FE;rw[decide_eq_false h];simp
theorem no3 {s:Wd}(h: ¬(((di s).getD 0 0).toNat:Int)=32):FE s=false:=by have a:((di s).getD 0 0==32)=false:=beq_eq_false_iff_ne.2 λe=>h (by rw[e];rfl);unfold FE;rw[a];simp
theorem no4 {s:Wd}(h: ¬(((di s).getD (gD s-1).toNat 0).toNat:Int)=32):FE s=false:=by have a:((di s).getD (gD s-1).toNat 0==32)=false:=beq_eq_false_iff_ne.2 λe=>h (by rw[e];rfl);unfold FE;rw[a];simp
theorem no5 {s:Wd}(h:dL (zu s)=false):FE s=false:=by unfold FE;rw[h];simp
theorem At {l:List Wd}{k:Nat}(hk:k<l.length)(h:FE (nx l k)=false):(mZ l).1.map (λs=>[bg s])=[]:=by rw[Mm hk h];rfl
theorem AP {l:List Wd}{k:Nat}(hk:k<l.length)(h:FE (nx l k)=false):false=(mZ l).2:=by rw[Mm hk h]
theorem US {l:List Wd}{k:Nat}(hk: ¬k<l.length)(h:sY l k):(l.take k).map (λs=>[bg (zu s)])=(mZ l).1.map (λs=>[bg s]):=by rw[FH hk h,b7 zz,dl];rfl
theorem ZY {l:List Wd}{k:Nat}(hk: ¬k<l.length)(h:sY l k):true=(mZ l).2:=by rw[FH hk h]
set_option maxRecDepth 20000 in
set_option maxHeartbeats 16000000 in
theorem EC (l:List Wd)(g:l.length<=1000000)(d: ∀s∈l,s.length<=1000000/\s.all (λb=>decide (b.toNat<128))=true):Ev ad 19 [strs l] (.bZ [strs (mZ l).1,B (mZ l).2]):=by
 have c: ∀k,(nx l k).length<=1000000/\(nx l k).all (λb=>decide (b.toNat<128))=true:=λk=>by
  by_cases hk:k<l.length
  ·exact d _ (fE hk)
  ·simp [nx,hk];exact⟨cD _,λx hx=>nomatch hx⟩
 have a: ∀k,(nx l k).length<=1000000:=λk=>(c k).1;have h4: ∀k,(di (nx l k)).length<=1000000:=λk=>by have:=Us (nx l k);have:=a k;omega
 have e: ∀k,(di (nx l k)).all (λb=>decide (b.toNat<128))=true:=λk=>VZ (c k).2;refine Ev.vc S19.ok (kh []) (lh [(0,{n:=l.length,E:=λk=>[(2,.aI 9 1 ((l.take k).map λs=>[bg (zu s)])),(10,strs l),(11,I l.length),(12,I k)],I:=λk=>sY l k,K:=λk=>[(14,[.i (.cells [bg (nx l k)])]),(18,[.ev (YK (nx l k) [58] (a k))]),(23,[.ev (Ht (di (nx l k)) (h4 k) (e k))]),(31,[.i (.byte ((di (nx l k)).getD 0 0))]),(38,[.i (.byte ((di (nx l k)).getD (gD (nx l k)-1).toNat 0))]),(46,[.ev (jI (zu (nx l k)))])]})]) ?_;repeat' first|apply VW.st|apply VO.st|apply VD.st|apply VS.step|apply an|(intro f;(try simp only[nL]at f);(try contradiction))
 all_goals try first|exact fo _|exact⟨rfl⟩|exact⟨ez.refl _⟩|exact⟨zy⟩|exact⟨decide_eq_true zy⟩|exact⟨decide_eq_false zy⟩|exact⟨U4 zy⟩|exact⟨by0 zy⟩|exact⟨by1 zy zy⟩|exact⟨rg1 (h4 _) zy zy⟩|exact⟨sl1 zy zy⟩|exact⟨sY.zero⟩|exact⟨Uc⟩|exact⟨rg2 (h4 _) zy⟩|exact⟨sl2 zy⟩|exact⟨sY.on zy (YI zy zy zy zy zy)⟩|exact XG rfl (Yb zy)|exact ZD rfl (US zy zy)|exact OW rfl (ZY zy zy)|exact BP rfl (At zy (no1 zy))|exact OW rfl (AP zy (no1 zy))|exact BP rfl (At zy (no2 zy))|exact OW rfl (AP zy (no2 zy))|exact BP rfl (At zy (no3 zy))|exact OW rfl (AP zy (no3 zy))|exact BP rfl (At zy (no4 zy))|exact OW rfl (AP zy (no4 zy))|exact BP rfl (At zy (no5 zy))|exact OW rfl (AP zy (no5 zy))|exact fi _
 done
section
def rA (text:Wd):List Wd:=((aV 10 text).take ((aV 10 text).length-2)).drop 1
theorem ZS {s t:Wd}(h:(be s.toArray).toList=(be t.toArray).toList):s=t:=by simpa using h
theorem WZ {s t:Wd}(h:s=t):(be s.toArray).toList=(be t.toArray).toList:=by rw[h]
abbrev Y1 (s:Wd):Int:=((be s.toArray).size:Int)
theorem Xq {text:Wd}(a: ¬((aV 10 text).length:Int)<3):((0:Int)<=1/\0<=((aV 10 text).length:Int)-2)/\(some (1:Int).toNat).getD 0<=(some (((aV 10 text).length:Int)-2).toNat).getD ((aV 10 text).map λs=>[bg s]).length/\(some (((aV 10 text).length:Int)-2).toNat).getD ((aV 10 text).map λs=>[bg s]).length<=((aV 10 text).map λs=>[bg s]).length:=zx
theorem Vj {text:Wd}:ez (.sl 1 (jH ((aV 10 text).map λs=>[bg s]) (some (1:Int).toNat) (some (((aV 10 text).length:Int)-2).toNat))) (strs (rA text)):=by
 have e:jH ((aV 10 text).map λs=>[bg s]) (some (1:Int).toNat) (some (((aV 10 text).length:Int)-2).toNat)=(rA text).map λs=>[bg s]:=by
  have:(((aV 10 text).length:Int)-2).toNat=(aV 10 text).length-2:=zz
  rw[this];simp [jH,rA,de,dk]
 rw[e];exact aU _
theorem Ri {text:Wd}:ez (.sl 1 (jH ((aV 10 text).map λs=>[bg s]) (some (1:Int).toNat) (some ((((aV 10 text).map λs=>[bg s]).length:Int)-2).toNat))) (strs (rA text)):=by rw[bx];exact Vj
theorem XT {text:Wd}(a: ¬3000<Y1 text): -9223372036854775808<=((((aV 10 text).map λs=>[bg s]).length:Int)-2)/\((((aV 10 text).map λs=>[bg s]).length:Int)-2)<=9223372036854775807:=by have h:=fK (c:=10) text;have e:Y1 text=(text.length:Int):=rfl;rw[bx];omega
theorem TP {text:Wd}(a: ¬((aV 10 text).length:Int)<3):((0:Int)<=1/\0<=(((aV 10 text).map λs=>[bg s]).length:Int)-2)/\(some (1:Int).toNat).getD 0<=(some ((((aV 10 text).map λs=>[bg s]).length:Int)-2).toNat).getD ((aV 10 text).map λs=>[bg s]).length/\(some ((((aV 10 text).map λs=>[bg s]).length:Int)-2).toNat).getD ((aV 10 text).map λs=>[bg s]).length<=((aV 10 text).map λs=>[bg s]).length:=by have:=Xq a;rw[bx]at this ⊢;exact this
variable {a:cE} (w:a.wf) {text:Wd} (h:dB a []=0)
include w h
theorem T1 (e: ¬3000<Y1 text)(f: ¬((aV 10 text).length:Int)<3){d:List Wd}(hd:Ev ad 19 [strs (rA text)] (.bZ [strs d,B true])){ls:List Wd}{y:cE}(hy:Ev ad 10 [.agg a.enc,strs d] (.bZ [strs ls,.agg y.enc,I 0])){g:Wd}(m:Ev ad 21 [I a.ca,I y.ca,strs ls] (bg g))(k:g=text):Ev ad 9 [.agg a.enc,bg text] (.bZ [strs d,.agg y.enc,I 0]):=by
 have o:Y1 text=(text.length:Int):=rfl;have hs:=my text 10 zz;refine ak S9.ok<|dY<|ep [(5,[.fz 2,.sh])] [] ?_;repeat' first|apply aP|apply aO|apply aN|apply aw|apply an|(intro c;(try simp only[nL]at c);(try contradiction))
 all_goals try exact fi _
 revert c;intro b5;refine⟨?_⟩;refine ae (aj (ar (H':=[(b5,.cells 49 Fa)]) rfl) (cx (j:=0) kz.enc rfl zero_sub))<|dY<|ep [(13,[.b 0 (Bb w (l:=[]) zq h)])] [] ?_;repeat' first|apply aP|apply aO|apply aN|apply aw|apply an|(intro c;(try simp only[nL]at c);(try contradiction))
 all_goals try first|exact fo _|exact⟨gN 1⟩|exact fi _
 rename_i b;refine⟨?_⟩;refine ae (aj (ar (H':=[ck b a (strs []),(b5,.cells 49 kz.enc)]) rfl) (ao (l:=[(1,bg text),(2,.pi a.enc),(4,.nil),(5,.po b5 0),(6,I 0)]) ⟨rfl,rfl,rfl,rfl,rfl,trivial⟩))<|ep [(25,[.ev hs]),(36,[.ev hd]),(45,[.ev hy]),(52,[.fz 10]),(57,[.ev m]),(10005,[.i (.gI 1)])] [] ?_;repeat' first|exact absurd (show 3000<Y1 text from zy) e|exact absurd (show ((aV 10 text).length:Int)<3 from zy) f|exact absurd (WZ k) zy|apply aP|apply aO|apply aN|apply aw|apply an|(intro c;(try simp only[nL]at c);(try contradiction))
 all_goals try first|exact fo _|exact .inr rfl|exact⟨_,rfl,.many zq ⟨.tmp rfl rfl,.dw (n:=some 26) (i:=1) (cs:=y.enc) rfl rfl zw rfl,.tmp rfl rfl,trivial⟩⟩|exact⟨TP f⟩|exact⟨Ri⟩|exact⟨XT e⟩|exact fi _
 done
end
def pj (a:cE)(text:Wd):List Wd×cE×Int:=
 if dB a []≠0 then([],kz,dB a [])else if 3000<text.length then([],kz,3)else if (aV 10 text).length<3 then([],kz,6)else
 if (mZ (rA text)).2=false then([],kz,6)else
 if (kS a (mZ (rA text)).1).2.2≠0 then([],kz,6)else
 if GX a.ca (kS a (mZ (rA text)).1).2.1.ca (kS a (mZ (rA text)).1).1≠text then([],kz,6)else((mZ (rA text)).1,(kS a (mZ (rA text)).1).2.1,0)
theorem tO {p:UInt8->Bool}{c:UInt8}: ∀{s:Wd} {v:Wd},s.all p=true->v∈aV c s->v.all p=true
 |[],v,_,h=>by simp [aV]at h;subst h;rfl
 |x::l,v,hs,h=>by
  simp only[List.all_cons,Bool.and_eq_true]at hs
  unfold aV at h
  split at h
  ·rcases List.mem_cons.1 h with rfl|h
   ·rfl
   ·exact tO hs.2 h
  ·split at h
   ·simp only[List.mem_singleton]at h;subst h;simp [hs.1]
   ·rename_i u a e
    rcases List.mem_cons.1 h with rfl|h
    ·simp only[List.all_cons,hs.1,Bool.true_and];exact tO hs.2 (c:=c) (by rw[e];simp)
    ·exact tO hs.2 (c:=c) (by rw[e];simp [h])
theorem Ln {text s:Wd}(h:s∈rA text):s∈aV 10 text:=bt (b9 h)
theorem Ev.aav {P:Program}{f:FuncId}{args:List AV}{p q:AV}(h:Ev P f args p)(hs:ez p q)(m:p.bC=false)(n:q.bC=false):Ev P f args q:=by refine⟨h.1,λS w r i j a=>(h.2 S w r i j a).mono ?_⟩;rintro e w' ⟨v,l,g,rfl,k,c,d,b,o⟩;exact⟨v,l,none,rfl,k,c,d,b,bF.dC n (hs _ _ (o.rep m).2)⟩
theorem Lr {a:cE}(w:a.wf){text:Wd}(hA:text.all (λb=>decide (b.toNat<128))=true){l:List Wd}{y:cE}(d:pj a text=(l,y,0)):Ev ad 9 [.agg a.enc,bg text] (.bZ [strs l,.agg y.enc,I 0]):=by
 have r:Y1 text=(text.length:Int):=rfl;unfold pj at d;split at d
 ·rename_i h;exact absurd (congrArg (·.2.2) d) h
 rename_i h;split at d
 ·cases d
 split at d
 ·cases d
 split at d
 ·cases d
 rename_i n o h4;split at d
 ·cases d
 rename_i g;split at d
 ·cases d
 rename_i k
 have hd:=EC (rA text) (by
  have:=fK (c:=10) text
  unfold rA
  rw[b6,a7];omega) (λs hs=>⟨by have:=fQ (Ln hs);omega,tO hA (Ln hs)⟩)
 rw[Bool.not_eq_false]at h4;rw[h4]at hd
 have i:(mZ (rA text)).1.length<=1000000:=by
  have:=fK (c:=10) text;unfold mZ;split
  ·rw[bx];unfold rA;rw[b6,a7];omega
  ·exact cD _
 generalize (mZ (rA text)).1=f at hd i g k d;have hy:=JA w i;have g:=b3.1 g;rw[g]at hy
 have q:dB a f=0:=by
  unfold kS at g;split at g
  ·exact g
  ·rename_i k;omega
 have p:Ev ad 21 [I a.ca,I (kS a f).2.1.ca,strs (kS a f).1] (bg (GX a.ca (kS a f).2.1.ca (kS a f).1)):=by unfold kS;rw[if_neg zz,(lX f a 0).2.1,<-tr];obtain⟨t,n,o⟩:=Bl q;have ok:a.OK:=rj w n;have j:=vl ok [] f f.length;exact LM a.ca (ml a [] f f.length).1.ca (gu a f f.length) ⟨w.Xa,w.Wz⟩ ⟨j.w.Xa,j.w.Wz⟩ (by unfold gu;simp;omega) (λs hs=>Hy ok zz o hs)
 have e:=congrArg (·.1) d;have m:=congrArg (·.2.1) d;simp only at e m;subst e m;exact T1 w (b3.1 h) zz zz hd hy p (b3.1 k)
abbrev WT (a b5 b:Nat)(i:Int)(s:Wd)(e:Int):Heap:=[(a,.cells 3 [I i]),(b5,.cells 9 [bg s]),(b,.cells 52 [I e])]
theorem MZ {a:cE}(w:a.wf){l:List Wd}(h:dB a []=0)(F: ¬14<(l.length:Int)){c:List Wd}(hd:Ev ad 19 [strs l] (.bZ [strs c,B true]))(L:c.length=l.length)(h4:dB a c=0){i:Int}{t:Wd}
  (hi:(i,t)=match (dn c.length).find? (λk=>fw a c k !=nx l k)with|some k=>((k:Int),fw a c k)|none=>(-1,[])):
  Ev ad 6 [.agg a.enc,strs l] (.bZ [I i,bg t,I 0]):=by
 refine ak S6.ok<|dY<|ep [(4,[.fz 2,.fz 3,.sh]),(5,[.sh]),(6,[.sh])] [] ?_
 repeat' first|apply aP|apply aO|apply aN|apply aw|apply an|(intro g;(try simp only[nL]at g);(try contradiction))
 all_goals try exact fi _
 rename_i m b5
 revert g
 intro o
 refine⟨?_⟩
 refine dY<|ep [(14,[.b 0 (Bb w (l:=[]) zq h)]),(10006,[.i (.gI 3)]),(17,[.i (.at 3)])] [] ?_
 repeat' first|apply aP|apply aO|apply aN|apply aw|apply an|(intro g;(try simp only[nL]at g);(try contradiction))
 all_goals try first|exact fo _|exact⟨gN 1⟩|exact fi _
 rename_i O
 refine⟨?_⟩
 refine ae (aj (ar (H':=ck O a (strs [])::WT m b5 o 0 [] 0) rfl) (aj (du (List.sublist_cons_self _ _)) (ao (l:=[(2,.pi a.enc),(3,.pi [strs l]),(4,.po m 0),(5,.po b5 0),(6,.po o 0)]) ⟨rfl,rfl,rfl,rfl,rfl,trivial⟩)))<|dY<|ep [] [] ?_
 repeat' first|exact absurd (show 14<(l.length:Int)from zy) F|apply aP|apply aO|apply aN|apply aw|apply an|(intro g;(try simp only[nL]at g);(try contradiction))
 all_goals try exact fi _
 refine⟨?_⟩
 refine dY<|ep [(25,[.ev hd])] [] ?_
 repeat' first|apply aP|apply aO|apply aN|apply aw|apply an|(intro g;(try simp only[nL]at g);(try contradiction))
 all_goals try exact fi _
 refine⟨?_⟩
 refine dY<|ep [] [] ?_
 repeat' first|apply aP|apply aO|apply aN|apply aw|apply an|(intro g;(try simp only[nL]at g);(try contradiction))
 all_goals try exact fi _
 refine⟨?_⟩
 refine ae (aj (ar (H':=WT m b5 o 0 [] 0) rfl) (ao (l:=[(2,.pi a.enc),(3,.pi [strs l]),(4,.po m 0),(5,.po b5 0),(6,.po o 0),(7,strs c)]) ⟨rfl,rfl,rfl,rfl,rfl,rfl,trivial⟩))<|dY<|ep [(33,[.b 0 (Bb w (l:=c) zz h4)]),(10006,[.i (.gI 3)])] [] ?_
 repeat' first|apply aP|apply aO|apply aN|apply aw|apply an|(intro g;(try simp only[nL]at g);(try contradiction))
 all_goals try exact fi _
 revert g
 intro b
 refine⟨?_⟩
 refine ae (aj (ar (H':=ck b a (strs [])::WT m b5 o 0 [] 0) rfl) (ao (l:=[(3,.pi [strs l]),(4,.po m 0),(5,.po b5 0),(6,.po o 0),(7,strs c),(9,.po b 0)]) ⟨rfl,rfl,rfl,rfl,rfl,rfl,trivial⟩))<|dY<|ep [(36,[.i (.at 3)])] [] ?_
 repeat' first|apply aP|apply aO|apply aN|apply aw|apply an|(intro g;(try simp only[nL]at g);(try contradiction))
 all_goals try exact fi _
 refine⟨?_⟩
 obtain⟨M,R,K⟩:=Bl h4
 have ok:a.OK:=rj w R
 have hs: ∀s∈c,s.length<=1000000:=λs hm=>by have:=K s hm;omega
 refine aa (aa ?_)
 refine iO [.ret (.fn (.func 43) [] [.pi [.po b 0],.pi [strs c]])] rfl ⟨GH b c,trivial⟩<|au<|ae (aj (ar (H':=ck b a (strs [])::WT m b5 o 0 [] 0) rfl) (ao (l:=[(3,.pi [strs l]),(4,.po m 0),(5,.po b5 0),(6,.po o 0),(41,.fn (.func 43) [] [.pi [.po b 0],.pi [strs c]])]) ⟨rfl,rfl,rfl,rfl,rfl,trivial⟩))<|aJ.CD (X:=(cE×List Wd)×(Int×Wd)) (HS:=λx=>ck b x.1.1 (strs x.1.2)::WT m b5 o x.2.1 x.2.2 0) (H0:=[]) ((a,[]),(0,[]))
  (λj x=>(j= .go/\x.2=(0,[])/\ ∀k,k<c.length->fw a c k=nx l k)\/(j= .ret/\ ∃k,k<c.length/\fw a c k≠nx l k/\x.2=((k:Int),fw a c k)/\ ∀d,d<k->fw a c d=nx l d))
  (λx args=> ∃k,k<c.length/\x.1=ml a [] c (k+1)/\x.2=(0,[])/\args=[I (k:Nat),bg (fw a c k)])
  (λx args j E=>E.1=x.1/\ ∀(k:Nat) v,args=[I k,bg v]->(j= .go/\v=nx l k/\E.2=x.2)\/(j= .ret/\v≠nx l k/\E.2=((k:Int),v)))
  (el [(3,.pi [strs l]),(4,.po m 0),(5,.po b5 0),(6,.po o 0)]) rfl (bm _).symm (qP ⟨rfl,rfl,rfl,rfl,trivial⟩ rfl) zq ?_ ?_ ?_
 ·rintro N ⟨st,q⟩ args ⟨k,hk,H,F,rfl⟩
  simp only at H F
  subst F
  refine⟨rfl,?_⟩
  generalize fw a c k=v
  refine aC rfl<|cC rfl ?_
  refine⟨rfl,?_⟩
  refine ae (aj (ar (H':=ck b st.1 (strs st.2)::WT m b5 o 0 [] 0) rfl) (ao (l:=[(3,.pi [strs l]),(4,.po m 0),(5,.po b5 0),(6,.po o 0),(10,I k),(11,bg v)]) ⟨rfl,rfl,rfl,rfl,rfl,rfl,trivial⟩)) ?_
  have A: ∀(d:Nat) D,[I (k:Nat),bg v]=[I (d:Nat),bg D]->d=k/\D=v:=λd D e=>by
   simp only[ds,and_true]at e
   refine⟨?_,(str_inj e.2).symm⟩
   have:=e.1
   simp only[AV.v.injEq,ec,true_and,Int.natCast_inj]at this
   exact this.symm
  by_cases p:v=nx l k
  ·refine ep [(47,[.i (.cells [bg (nx l k)])])] [] ?_
   repeat' first|exact absurd (WZ p) zy|apply aP|apply aO|apply aN|apply aw|apply an|(intro g;(try simp only[nL]at g);(try contradiction))
   ·exact⟨zz,by rw[b4];exact wu (f:=λs=>[bg s]) zz⟩
   show ∃(j:J) (E:(cE×List Wd)×(Int×Wd)),_
   refine⟨.go,(st,(0,[])),rfl,⟨rfl,λd D e=>.inl ⟨rfl,?_,rfl⟩⟩,cr _⟩
   obtain⟨rfl,rfl⟩:=A d D e
   exact p
  ·refine ep [(47,[.i (.cells [bg (nx l k)])]),(10004,[.i (.gI 1)]),(10005,[.i (.gI 2)]),(10006,[.i (.gI 3)])] [] ?_
   repeat' first|exact absurd (ZS (s:=v) (t:=nx l k) zy) p|apply aP|apply aO|apply aN|apply aw|apply an|(intro g;(try simp only[nL]at g);(try contradiction))
   all_goals try first|exact fo _|exact⟨zz,by rw[b4];exact wu (f:=λs=>[bg s]) zz⟩|exact fi _
   show ∃(j:J) (E:(cE×List Wd)×(Int×Wd)),_
   refine⟨.ret,(st,((k:Int),v)),rfl,⟨rfl,λd D e=>.inr ⟨rfl,?_,?_⟩⟩,cr _⟩
   ·obtain⟨rfl,rfl⟩:=A d D e
    exact p
   ·obtain⟨rfl,rfl⟩:=A d D e
    rfl
 ·intro N lo hy
  refine(FI ok [] b zz hs (λy:Int×Wd=>WT m b5 o y.1 y.2 0) (λk y=>y=(0,[])/\ ∀d,d<k->fw a c d=nx l d) (0,[]) ⟨rfl,λk hk=>absurd hk (cR k)⟩ N lo (λk j y=>j= .ret/\fw a c k≠nx l k/\y=((k:Int),fw a c k)/\ ∀d,d<k->fw a c d=nx l d)
   (λk y hk C=>(hy (ml a [] c (k+1),y) [I (k:Nat),bg (fw a c k)] ⟨k,hk,rfl,C.1,rfl⟩).mono ?_)).mono ?_
  ·rintro r Ho ⟨j,E,⟨H,F⟩,rfl,rfl⟩
   rcases F k _ rfl with⟨rfl,p,e⟩|⟨rfl,p,e⟩
   ·refine⟨.go,E.2,λ_=>⟨e.trans C.1,λd G=>?_⟩,λh=>absurd rfl h,rfl,by rw[H]⟩
    by_cases P:d=k
    ·rw[P];exact p
    ·exact C.2 d zz
   ·exact⟨.ret,E.2,(λh=>nomatch h),λ_=>⟨rfl,p,e,C.2⟩,rfl,by rw[H]⟩
  ·rintro r Ho ⟨j,k,z,(⟨rfl,rfl,C⟩|⟨_,T,hk,rfl,p,e,C⟩),rfl⟩
   ·exact⟨.go,(ml a [] c c.length,z),.inl ⟨rfl,C.1,C.2⟩,rfl⟩
   ·exact⟨.ret,(ml a [] c k,z),.inr ⟨rfl,k-1,zz,p,e,C⟩,rfl⟩
 ·rintro j ⟨st,q⟩ S (⟨rfl,e,u⟩|⟨rfl,k,hk,p,e,u⟩)
  ·simp only at e
   subst e
   rw[cb.2 (λk hk=>by simp [u k (b0.1 hk)])]at hi
   cases hi
   show aJ _ _ _ _ _ _ _ _
   refine ae (ar (H':=(S,.iV)::ck b st.1 (strs st.2)::WT m b5 o 0 [] 0) rfl)<|ep [(10004,[.i (.gI 2)]),(10005,[.i (.gI 3)]),(10006,[.i (.gI 4)])] [] ?_
   repeat' first|apply aP|apply aO|apply aN|apply aw|apply an|(intro g;(try simp only[nL]at g);(try contradiction))
   all_goals try first|exact fo _|exact .inr rfl|exact fi _
   exact⟨_,⟨0,rfl,rfl⟩,.many zq (show fN (ja ad _ _) [.cell 4 3,.cell 5 9,.cell 6 52] [I (-1),bg [],I 0]from
    ⟨.dw (n:=none) (i:=1) (cs:=[I (-1)]) rfl rfl zw rfl,.dw (n:=none) (i:=2) (cs:=[bg []]) rfl rfl zw rfl,.dw (n:=none) (i:=3) (cs:=[I 0]) rfl rfl zw rfl,trivial⟩)⟩
  ·simp only at e
   subst e
   have Q:(dn c.length).find? (λk=>fw a c k !=nx l k)=some k:=by
    rw[List.find?_range_eq_some]
    refine⟨by simpa using p,b0.2 hk,λd G=>?_⟩
    simp [u d G]
   rw[Q]at hi
   cases hi
   refine show pD _ _ _ _ _ _ _ from ?_
   exact⟨.inr rfl,_,⟨0,rfl,rfl⟩,.many zq (show fN (ja ad _ _) [.cell 4 3,.cell 5 9,.cell 6 52] [I (k:Nat),bg (fw a c k),I 0]from
    ⟨.dw (n:=none) (i:=1) (cs:=[I (k:Nat)]) rfl rfl zw rfl,.dw (n:=none) (i:=2) (cs:=[bg (fw a c k)]) rfl rfl zw rfl,.dw (n:=none) (i:=3) (cs:=[I 0]) rfl rfl zw rfl,trivial⟩)⟩
theorem Ux (lo hi:Int):Ev ad 75 [I lo,I hi] (.agg [I lo,I hi]):=by refine ak S75.ok<|aa (av (ai (aF.alloc rfl (λb=>?_))));refine bh<|aa (av ?_);refine kL 3 rfl rfl<|ai (aZ (i:=0) rfl rfl rfl rfl rfl rfl (by show 2<=2;decide) ?_);refine bh<|ab (fh (.inr rfl) (.one ?_));exact .dw (i:=0) (n:=some 2) rfl rfl zw rfl
theorem Rz (s:List UInt8)(h:s.length<=1000000):Ev ad 74 [bg s] (strs (aV 32 s)):=by have e:Ev ad 141 [bg s,U 32] (strs (aV 32 s)):=Nn s 32 h;generalize aV 32 s=W at e;refine ak S74.ok<|aC rfl<|bc [.ret (strs W)] rfl ⟨e,trivial⟩<|ab (aB ?_);rfl
theorem EL (lo hi:Int):Ev ad 34 [I lo,I hi] (.agg (Part.enc ⟨[],lo,hi⟩)):=by refine ak S34.ok<|aa (av (ai (aF.alloc rfl (λb=>?_))));refine bh<|aa (av ?_);refine lz [.ret (.agg [I lo,I hi])] 4 rfl rfl ⟨Ux lo hi,trivial⟩<|ai (aZ (i:=0) rfl rfl rfl rfl rfl rfl (by show 3<=3;decide) ?_);refine bh<|ae (cx (j:=0) (Part.enc ⟨[],lo,hi⟩) rfl ⟨(λS v h=>by simp only[aR]at h ⊢;exact .inl ⟨⟨_,h⟩,rfl⟩),aU _,aU _,trivial⟩)<|ab (fh (.inr rfl) (.one ?_));exact .dw (i:=0) (n:=some 3) rfl rfl zw rfl
theorem GF (s:List UInt8)(h:s.length<=1000000):Ev ad 33 [bg s] (.agg (Part.enc ⟨aV 32 s,0,0⟩)):=by have e:=Rz s h;generalize aV 32 s=W at e;refine ak S33.ok<|aa (av (ai (aF.alloc rfl (λb=>?_))));refine bh<|aa (av ?_);refine lz [.ret (strs W)] 3 rfl rfl ⟨e,trivial⟩<|ai (aZ (i:=0) rfl rfl rfl rfl rfl rfl (by show 3<=3;decide) ?_);refine bh<|ab (fh (.inr rfl) (.one ?_));exact .dw (i:=0) (n:=some 3) rfl rfl zw rfl
def Fi:Shelf:=
 {w:=12
  bH:=[⟨[112,108,101,97],[⟨[[116,111],[116,104,101]],0,0⟩,⟨[],1,2⟩,⟨[[105],[97,115,107]],0,0⟩,⟨[],1,3⟩]⟩,
   ⟨[110,111,116,101],[⟨[],1,2⟩,⟨[[105],[97,115,107]],0,0⟩,⟨[],0,2⟩]⟩,⟨[108,105,115,116],[⟨[],1,2⟩,⟨[],1,2⟩]⟩]}
theorem OJ:Fi.wf:=by
 have ws: ∀l:List Wd,l.all (λw=>decide (w.length<=100))=true->WN l:=by intro l h w c;have:=bn.1 h w c;simp only[decide_eq_true_eq]at this;unfold Vt;omega
 refine⟨zq,zq,?_⟩;intro f b;simp only[Fi,bi,a8,or_false]at b;rcases b with rfl|rfl|rfl;all_goals refine⟨by unfold Vt;decide,λp a=>?_⟩
 all_goals simp only[bi,a8,or_false]at a
 ·rcases a with rfl|rfl|rfl|rfl<;>exact⟨ws _ rfl,zq,zq,zq,zq⟩
 ·rcases a with rfl|rfl|rfl<;>exact⟨ws _ rfl,zq,zq,zq,zq⟩
 ·rcases a with rfl|rfl<;>exact⟨ws _ rfl,zq,zq,zq,zq⟩
theorem RO:Ev ad 14 [] (.agg Fi.enc):=by have g1:Ev ad 33 [bg [116,111,32,116,104,101]] (.agg (Part.enc ⟨[[116,111],[116,104,101]],0,0⟩)):=GF [116,111,32,116,104,101] zq;have g2:Ev ad 33 [bg [105,32,97,115,107]] (.agg (Part.enc ⟨[[105],[97,115,107]],0,0⟩)):=GF [105,32,97,115,107] zq;have a:=EL 1 2;have d:=EL 1 3;have c:=EL 0 2;refine ak S14.ok<|aa (av (ai (aF.alloc rfl (λb=>?_))));refine bh<|aa (av ?_);refine lz [.ret (.agg (Part.enc ⟨[[116,111],[116,104,101]],0,0⟩)),.ret (.agg (Part.enc ⟨[],1,2⟩)),.ret (.agg (Part.enc ⟨[[105],[97,115,107]],0,0⟩)),.ret (.agg (Part.enc ⟨[],1,3⟩)),.bW] 6 rfl rfl ⟨g1,a,g2,d,rfl,trivial⟩<|QM [(0,.po b 0),(6,.agg (Form.enc ⟨[112,108,101,97],[⟨[[116,111],[116,104,101]],0,0⟩,⟨[],1,2⟩,⟨[[105],[97,115,107]],0,0⟩,⟨[],1,3⟩]⟩))]<|lz [.ret (.agg (Part.enc ⟨[],1,2⟩)),.ret (.agg (Part.enc ⟨[[105],[97,115,107]],0,0⟩)),.ret (.agg (Part.enc ⟨[],0,2⟩)),.bW] 5 rfl rfl ⟨a,g2,c,rfl,trivial⟩<|QM [(0,.po b 0),(6,.agg (Form.enc ⟨[112,108,101,97],[⟨[[116,111],[116,104,101]],0,0⟩,⟨[],1,2⟩,⟨[[105],[97,115,107]],0,0⟩,⟨[],1,3⟩]⟩)),(11,.agg (Form.enc ⟨[110,111,116,101],[⟨[],1,2⟩,⟨[[105],[97,115,107]],0,0⟩,⟨[],0,2⟩]⟩))]<|lz [.ret (.agg (Part.enc ⟨[],1,2⟩)),.ret (.agg (Part.enc ⟨[],1,2⟩)),.bW,.bW] 6 rfl rfl ⟨a,a,rfl,rfl,trivial⟩<|ai (aZ (i:=0) rfl rfl rfl rfl rfl rfl (by show 2<=2;decide) ?_);refine bh<|ab (fh (.inr rfl) (.one ?_));exact .dw (i:=0) (n:=some 2) rfl rfl zw rfl
open Go.MapKept
theorem TC (a b:Int):Ev ad 77 [I a,I b] (.agg [I a,I b]):=by refine ak S77.ok<|bc [.aI] rfl ⟨rfl,trivial⟩<|FD rfl ⟨⟨rfl,rfl,rfl,zq⟩,trivial⟩<|ae (aq (t:=4) rfl) (ab (fh (.inr rfl) (.one (.mz (n:=some 2) (bw _ _ _) zw rfl))))
theorem oX (x:eY):Ev ad 36 [I x.sp,I x.v,I x.lo,I x.hi,I x.par] (.agg x.enc):=by refine ak S36.ok<|bc [.aI] rfl ⟨rfl,trivial⟩<|bc [.ret (.agg [I x.lo,I x.hi])] rfl ⟨TC _ _,⟨rfl,rfl,rfl,zq⟩,trivial⟩<|ae (aq (t:=10) rfl) (ab (fh (.inr rfl) (.one (.mz (n:=some 5) (bw _ _ _) zw rfl))))
theorem Lw (s:Bool):Ev ad 37 [B s] (.agg (ry.enc ⟨0,1,s⟩)):=by refine ak S37.ok<|bc [.aI] rfl ⟨rfl,trivial⟩<|FD rfl ⟨⟨rfl,rfl,rfl,zq⟩,trivial⟩<|ae (aq (t:=2) rfl) (ab (fh (.inr rfl) (.one (.mz (n:=some 3) (bw _ _ _) zw rfl))))
def He (l:List ry):aX:=⟨Ac,2,[⟨0,0,100,110,-1⟩,⟨1,-1,105,120,-1⟩,⟨2,1,100,130,-1⟩,⟨3,-1,130,140,0⟩],l⟩
def BU:Nat->List ry
 |0=>[]
 |1=>[⟨0,1,true⟩]
 |_=>[⟨0,1,true⟩,⟨0,1,false⟩]
theorem Wh (k:Nat)(hk:k<=2):Ev ad 15 [I k] (.agg (He (BU k)).enc):=by
 have g:=UE;have f:(He (BU k)).enc=Ac.enc++[I 2,.sl 5 [eY.enc ⟨0,0,100,110,-1⟩,eY.enc ⟨1,-1,105,120,-1⟩,eY.enc ⟨2,1,100,130,-1⟩,eY.enc ⟨3,-1,130,140,0⟩],pg (BU k)]:=rfl;rw[f];clear f;generalize Ac=a at g ⊢;refine ak S15.ok<|bc [.aI] rfl ⟨rfl,trivial⟩ ?_;have m:=oX ⟨0,0,100,110,-1⟩;have o:=oX ⟨1,-1,105,120,-1⟩;have p:=oX ⟨2,1,100,130,-1⟩;have r:=oX ⟨3,-1,130,140,0⟩;refine aa (av ?_);refine lz [.ret (.agg a.enc),.ret (.agg (eY.enc ⟨0,0,100,110,-1⟩)),.ret (.agg (eY.enc ⟨1,-1,105,120,-1⟩)),.ret (.agg (eY.enc ⟨2,1,100,130,-1⟩)),.ret (.agg (eY.enc ⟨3,-1,130,140,0⟩))] 5 rfl rfl ⟨g,m,o,p,r,trivial⟩<|QM [(0,I k),(2,.dO 33 [I 0,.v (.slice none 0 0),.v (.slice none 0 0),I 0,.v (.slice none 0 0),.v (.slice none 0 0)]),(4,.agg a.enc),(5,.agg (eY.enc ⟨0,0,100,110,-1⟩)),(6,.agg (eY.enc ⟨1,-1,105,120,-1⟩)),(7,.agg (eY.enc ⟨2,1,100,130,-1⟩)),(8,.agg (eY.enc ⟨3,-1,130,140,0⟩))]<|ai (aF.Ej (q:=eY.enc ⟨0,0,100,110,-1⟩++eY.enc ⟨1,-1,105,120,-1⟩++eY.enc ⟨2,1,100,130,-1⟩++eY.enc ⟨3,-1,130,140,0⟩) ?_ ?_ ?_)
 ·kernel_rfl
 ·rfl
 have d:chunk 5 4 (eY.enc ⟨0,0,100,110,-1⟩++eY.enc ⟨1,-1,105,120,-1⟩++eY.enc ⟨2,1,100,130,-1⟩++eY.enc ⟨3,-1,130,140,0⟩)=[eY.enc ⟨0,0,100,110,-1⟩,eY.enc ⟨1,-1,105,120,-1⟩,eY.enc ⟨2,1,100,130,-1⟩,eY.enc ⟨3,-1,130,140,0⟩]:=zw
 rw[d];clear d;generalize ([eY.enc ⟨0,0,100,110,-1⟩,eY.enc ⟨1,-1,105,120,-1⟩,eY.enc ⟨2,1,100,130,-1⟩,eY.enc ⟨3,-1,130,140,0⟩]:List (List AV))=M;refine QM [(0,I k),(2,.dO 33 [I 0,.v (.slice none 0 0),.v (.slice none 0 0),I 0,.v (.slice none 0 0),.v (.slice none 0 0)]),(4,.agg a.enc),(9,.sl 5 M)]<|Sc [.aI] rfl ⟨rfl,⟨rfl,rfl,rfl,zq⟩,trivial⟩<|bM (t:=3) rfl λc=>ae (cx (j:=0) (a.enc++[I 2,.sl 5 M,.nil]) rfl ?_) ?_
 ·exact⟨aU _,aU _,aU _,aU _,aU _,λS v h=>by simpa only[aR]using h,trivial⟩
 refine ae (aj (ar (H':=[(c,.cells 33 (a.enc++[I 2,.sl 5 M,.nil]))]) rfl) (ao (l:=[(0,I k),(2,.dO 33 [I 0,.v (.slice none 0 0),.v (.slice none 0 0),I 0,.v (.slice none 0 0),.v (.slice none 0 0)]),(3,.po c 0)]) ⟨rfl,rfl,rfl,trivial⟩)) ?_;have t1:=Lw true;have t2:=Lw false;rcases (by omega:k=0\/k=1\/k=2)with rfl|rfl|rfl
 ·refine aa (aa ?_);refine cC rfl<|aD rfl rfl<|aa (aa ?_);refine cC rfl<|aD rfl rfl<|ae (cx (j:=0) (a.enc++[I 2,.sl 5 M,pg []]) rfl ⟨aU _,aU _,aU _,aU _,aU _,gN 3,trivial⟩)<|lV [.at 0] rfl ⟨rfl,⟨rfl,rfl,rfl,zq⟩,trivial⟩<|ae (aq (t:=2) rfl) (ab ⟨.inr rfl,_,rfl,.one (.mz (n:=some 6) (cs:=a.enc++[I 2,.sl 5 M,pg []]) (bw _ _ _) zw rfl)⟩)
 ·refine aa (aa ?_);refine cC rfl<|ax rfl rfl<|xh [] [.at 0,.ret (.agg (ry.enc ⟨0,1,true⟩)),.bW] rfl ⟨rfl,t1,rfl,⟨(show 1*24<=140737488355328 from zq),(show 1<=9223372036854775807 from zq)⟩,trivial⟩<|aG (bB.ga (t:=17) rfl)<|aT.hd (gs:=[]) (hs:=[.gI 0]) rfl ⟨⟨rfl,rfl,rfl,rfl,(show 6<=6 from zz)⟩,trivial⟩<|ae (ar (H':=[(c,.cells 33 (a.enc++[I 2,.sl 5 M,pg (BU 1)]))]) rfl)<|aa (aa ?_);refine cC rfl<|aD rfl rfl<|lV [.at 0] rfl ⟨rfl,⟨rfl,rfl,rfl,zq⟩,trivial⟩<|ae (aq (t:=2) rfl) (ab ⟨.inr rfl,_,rfl,.one (.mz (n:=some 6) (cs:=a.enc++[I 2,.sl 5 M,pg (BU 1)]) (bw _ _ _) zw rfl)⟩)
 ·refine aa (aa ?_);refine cC rfl<|ax rfl rfl<|xh [] [.at 0,.ret (.agg (ry.enc ⟨0,1,true⟩)),.bW] rfl ⟨rfl,t1,rfl,⟨(show 1*24<=140737488355328 from zq),(show 1<=9223372036854775807 from zq)⟩,trivial⟩<|aT.share (t:=17) rfl (λh=>by cases h) (λe b=>?_);refine aT.hd (gs:=[]) (hs:=[.gI 1]) rfl ⟨⟨rfl,rfl,rfl,rfl,(show 6<=6 from zz)⟩,trivial⟩<|ae (aj (ar (H':=[(e,.arr 109 3 b [ry.enc ⟨0,1,true⟩]),(c,.cells 33 (a.enc++[I 2,.sl 5 M,.so e 1 b]))]) rfl) (ao (l:=[(0,I 2),(2,.dO 33 [I 0,.v (.slice none 0 0),.v (.slice none 0 0),I 0,.v (.slice none 0 0),.v (.slice none 0 0)]),(3,.po c 0)]) ⟨rfl,rfl,rfl,trivial⟩))<|aa (aa ?_);refine cC rfl<|ax rfl rfl<|xh [] [.at 1,.ret (.agg (ry.enc ⟨0,1,false⟩)),.bW] rfl ⟨rfl,t2,rfl,trivial⟩<|aG (bB.jT (i:=0) (t:=22) (es:=[ry.enc ⟨0,1,true⟩]) rfl rfl)<|OF 1 rfl rfl ⟨⟨(show 2*24<=140737488355328 from zq),(show 2<=9223372036854775807 from zq)⟩,trivial⟩<|aG (bB.ga (t:=25) rfl)<|aT.hd (gs:=[]) (hs:=[.gI 0]) rfl ⟨⟨rfl,rfl,rfl,rfl,(show 6<=6 from zz)⟩,trivial⟩<|ae (ar (H':=[(c,.cells 33 (a.enc++[I 2,.sl 5 M,pg (BU 2)]))]) rfl)<|lV [.at 0] rfl ⟨rfl,⟨rfl,rfl,rfl,zq⟩,trivial⟩<|ae (aq (t:=2) rfl) (ab ⟨.inr rfl,_,rfl,.one (.mz (n:=some 6) (cs:=a.enc++[I 2,.sl 5 M,pg (BU 2)]) (bw _ _ _) zw rfl)⟩)
def wg:kK:=⟨4,2,1,[⟨[97,110,97],[3,5,2,7]⟩,⟨[98,101,110],[3,4,2,1]⟩,⟨[99,111,114,97],[8,8,1,6]⟩],[⟨[116,97,108,108],[3,5,2,6]⟩,⟨[115,104,111,114,116],[2,1]⟩]⟩
def uH:iX:=⟨[[97,110,97],[98,101,110],[99,111,114,97]],[⟨[102,105,114,115,116],20,3⟩,⟨[115,101,99,111,110,100],30,6⟩,⟨[116,104,105,114,100],15,7⟩],[⟨2,0,1,-1,true⟩,⟨1,2,1,-1,true⟩,⟨0,2,2,-1,false⟩,⟨3,0,1,0,false⟩],[]⟩
def dQ:cE:=⟨Fi,[[116,111],[109,101,114,99,121],[115,104,105,112]],He [],wg,uH,⟨3,1,[[97,110,97],[98,101,110]],1,[⟨1,1,0,3⟩],[]⟩,[[[116,111],[98,101,110]]],60⟩
def eo:List Wd:=[[115,101,97,108,32,112,108,101,97,32,97,110,97,32,116,111,32,116,104,101,32,106,117,100,103,101,32,105,32,97,115,107,32,109,101,114,99,121],[102,105,110,100,32,97,110,97,32,116,111],[102,105,110,100,32,98,101,110,32,109,101,114,99,121],[99,111,112,121,32,98,101,110,32,50],[104,97,108,102,32,116,111,114,110,32,45,32,50],[114,101,97,100,32,115,104,111,114,116],[112,97,121,32,115,101,99,111,110,100],[112,97,121,32,116,104,105,114,100],[99,111,109,101,32,50],[112,97,121,32,116,104,105,114,100],[112,97,121,32,102,105,114,115,116],[109,101,110,116,105,111,110,32,48,32,49,32,49,50,48,32,49,50,48,32,45],[115,97,109,101,32,48,32,49],[107,101,121,32,97,110,97,32,50]]
def gy:List Wd:=[[49,58,32,115,101,97,108,32,112,108,101,97,32,97,110,97,32,116,111,32,116,104,101,32,106,117,100,103,101,32,105,32,97,115,107,32,109,101,114,99,121,32,62,32,50,32,49],[50,58,32,102,105,110,100,32,97,110,97,32,116,111,32,62,32,49,32,50],[51,58,32,102,105,110,100,32,98,101,110,32,109,101,114,99,121,32,62,32,45],[52,58,32,99,111,112,121,32,98,101,110,32,50,32,35,32,50],[53,58,32,104,97,108,102,32,116,111,114,110,32,45,32,50,32,62,32,45],[54,58,32,114,101,97,100,32,115,104,111,114,116,32,35,32,57],[55,58,32,112,97,121,32,115,101,99,111,110,100,32,62,32,98,101,110],[56,58,32,112,97,121,32,116,104,105,114,100,32,35,32,57],[57,58,32,99,111,109,101,32,50,32,62,32,45],[49,48,58,32,112,97,121,32,116,104,105,114,100,32,62,32,99,111,114,97],[49,49,58,32,112,97,121,32,102,105,114,115,116,32,35,32,57],[49,50,58,32,109,101,110,116,105,111,110,32,48,32,49,32,49,50,48,32,49,50,48,32,45,32,62,32,49,32,50],[49,51,58,32,115,97,109,101,32,48,32,49,32,62,32,51],[49,52,58,32,107,101,121,32,97,110,97,32,50,32,62,32,109,101,114,99,121]]
def wY:Wd:=[99,97,115,104,32,54,48,10,49,58,32,114,101,97,100,32,116,97,108,108,32,62,32,97,110,97,10,50,58,32,112,97,121,32,115,101,99,111,110,100,32,62,32,98,101,110,10,51,58,32,112,101,114,115,111,110,115,32,62,32,50,32,52,10,99,97,115,104,32,51,48,10]
def HW:List Wd:=[[114,101,97,100,32,116,97,108,108],[112,97,121,32,115,101,99,111,110,100],[112,101,114,115,111,110,115]]
def Mu:List Wd:=[[49,58,32,104,101,108,100,32,62,32,116,104,105,114,100],[50,58,32,108,111,115,116,32,62,32,49]]
theorem aad:cZ dQ=(0,0):=zw
theorem TD:(kS dQ eo).1=gy:=zw
theorem K8:((kS dQ eo).2.2,(kS dQ eo).2.1.ca,(kS dQ eo).2.1.ch.la,(kS dQ eo).2.1.le.length)=(0,15,2,2):=zw
theorem Zp:zO dQ eo=([2],0):=zw
theorem Sg:D8 dQ HW=(wY,0):=zw
theorem YW:(pj dQ wY).1=HW:=zw
theorem Md:((pj dQ wY).2.2,(pj dQ wY).2.1.ca)=(0,30):=zw
theorem abp:(Po dQ [112,97,121,32,97,108,108]).2.2=4:=zw
theorem abC:(Po dQ [114,101,97,100,32,116,111,114,110]).2.2=4:=zw
theorem abo:(Po dQ [99,111,112,121,32,98,101,110,32,49]).2=([116,111,32,98,101,110],0):=zw
theorem aak:mZ Mu=([[104,101,108,100],[108,111,115,116]],true):=zw
theorem Y0:(fw dQ [[104,101,108,100],[108,111,115,116]] 0,fw dQ [[104,101,108,100],[108,111,115,116]] 1)=([49,58,32,104,101,108,100,32,62,32,116,104,105,114,100],[50,58,32,108,111,115,116,32,62,32,45]):=zw
theorem abz:mZ gy=(eo,true):=zw
theorem YU:wY.all (λb=>decide (b.toNat<128))=true:=zw
theorem M6 {α:Type}[Inhabited α]{l:List α}{m k:Nat}(h:k<m):nx (l.take m) k=nx l k:=zx
theorem IV (a:cE)(l:List Wd){m k:Nat}(h:k<m):fw a (l.take m) k=fw a l k:=by unfold fw ml;rw[M6 h,List.take_take,Nat.min_eq_left zz]
theorem NP {l a:List Wd}(h:mZ l=(a,true))(m:Nat):mZ (l.take m)=(a.take m,true):=by
 unfold mZ at h ⊢;split at h
 ·rename_i hl;rw[if_pos (bn.2 λx hx=>bn.1 hl x (bt hx))];cases h;rw[dk]
 ·cases h
theorem B1 {a:cE}{l:List Wd}(h:dB a l=0)(m:Nat):dB a (l.take m)=0:=by grind [dB]
theorem Zm {k:Nat}(hk:k<eo.length):fw dQ eo k=nx gy k:=by
 have h:gu dQ eo eo.length=gy:=by rw[tr];have:=TD;unfold kS at this;rw[if_neg (λh=>h (show dB dQ eo=0 from zw))]at this;exact this
 rw[<-h];unfold gu;simp [nx,hk]
theorem zL:dQ.wf where
 sh:=OJ
 tw:=by
  refine⟨R3,(show (-9223372036854775808:Int)<=2 from zq),(show (2:Int)<=9223372036854775807 from zq),?_⟩
  intro x hx
  simp only[dQ,He,bi,a8,or_false]at hx
  rcases hx with rfl|rfl|rfl|rfl<;>exact⟨zq,zq,zq,zq,zq,zq,zq,zq,zq,zq⟩
 dr:=⟨zq,zq,zq,zq,λx hx=>by
  simp only[dQ,wg,bi,a8,or_false]at hx
  rcases hx with rfl|rfl|rfl<;>decide,λx hx=>by
  simp only[dQ,wg,bi,a8,or_false]at hx
  rcases hx with rfl|rfl<;>decide⟩
 li:=⟨λx hx=>by
  simp only[dQ,uH,bi,a8,or_false]at hx
  rcases hx with rfl|rfl|rfl<;>decide,λx hx=>by
  simp only[dQ,uH,bi,a8,or_false]at hx
  rcases hx with rfl|rfl|rfl<;>decide,zq,zq,zq,zq⟩
 ch:=⟨λx hx=>by
  simp only[dQ,bi,a8,or_false]at hx
  rcases hx with rfl|rfl<;>decide,zq,zq,zq⟩
 ix:=zq
 le:=zq
 Xa:=zq
 Wz:=zq
 wo0:=zq
 wo1:=zq
theorem J2: ∀s∈gy,s.length<=1000000/\s.all (λb=>decide (b.toNat<128))=true:=by
 have h:gy.all (λs=>decide (s.length<=1000000)&&s.all (λb=>decide (b.toNat<128)))=true:=zw
 intro s hs;have:=bn.1 h s hs;simp only[cB,decide_eq_true_eq]at this;exact this
theorem Tx {m:Nat}(hm:m<=14):Ev ad 6 [.agg dQ.enc,strs (gy.take m)] (.bZ [I (-1),bg [],I 0]):=by
 have hl:gy.length=14:=rfl;have ha:eo.length=14:=rfl;have a:dB dQ eo=0:=zw
 have hd:=EC (gy.take m) (by rw[a7];omega) (λs hs=>J2 s (bt hs));rw[NP abz m]at hd;refine MZ zL (B1 a 0) (by rw[a7];omega) hd (by rw[a7,a7,hl,ha]) (B1 a m) ?_;rw[cb.2 λk hk=>?_];have hk:=b0.1 hk;rw[a7]at hk;rw[IV _ _ zz,M6 zz,Zm zz];simp
theorem Fj:Ev ad 8 [] (strs eo):=by exact gA S8.ok [] []
theorem L9:Ev ad 5 [] (strs gy):=by exact gA S5.ok [] []
theorem Tj:Ev ad 16 [B false] (.agg wg.enc):=by
 refine dV S16.ok (kh [(2,[.sh]),(10002,[.i (.gI 0)])]) (lh []) ?_;repeat' first|apply aP|apply aO|apply aN|apply aw|apply an|(intro a;(try simp only[nL]at a);(try contradiction))
 all_goals try exact fi _
 exact show Ob _ from⟨.one (.dw (n:=some 5) (i:=0) (cs:=wg.enc) rfl rfl zw rfl)⟩
theorem UR:Ev ad 17 [B false] (.agg [strs uH.cl,tj uH.su,oT uH.wo,.v (.slice none 0 0)]):=by
 refine dV S17.ok (kh [(2,[.sh]),(10002,[.i (.gI 0)])]) (lh []) ?_;repeat' first|apply aP|apply aO|apply aN|apply aw|apply an|(intro a;(try simp only[nL]at a);(try contradiction))
 all_goals try exact fi _
 exact show Ob _ from⟨.one (.dw (n:=some 4) (i:=0) (cs:=[strs uH.cl,tj uH.su,oT uH.wo,.v (.slice none 0 0)]) rfl rfl zw rfl)⟩
theorem La {l m:List AV}(h:fN ez l m):ez (.agg l) (.agg m):=by intro S v a;simp only[aR]at a ⊢;obtain⟨cs,e,b⟩:=a;exact⟨cs,e,fC h b⟩
theorem XN:Ev ad 17 [B false] (.agg uH.enc):=
 UR.aav (La ⟨aU _,aU _,aU _,Fe,trivial⟩) rfl rfl
abbrev WH:List AV:=dQ.enc.set 23 (.v (.slice none 0 0))
theorem Hf:Ev ad 4 [] (.agg dQ.enc):=by
 have b:Ev ad 15 [I 0] (.agg (He []).enc):=Wh 0 zq
 have h:Ev ad 4 [] (.agg WH):=by
  refine dV S4.ok (kh [(0,[.sh]),(1,[.ev RO]),(3,[.ev b]),(4,[.ev Tj]),(5,[.ev XN]),(10000,[.i (.gI 0)])]) (lh []) ?_;repeat' first|apply aP|apply aO|apply aN|apply aw|apply an|(intro a;(try simp only[nL]at a);(try contradiction))
  all_goals try exact fi _
  exact show Ob _ from⟨.one (.dw (n:=some 26) (i:=0) (cs:=WH) rfl rfl zw rfl)⟩
 refine h.aav (La ?_) rfl rfl;repeat' first|exact aU _|exact Fe|exact trivial|apply an
theorem ne_self {s:ByteArray}:(!(s.toList==s.toList))=false:=zj
theorem T4 (d:kK)(b:d.cs.length<=1000000)(c:d.hs.length<=1000000):Ev ad 25 [.agg d.enc,.agg d.enc] (B true):=by
 refine dV S25.ok (kh [(4,[.fz 2,.fz 3])]) (lh [(0,{n:=d.cs.length,E:=λk=>[(2,.pi d.enc),(3,.pi d.enc),(5,I k)],I:=λk=>True,K:=λk=>[(54,[.i (.cells (nx d.cs k).enc)]),(60,[.i (.cells (nx d.cs k).enc)]),(68,[.i (.cells (nx d.cs k).enc)]),(74,[.i (.cells (nx d.cs k).enc)]),(70051,[.g 64 false false]),(77,[.ev (xt (nx d.cs k).ed)])]}),(2,{n:=d.hs.length,E:=λk=>[(2,.pi d.enc),(3,.pi d.enc),(6,I k)],I:=λk=>True,K:=λk=>[(90,[.i (.cells (nx d.hs k).enc)]),(96,[.i (.cells (nx d.hs k).enc)]),(104,[.i (.cells (nx d.hs k).enc)]),(110,[.i (.cells (nx d.hs k).enc)]),(70087,[.g 100 false false]),(113,[.ev (xt (nx d.hs k).ed)])]})]) ?_;repeat' first|apply aP|apply aO|apply aN|apply aw|apply an|(intro a;(try simp only[nL]at a);(try contradiction))
 all_goals try first|exact fo _|exact⟨ne_self⟩|exact fi _
 done
end Go.Px
