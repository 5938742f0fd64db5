/- Part 13 of the proof of a statement of this seat (a logic of pure contracts; the functions; their contracts). No conditions. -/
import Derived.Test.YtbpalbakembgiaaGreatDoorA12
set_option linter.all false
open And renaming intro->an
open Bool renaming not_eq_false->cx
open ByteArray renaming mk->cy
open Go.IntKind renaming u8->de
open Go.Lit renaming int->az,bool->bI
open Go.Program renaming keyLits->a7
open Go.Proofs.Tryz renaming prog->ad,underlying3->a6,underlying128->b0,underlying133->b7,underlying140->b8,underlying142->b9,underlying144->cb,underlying146->cc,underlying246->cd,underlying248->cr,underlying4->cD,underlying9->cR
open Go.Value renaming formed->bl,cells->bn
open List renaming all_eq_true->ap,length_drop->a8,not_mem_nil->bk,mem_of_getElem?->bm,length_take->bs,mem_cons->bt,length_map->bA,map_append->b3,mem_of_mem_drop->b4,mem_of_mem_take->b6,cons_append->cA,length_cons->cB,range->dk
open List.cons renaming injEq->c7
open Nat renaming le_refl->bx,zero_le->b1,mod_lt->dn
open Prod.mk renaming injEq->c8
set_option maxRecDepth 100000
set_option maxHeartbeats 40000000
namespace Go.Px
variable {a x:Int}{b h:Type}{k:Nat}{v:AV}{m:gO}{c:mh}{l:List AV}{d:List Sh}{t:Wd}{e:be}{f:cQ}{q:Bool}{s:Sh}{g:dy}
open Go.Proofs
def yU:Wd:=[99,97,115,104,32,54,48,10,49,58,32,114,101,97,100,32,116,97,108,108,32,62,32,97,110,97,10,50,58,32,112,97,121,32,115,101,99,111,110,100,32,62,32,98,101,110,10,51,58,32,112,101,114,115,111,110,115,32,62,32,50,32,52,10,99,97,115,104,32,51,48,10]
def KC:List Wd:=[[114,101,97,100,32,116,97,108,108],[112,97,121,32,115,101,99,111,110,100],[112,101,114,115,111,110,115]]
def Pb:List Wd:=[[49,58,32,104,101,108,100,32,62,32,116,104,105,114,100],[50,58,32,108,111,115,116,32,62,32,49]]
theorem agq:cF iW=(0,0):=aX
theorem agK:(mQ iW tq).1=DN:=aX
theorem adK:((mQ iW tq).2.2,(mQ iW tq).2.1.ca,(mQ iW tq).2.1.ch.la,(mQ iW tq).2.1.le.length)=(0,15,2,2):=aX
theorem adR:B1 iW tq=([2],0):=aX
theorem VV:PW iW KC=(yU,0):=aX
theorem adi:(tU iW yU).1=KC:=aX
theorem OU:((tU iW yU).2.2,(tU iW yU).2.1.ca)=(0,30):=aX
theorem af4:(Su iW [112,97,121,32,97,108,108]).2.2=4:=aX
theorem agl:(Su iW [114,101,97,100,32,116,111,114,110]).2.2=4:=aX
theorem af3:(Su iW [99,111,112,121,32,98,101,110,32,49]).2=([116,111,32,98,101,110],0):=aX
theorem aeY:si Pb=([[104,101,108,100],[108,111,115,116]],true):=aX
theorem adn:(iz iW [[104,101,108,100],[108,111,115,116]] 0,iz iW [[104,101,108,100],[108,111,115,116]] 1)=([49,58,32,104,101,108,100,32,62,32,116,104,105,114,100],[50,58,32,108,111,115,116,32,62,32,45]):=aX
theorem ade:yU.all (λb=>decide (b.toNat<128))=true:=aX
theorem Yj:iW.wf where
 sh:=RF
 tw:=by
  refine⟨VF,(show (-9223372036854775808:Int)<=2 from aG),(show (2:Int)<=9223372036854775807 from aG),?_⟩
  intro x hx
  simp only[iW,JW,bt,bk,or_false]at hx
  rcases hx with rfl|rfl|rfl|rfl<;>exact⟨aG,aG,aG,aG,aG,aG,aG,aG,aG,aG⟩
 dr:=⟨aG,aG,aG,aG,λx hx=>by
  simp only[iW,yi,bt,bk,or_false]at hx
  rcases hx with rfl|rfl|rfl<;>decide,λx hx=>by
  simp only[iW,yi,bt,bk,or_false]at hx
  rcases hx with rfl|rfl<;>decide⟩
 li:=⟨λx hx=>by
  simp only[iW,wC,bt,bk,or_false]at hx
  rcases hx with rfl|rfl|rfl<;>decide,λx hx=>by
  simp only[iW,wC,bt,bk,or_false]at hx
  rcases hx with rfl|rfl|rfl<;>decide,aG,aG,aG,aG⟩
 ch:=⟨λx hx=>by
  simp only[iW,bt,bk,or_false]at hx
  rcases hx with rfl|rfl<;>decide,aG,aG,aG⟩
 ix:=aG
 le:=aG
 ca0:=aG
 ca1:=aG
 wo0:=aG
 wo1:=aG
theorem WC:Ev ad 15 [] (strs tq):=by exact iG S15.ok [] []
theorem YU:Ev ad 22 [] (strs DN):=by exact iG S22.ok [] []
theorem WY:Ev ad 40 [B false] (.agg yi.ao):=by
 refine di S40.ok (kh [(2,[.sh]),(10002,[.i (.iL 0)])]) (lh []) ?_;repeat' first|apply aN|apply aM|apply aL|apply ax|apply an|(intro a;(try simp only[nL]at a);(try contradiction))
 all_goals try exact fi _
 exact show Ob _ from⟨.one (.dY (n:=some 5) (i:=0) (cs:=yi.ao) zz zz aX zz)⟩
theorem YG:Ev ad 41 [B false] (.agg [strs wC.cl,vi wC.su,qD wC.wo,.v (.slice none 0 0)]):=by
 refine di S41.ok (kh [(2,[.sh]),(10002,[.i (.iL 0)])]) (lh []) ?_;repeat' first|apply aN|apply aM|apply aL|apply ax|apply an|(intro a;(try simp only[nL]at a);(try contradiction))
 all_goals try exact fi _
 exact show Ob _ from⟨.one (.dY (n:=some 4) (i:=0) (cs:=[strs wC.cl,vi wC.su,qD wC.wo,.v (.slice none 0 0)]) zz zz aX zz)⟩
theorem NZ {m:List AV}(h:fp fK l m):fK (.agg l) (.agg m):=by intro S v a;simp only[bf]at a ⊢;obtain⟨cs,e,b⟩:=a;exact⟨cs,e,nJ h b⟩
theorem abX:Ev ad 41 [B false] (.agg wC.ao):=
 YG.aem (NZ ⟨bj _,bj _,bj _,HV,zq⟩) zz zz
abbrev aaw:List AV:=iW.ao.set 23 (.v (.slice none 0 0))
theorem Vl:Ev ad 14 [] (.agg iW.ao):=by
 have b:Ev ad 39 [I 0] (.agg (JW []).ao):=aaa 0 aG;have h:Ev ad 14 [] (.agg aaw):=by
  refine di S14.ok (kh [(0,[.sh]),(1,[.ev V6]),(3,[.ev b]),(4,[.ev WY]),(5,[.ev abX]),(10000,[.i (.iL 0)])]) (lh []) ?_;repeat' first|apply aN|apply aM|apply aL|apply ax|apply an|(intro a;(try simp only[nL]at a);(try contradiction))
  all_goals try exact fi _
  exact show Ob _ from⟨.one (.dY (n:=some 26) (i:=0) (cs:=aaw) zz zz aX zz)⟩
 refine h.aem (NZ ?_) zz zz;repeat' first|exact bj _|exact HV|exact trivial|apply an
theorem ne_self {s:ByteArray}:(!(s.toList==s.toList))=false:=aF
theorem XN (d:ln)(b:d.cs.length<=1000000)(c:d.hs.length<=1000000):Ev ad 26 [.agg d.ao,.agg d.ao] (B true):=by
 refine di S26.ok (kh [(4,[.fz 2,.fz 3])]) (lh [(0,{n:=d.cs.length,E:=λk=>[(2,.pi d.ao),(3,.pi d.ao),(5,I k)],I:=λk=>True,K:=λk=>[(54,[.i (.cells (nx d.cs k).ao)]),(60,[.i (.cells (nx d.cs k).ao)]),(68,[.i (.cells (nx d.cs k).ao)]),(74,[.i (.cells (nx d.cs k).ao)]),(70051,[.g 64 false false]),(77,[.ev (zA (nx d.cs k).ed)])]}),(2,{n:=d.hs.length,E:=λk=>[(2,.pi d.ao),(3,.pi d.ao),(6,I k)],I:=λk=>True,K:=λk=>[(90,[.i (.cells (nx d.hs k).ao)]),(96,[.i (.cells (nx d.hs k).ao)]),(104,[.i (.cells (nx d.hs k).ao)]),(110,[.i (.cells (nx d.hs k).ao)]),(70087,[.g 100 false false]),(113,[.ev (zA (nx d.hs k).ed)])]})]) ?_;repeat' first|apply aN|apply aM|apply aL|apply ax|apply an|(intro a;(try simp only[nL]at a);(try contradiction))
 all_goals try first|exact fo _|exact⟨ne_self⟩|exact fi _
 done
theorem ns (l:List Wd):Ev ad 8 [strs l,strs l] (B true):=by have:=Gf l l;rwa [show (l==l)=true from aF]at this
theorem Ev.Di {P:Program}{N:Nat}{f:FuncId}{rs:List ResultVar}{lc:bZ}{args:List AV}{res:AV}(ok:sI P f N rs lc)(h:aU P none N lc (Bq P rs res) (jN args) [] []):Ev P f args res:=
 Ev.intro ok (aU.A3 h (λ_ _ _ _ a=>yx a))
theorem Za:Ev ad 6 [] (B true):=by
 have w:=Yj;have a:=C4 w (l:=tq) aG;rw[agK]at a;have n:=adK;have d:=Sa w (l:=tq) aG;rw[adR]at d;have c:=ZC w (l:=KC) aG;rw[VV]at c;have o:=OU;have b:=X0 w (text:=yU) (l:=KC) (y:=(tU iW yU).2.1) ade (by
  have D:=adi
  have r:=congrArg (·.1) OU
  simp only at r
  rw[<-D,<-r])
 have g:=SK w [112,97,121,32,97,108,108];have h:=SK w [114,101,97,100,32,116,111,114,110];have m:=SK w [99,111,112,121,32,98,101,110,32,49];rw[af4]at g;rw[agl]at h;rw[af3]at m;have i:=vJ w;rw[agq]at i;have q:Ev ad 17 [.agg iW.ao,strs Pb] (.cG [I 1,bh [50,58,32,108,111,115,116,32,62,32,45],I 0]):=by
  have ha:=Ox Pb aG aG;rw[aeY]at ha;have p:=adn;refine ZX w aX aG ha zz aX ?_;simp only[c8]at p;have e:(dk ([[104,101,108,100],[108,111,115,116]]:List Wd).length).find? (λk=>iz iW [[104,101,108,100],[108,111,115,116]] k !=nx Pb k)=some 1:=by rw[List.find?_range_eq_some];refine⟨by rw[p.2];decide,aF,λj u=>?_⟩;have u:j=0:=af;subst u;rw[p.1];decide
  rw[e];show _=(((1:Nat):Int),iz iW [[104,101,108,100],[108,111,115,116]] 1);rw[p.2];rfl
 generalize (mQ iW tq).2.1=x at a n;generalize (mQ iW tq).2.2=e at a n;generalize (tU iW yU).2.1=y at b o;generalize (tU iW yU).2.2=f at o;generalize (Su iW [112,97,121,32,97,108,108]).1=F at g;generalize (Su iW [112,97,121,32,97,108,108]).2.1=s1 at g;generalize (Su iW [114,101,97,100,32,116,111,114,110]).1=G at h;generalize (Su iW [114,101,97,100,32,116,111,114,110]).2.1=E at h;generalize (Su iW [99,111,112,121,32,98,101,110,32,49]).1=H at m;simp only[c8]at n o;obtain⟨rfl,v,z,A⟩:=n;obtain⟨rfl,C⟩:=o;have ha:=Vl;have s:=WC;refine Ev.Di S6.ok ?_;refine aJ zz ?_;refine bE [.ret (.agg iW.ao),.aT] zz (by(repeat' (with_reducible apply an));(all_goals first|exact zk _|((first|exact ha|exact s|exact a|rfl|exact bx _)))) ?_;refine xe [] [.ret (strs tq),.ret (.cG [strs DN,.agg x.ao,I 0]),.aT] zz (by(repeat' (with_reducible apply an));(all_goals first|exact zk _|((first|exact ha|exact s|exact a|rfl|exact bx _)))) ?_;refine aU.oj (bO.trans (bO.jL (t:=1) zz) (bO.trans (bO.jL (t:=3) zz) (bO.el (l:=[(1,.pi iW.ao),(2,strs DN),(3,.pi x.ao),(4,I 0)]) ⟨zz,zz,zz,zz,zq⟩))) ?_;exact VW.go [(36,[.ev WC]),(37,[.ev d]),(43,[.ev q]),(50,[.ev c]),(55,[.ev b]),(60,[.fz 13]),(61,[.ev g]),(67,[.ev h]),(73,[.ev m]),(79,[.ev i]),(122,[.ev YU]),(123,[.ev (ns DN)]),(145,[.ev (zA [2])]),(162,[.ev (ns KC)])] []
theorem wu {T:TypeId}{u:Value}(g:zS ad T=true)(hk:ad.keyTypeAt 5 T=true)(f:ad.tiled 5 T=true)(hg:ad.eqGuardType ad.depth T=false)(wk:bS ad 5 T u){p:AV}(c:valOf p=some u){a b:Operand}{env:Env}{H:av}{d:Nat}(ha:bG env a=p)(e:bG env b=p):
  Ob (∀(r:Option Nat) (N:Nat) (D:List Nat),Q1 ad r N (.pK true T a b) (some d) env H D [(d,B false)]):=
 ⟨λ_ _ _=>Q1.of λ_ k=>aO.pK (m:=5) (DD:=5) aG g hk f hg (by rw[ha];exact c) (by rw[e];exact c) wk wk true aF k⟩
theorem Us {s:Wd}(h:s.length<=9223372036854775807):(cy s.toArray).size<=maxLen:=by show s.length<=maxLen;unfold maxLen;omega
theorem abg {c s:Int}(h:(az .u8 c).wf=true)(i:(az .i64 s).wf=true):bS ad 5 246 (.agg #[.int .u8 c,.int .i64 s,.bool q]):=by have a:ad.cellsOf 246=3:=aX;have d:ad.cellsOf 3=1:=aX;have e:ad.cellsOf 4=1:=aX;have g:ad.cellsOf 9=1:=aX;have f:ad.cellsOf 5=1:=aX;have k:ad.cellsOf 128=2:=aX;have j: ∀b,(bI b).wf=true:=λ_=>rfl;refine⟨?_,[.int .u8 c,.int .i64 s,.bool q],?_⟩;simp [bl,cd,a];simp (decide:=true) [bn,a7,cd,a6,cD,a,d,e,g,h,i,j,f,Tryz.underlying5]
theorem acN (g:(az .i64 a).wf=true)(h:(cy t.toArray).size<=maxLen):bS ad 5 248 (.agg #[.int .i64 a,.string ⟨t.toArray⟩]):=by have c:ad.cellsOf 248=2:=aX;have d:ad.cellsOf 3=1:=aX;have e:ad.cellsOf 4=1:=aX;have f:ad.cellsOf 9=1:=aX;have i:ad.cellsOf 5=1:=aX;have j:ad.cellsOf 128=2:=aX;have k: ∀b,(bI b).wf=true:=λ_=>rfl;refine⟨?_,[.int .i64 a,.string t],?_⟩;simp [bl,cr,c];simp (decide:=true) [bn,a7,cr,a6,cR,c,d,e,f,g,h]
theorem acP {b c d e:Int}(k:(az .i64 a).wf=true)(l:(az .i64 b).wf=true)(m:(az .i64 c).wf=true)(h4:(az .i64 d).wf=true)(n:(az .i64 e).wf=true):bS ad 5 133 (.agg #[.int .i64 a,.int .i64 b,.int .i64 c,.int .i64 d,.int .i64 e]):=by have f:ad.cellsOf 133=5:=aX;have g:ad.cellsOf 3=1:=aX;have h:ad.cellsOf 4=1:=aX;have i:ad.cellsOf 9=1:=aX;have o:ad.cellsOf 5=1:=aX;have j:ad.cellsOf 128=2:=aX;have p: ∀b,(bI b).wf=true:=λ_=>rfl;refine⟨?_,[.int .i64 a,.int .i64 b,.int .i64 c,.int .i64 d,.int .i64 e],?_⟩;simp [bl,b7,f];simp (decide:=true) [bn,a7,b7,a6,f,g,h,i,k,l,m,h4,n,j,b0]
theorem acg {b:Int}(g:(az .i64 a).wf=true)(h:(az .i64 b).wf=true)(i:(cy t.toArray).size<=maxLen):bS ad 5 140 (.agg #[.string ⟨t.toArray⟩,.int .i64 a,.int .i64 b]):=by have c:ad.cellsOf 140=3:=aX;have d:ad.cellsOf 3=1:=aX;have e:ad.cellsOf 4=1:=aX;have f:ad.cellsOf 9=1:=aX;have j:ad.cellsOf 5=1:=aX;have k:ad.cellsOf 128=2:=aX;have l: ∀b,(bI b).wf=true:=λ_=>rfl;refine⟨?_,[.string t,.int .i64 a,.int .i64 b],?_⟩;simp [bl,b8,c];simp (decide:=true) [bn,a7,b8,a6,cR,c,d,e,f,g,h,i]
theorem abi {b c d:Int}(i:(az .i64 a).wf=true)(j:(az .i64 b).wf=true)(k:(az .i64 c).wf=true)(h4:(az .i64 d).wf=true):bS ad 5 142 (.agg #[.int .i64 a,.int .i64 b,.int .i64 c,.int .i64 d,.bool q]):=by have e:ad.cellsOf 142=5:=aX;have f:ad.cellsOf 3=1:=aX;have g:ad.cellsOf 4=1:=aX;have h:ad.cellsOf 9=1:=aX;have m:ad.cellsOf 5=1:=aX;have n:ad.cellsOf 128=2:=aX;have l: ∀b,(bI b).wf=true:=λ_=>rfl;refine⟨?_,[.int .i64 a,.int .i64 b,.int .i64 c,.int .i64 d,.bool q],?_⟩;simp [bl,b9,e];simp (decide:=true) [bn,a7,b9,a6,cD,e,f,g,h,i,j,k,h4,l]
theorem aby {b:Int}(g:(az .i64 a).wf=true)(h:(az .i64 b).wf=true):bS ad 5 144 (.agg #[.int .i64 a,.int .i64 b]):=by have c:ad.cellsOf 144=2:=aX;have d:ad.cellsOf 3=1:=aX;have e:ad.cellsOf 4=1:=aX;have f:ad.cellsOf 9=1:=aX;have i:ad.cellsOf 5=1:=aX;have j:ad.cellsOf 128=2:=aX;have k: ∀b,(bI b).wf=true:=λ_=>rfl;refine⟨?_,[.int .i64 a,.int .i64 b],?_⟩;simp [bl,cb,c];simp (decide:=true) [bn,a7,cb,a6,c,d,e,f,g,h]
theorem aa9 {b:Int}(g:(az .i64 a).wf=true)(h:(az .i64 b).wf=true):bS ad 5 146 (.agg #[.int .i64 a,.int .i64 b]):=by have c:ad.cellsOf 146=2:=aX;have d:ad.cellsOf 3=1:=aX;have e:ad.cellsOf 4=1:=aX;have f:ad.cellsOf 9=1:=aX;have i:ad.cellsOf 5=1:=aX;have j:ad.cellsOf 128=2:=aX;have k: ∀b,(bI b).wf=true:=λ_=>rfl;refine⟨?_,[.int .i64 a,.int .i64 b],?_⟩;simp [bl,cc,c];simp (decide:=true) [bn,a7,cc,a6,c,d,e,f,g,h]
theorem oT (a: -9223372036854775808<=x)(b:x<=9223372036854775807):(az .i64 x).wf=true:=sZ a b
theorem Cn {n:Nat}(h:n<=k):(2:Int)^n<=2^k:=by have:=Nat.pow_le_pow_right (n:=2) aG h;exact_mod_cast this
theorem wSu (h:m.OK){x:kW}(hx:x∈m.su):bS ad 5 140 (.agg #[.string ⟨x.nm.toArray⟩,.int .i64 x.pe,.int .i64 x.fo]):=by have q:=h.su x hx;have p:(2:Int)^m.cl.length<=2^4:=Cn h.c4;exact acg (oT af af) (oT af af) (Us (h.wf.su x hx))
theorem wWo (h:m.OK){x:rc}(hx:x∈m.wo):bS ad 5 142 (.agg #[.int .i64 x.sa,.int .i64 x.su,.int .i64 x.of,.int .i64 x.ba,.bool x.ca]):=by
 obtain⟨a,b,c,d,e,f,g,i,j⟩:=h.wo x hx;have p:=h.c4;have k:=h.s5;have p3:=h.w6;have:x.of<10:=by by_cases 2<=x.sa;have:=f bB;omega;have:=g af;omega
 exact abi (oT af af) (oT af af) (oT af af) (oT af af)
theorem wPa (h:m.OK){x:EB}(hx:x∈m.pa):bS ad 5 144 (.agg #[.int .i64 x.su,.int .i64 x.cl]):=by have q:=h.pa x hx;have p:=h.c4;have a:=h.s5;exact aby (oT af af) (oT af af)
instance:Inhabited rc:=⟨⟨0,0,0,0,false⟩⟩
theorem YZ (h:m.OK):Ev ad 27 [.agg m.ao,.agg m.ao] (B true):=by
 have s5:=h.s5;have w6:=h.w6;have p5:=h.p5;refine di S27.ok (kh [(4,[.fz 2,.fz 3]),(12,[.ev (ns m.cl)])]) (lh [(0,{n:=m.su.length,E:=λk=>[(2,.pi m.ao),(3,.pi m.ao),(5,I k)],I:=λk=>True,K:=λk=>[(51,[.i (.cells (nx m.su k).ao)]),(56,[.i (.cells (nx m.su k).ao)]),(58,[.i (.op (B false))])]}),(2,{n:=m.wo.length,E:=λk=>[(2,.pi m.ao),(3,.pi m.ao),(6,I k)],I:=λk=>True,K:=λk=>[(69,[.i (.cells (nx m.wo k).ao)]),(74,[.i (.cells (nx m.wo k).ao)]),(76,[.i (.op (B false))])]}),(4,{n:=m.pa.length,E:=λk=>[(2,.pi m.ao),(3,.pi m.ao),(7,I k)],I:=λk=>True,K:=λk=>[(87,[.i (.cells (nx m.pa k).ao)]),(92,[.i (.cells (nx m.pa k).ao)]),(94,[.i (.op (B false))])]})]) ?_;repeat' first|apply aN|apply aM|apply aL|apply ax|apply an|(intro a;(try simp only[nL]at a);(try contradiction))
 all_goals try first|exact fo _|exact wu aX aX aX aX (wSu h (dh af)) rfl rfl rfl|exact wu aX aX aX aX (wWo h (dh af)) rfl rfl rfl|exact wu aX aX aX aX (wPa h (dh af)) rfl rfl rfl|exact fi _
 done
instance:Inhabited Ss:=⟨⟨0,0⟩⟩
theorem wCo (h:c.OK){x:pC}(hx:x∈c.co):bS ad 5 100 (.agg #[.int .i64 x.nu,.int .i64 x.wo,.int .i64 x.fa,.int .i64 x.ma]):=by obtain⟨⟨a,b⟩,⟨d,e⟩,⟨f,g⟩,i,j⟩:=h.co x hx;have:=h.la;have k:(2:Int)^c.wo.toNat<=2^5:=Cn (by have:=h.wo;omega);have l:(2:Int)^c.fa.toNat<=2^6:=Cn (by have:=h.fa;omega);have p3:(2:Int)^c.pe.length<=2^3:=Cn h.p3;exact VP (oT af af) (oT af af) (oT af af) (oT af af)
theorem wRu (h:c.OK)(a: ∀x∈c.ru,(-1<=x.Li/\x.Li<=64)/\ -1<=x.th/\x.th<=64){x:Ss}(hx:x∈c.ru):bS ad 5 146 (.agg #[.int .i64 x.Li,.int .i64 x.th]):=by grind [aa9,oT]
theorem X5 (h:c.OK)(b: ∀x∈c.ru,(-1<=x.Li/\x.Li<=64)/\ -1<=x.th/\x.th<=64):Ev ad 28 [.agg c.ao,.agg c.ao] (B true):=by
 have c6:=h.c6;have r4:=h.r4;refine di S28.ok (kh [(4,[.fz 2,.fz 3]),(31,[.ev (ns c.pe)])]) (lh [(0,{n:=c.co.length,E:=λk=>[(2,.pi c.ao),(3,.pi c.ao),(5,I k)],I:=λk=>True,K:=λk=>[(62,[.i (.cells (nx c.co k).ao)]),(67,[.i (.cells (nx c.co k).ao)]),(69,[.i (.op (B false))])]}),(2,{n:=c.ru.length,E:=λk=>[(2,.pi c.ao),(3,.pi c.ao),(6,I k)],I:=λk=>True,K:=λk=>[(80,[.i (.cells (nx c.ru k).ao)]),(85,[.i (.cells (nx c.ru k).ao)]),(87,[.i (.op (B false))])]})]) ?_;repeat' first|apply aN|apply aM|apply aL|apply ax|apply an|(intro a;(try simp only[nL]at a);(try contradiction))
 all_goals try first|exact fo _|exact wu aX aX aX aX (wCo h (dh af)) rfl rfl rfl|exact wu aX aX aX aX (wRu h b (dh af)) rfl rfl rfl|exact fi _
 done
theorem wMe {t:be}(h:t.OK)(hk:k<t.ms.length):bS ad 5 133 (.agg #[.int .i64 (nx t.ms k).sp,.int .i64 (nx t.ms k).v,.int .i64 (nx t.ms k).lo,.int .i64 (nx t.ms k).hi,.int .i64 (nx t.ms k).eY]):=by have m:=h.R2 k _ (bP hk);have a:=m.Pf;have b:=m.Oc;have c:=m.v0;have d:=m.v1;have e:=m.Xp;have f:=m.lh;have g:=m.MR;have i:=m.zL;have j:=m.zl;have s:=h.gK.Xq;have v:=h.Rp;have q:=h.zf;exact acP (oT af af) (oT af af) (oT af af) (oT af af) (oT af af)
theorem wTi {t:be}(h:t.OK){x:sr}(hx:x∈t.dN):bS ad 5 135 (.agg #[.int .i64 x.a,.int .i64 x.b,.bool x.same]):=by have q:=h.zf;obtain⟨a,b,c,d,_⟩:=h.tie x hx;exact Hx a af c af
theorem ZG {t:be}(h:t.OK)(a:Ev ad 69 [.agg t.gK.ao,.agg t.gK.ao] (B true)):Ev ad 25 [.agg t.ao,.agg t.ao] (B true):=by
 have s5:=h.zf;have w6:=h.FJ;refine di S25.ok (kh [(4,[.fz 2,.fz 3]),(11,[.ev a])]) (lh [(0,{n:=t.ms.length,E:=λk=>[(2,.pi t.ao),(3,.pi t.ao),(5,I k)],I:=λk=>True,K:=λk=>[(48,[.i (.cells (nx t.ms k).ao)]),(53,[.i (.cells (nx t.ms k).ao)]),(55,[.i (.op (B false))])]}),(2,{n:=t.dN.length,E:=λk=>[(2,.pi t.ao),(3,.pi t.ao),(6,I k)],I:=λk=>True,K:=λk=>[(66,[.i (.cells (nx t.dN k).ao)]),(71,[.i (.cells (nx t.dN k).ao)]),(73,[.i (.op (B false))])]})]) ?_;repeat' first|apply aN|apply aM|apply aL|apply ax|apply an|(intro b;(try simp only[nL]at b);(try contradiction))
 all_goals try first|exact fo _|exact wu aX aX aX aX (wMe h af) rfl rfl rfl|exact wu aX aX aX aX (wTi h (dh af)) rfl rfl rfl|exact fi _
 done
theorem acO (h:(eK c).2.2=0)(ok:c.OK): ∀x∈c.ru,(-1<=x.Li/\x.Li<=64)/\ -1<=x.th/\x.th<=64:=by
 unfold eK at h;have f:(aB (tG c) c.ru.length 0).2=0:=by
  repeat' split at h
  all_goals first|(cases h;done)|(exact absurd h bB)|omega|(simp_all;done)
 intro x hx;obtain⟨i,hi⟩:=List.mem_iff_getElem?.1 hx;have:=eN.1 f i (List.getElem?_eq_some_iff.1 hi).1;unfold tG at this;rw[hi]at this;simp only at this;split at this;cases this;rename_i d;simp only[Bool.or_eq_true,not_or,Bool.not_eq_true]at d;have a:=qU d.1;have b:=qU d.2;have e:(2:Int)^c.fa.toNat<=2^6:=Cn (by have:=ok.fa;omega);have:=ok.fa;omega
theorem vE {β:Type}{f:b->β}{l:List b}(h:decide ((k:Int)<((l.map f).length:Int))=true):k<l.length:=by simpa using h
theorem u8w (c:0<=x)(d:x<256):(az .u8 x).wf=true:=by have a:de.min=0:=rfl;have b:de.max=255:=rfl;simp [Lit.wf];omega
theorem wS {b:dy}(w:b.wf){x:cL}(hx:x∈b.ss):bS ad 5 248 (.agg #[.int .i64 x.a,.string ⟨x.t.toArray⟩]):=
 acN (oT (w.ss x hx).a0 (w.ss x hx).a1) (Us (w.ss x hx).t)
theorem Yg {b:dy}(h:Valid b)(w:b.wf):Ev ad 69 [.agg b.ao,.agg b.ao] (B true):=by
 have e:=h.al3;have s5:=h.Xq;refine Ev.Di S69.ok<|bE [.bY,.bY] zz (by(and_intros);(all_goals first|exact zk _|((rfl))))<|fl<|fc [] [] ?_;repeat' first|apply aN|apply aM|apply aL|apply ax|apply an|(intro a;(try simp only[nL]at a);(try contradiction))
 all_goals try exact fi _
 refine show Ob _ from⟨?_⟩;refine iF [(2,.pi b.ao),(3,.pi b.ao)]<|aa (aa ?_);refine cZ zz<|cj True (el [(2,.pi b.ao),(3,.pi b.ao)]) [] [] ?_ ?_
 ·refine gf (λk:Nat=>k<=b.al.length) (λk=>el [(2,.pi b.ao),(3,.pi b.ao),(5,I k)]) (λk=>b.al.length-k) 0 (b1 _) eL ?_;intro k hk;refine aa (aa ?_);refine cZ zz<|aj zz (λhc=>?_) (λhc=>?_)
  ·have hc:=vE hc;obtain⟨x,hx⟩:=bq hc;have c:=bm hx;refine ak<|dw True (el [(2,.pi b.ao),(3,.pi b.ao),(5,I k)]) [] [] ?_ ?_
   ·refine xe [] [.cells x.ao,.cells x.ao,.aT,.aT] zz (by(and_intros);(all_goals first|exact zk _|((first|rfl|omega|simp [hx]))))<|ag (ai (aq (t:=6) zz) (ai (aq (t:=7) zz) (au (l:=[(2,.pi b.ao),(3,.pi b.ao),(5,I k),(6,.pi x.ao),(7,.pi x.ao)]) jt)))<|fl<|fc [] [] ?_;repeat' first|apply aN|apply aM|apply aL|apply ax|apply an|(intro a;(try simp only[nL]at a);(try contradiction))
    all_goals try first|exact fo _|exact⟨ne_self⟩|exact fi _
    refine show Ob _ from⟨?_⟩;refine iF [(2,.pi b.ao),(3,.pi b.ao),(5,I k),(6,.pi x.ao),(7,.pi x.ao)]<|aJ zz<|ay<|gf (λj:Nat=>j<=x.ls.length) (λj=>el [(2,.pi b.ao),(3,.pi b.ao),(5,I k),(6,.pi x.ao),(7,.pi x.ao),(8,I j)]) (λj=>x.ls.length-j) 0 (b1 _) eL ?_;intro j f;refine aa (aa ?_);refine cZ zz<|aj zz (λhc=>?_) (λhc=>?_)
    ·have hc:=vE hc;obtain⟨y,hy⟩:=bq hc;have d:=(w.al x c).ls y (bm hy);refine ak (aa (ay ?_));refine aa<|tI [] [.cells y.ao,.cells y.ao,.op (B false)] zz (by(and_intros);(all_goals first|exact zk _|((first|rfl|omega|exact Ob.h (wu (p:=.agg y.ao) aX aX aX aX (abg (u8w d.c0 d.c1) (oT d.s0 d.s1)) rfl rfl rfl)|simp [hy]))))<|aH zz zz<|fE zz (by(and_intros);(all_goals first|exact zk _|((have:=(h.ZJ x c).l6;omega)))) ?_;exact⟨j+1,af,af,eL⟩
    exact aE ⟨(),zq,eL⟩
   intro _ _;refine fE zz bL ?_;exact⟨k+1,af,af,eL⟩
  exact aE ⟨(),zq,eL⟩
 intro _ _;refine fc [] [(4,{n:=b.ss.length,E:=λk=>[(2,.pi b.ao),(3,.pi b.ao),(9,I k)],I:=λk=>True,K:=λk=>[(92,[.i (.cells (nx b.ss k).ao)]),(97,[.i (.cells (nx b.ss k).ao)]),(99,[.i (.op (B false))])]})] ?_;repeat' first|apply aN|apply aM|apply aL|apply ax|apply an|(intro a;(try simp only[nL]at a);(try contradiction))
 all_goals try first|exact fo _|exact wu aX aX aX aX (wS w (dh af)) rfl rfl rfl|exact fi _
 done
theorem acY {b:Int}(g:(az .i64 a).wf=true)(h:(az .i64 b).wf=true):bS ad 5 128 (.agg #[.int .i64 a,.int .i64 b]):=by have c:ad.cellsOf 128=2:=aX;have d:ad.cellsOf 3=1:=aX;have e:ad.cellsOf 4=1:=aX;have f:ad.cellsOf 9=1:=aX;have i:ad.cellsOf 5=1:=aX;have j:ad.cellsOf 128=2:=aX;have k: ∀b,(bI b).wf=true:=λ_=>rfl;refine⟨?_,[.int .i64 a,.int .i64 b],?_⟩;simp [bl,b0,c];simp (decide:=true) [bn,a7,b0,a6,c,d,e,f,g,h]
theorem Rt {p:Part}(h:IA p):(az .i64 p.lo).wf=true/\(az .i64 p.hi).wf=true:=by rcases h.room with⟨_,a⟩|⟨_,a⟩;exact⟨oT af af,oT af af⟩;exact⟨oT af af,oT af af⟩
theorem Yr {s:Shelf}(h:DU s):Ev ad 24 [.agg s.ao,.agg s.ao] (B true):=by
 have f4:=h.f4;refine Ev.Di S24.ok<|bE [.bY,.bY] zz (by(and_intros);(all_goals first|exact zk _|((rfl))))<|fl<|fc [] [] ?_;repeat' first|apply aN|apply aM|apply aL|apply ax|apply an|(intro b;(try simp only[nL]at b);(try contradiction))
 all_goals try exact fi _
 refine show Ob _ from⟨?_⟩;refine iF [(2,.pi s.ao),(3,.pi s.ao)]<|aa (aa ?_);refine cZ zz<|cj True (el []) [] [] ?_ ?_
 ·refine gf (λk:Nat=>k<=s.bi.length) (λk=>el [(2,.pi s.ao),(3,.pi s.ao),(5,I k)]) (λk=>s.bi.length-k) 0 (b1 _) eL ?_;intro k hk;refine aa (aa ?_);refine cZ zz<|aj zz (λhc=>?_) (λhc=>?_)
  ·have hc:=vE hc;obtain⟨x,hx⟩:=bq hc;have a:=bm hx;have p5:=(h.bi x a).2.p5;refine ak<|dw True (el [(2,.pi s.ao),(3,.pi s.ao),(5,I k)]) [] [] ?_ ?_
   ·refine xe [] [.cells x.ao,.cells x.ao,.aT,.aT] zz (by(and_intros);(all_goals first|exact zk _|((first|rfl|omega|simp [hx]))))<|ag (ai (aq (t:=6) zz) (ai (aq (t:=7) zz) (au (l:=[(2,.pi s.ao),(3,.pi s.ao),(5,I k),(6,.pi x.ao),(7,.pi x.ao)]) jt)))<|fl<|fc [] [] ?_;repeat' first|apply aN|apply aM|apply aL|apply ax|apply an|(intro b;(try simp only[nL]at b);(try contradiction))
    all_goals try first|exact fo _|exact⟨ne_self⟩|exact fi _
    refine show Ob _ from⟨?_⟩;refine iF [(2,.pi s.ao),(3,.pi s.ao),(5,I k),(6,.pi x.ao),(7,.pi x.ao)]<|aJ zz<|ay<|gf (λj:Nat=>j<=x.parts.length) (λj=>el [(2,.pi s.ao),(3,.pi s.ao),(5,I k),(6,.pi x.ao),(7,.pi x.ao),(8,I j)]) (λj=>x.parts.length-j) 0 (b1 _) eL ?_;intro j d;refine aa (aa ?_);refine cZ zz<|aj zz (λhc=>?_) (λhc=>?_)
    ·have hc:=vE hc;obtain⟨y,hy⟩:=bq hc;have c:=Rt ((h.bi x a).2.parts y (bm hy));refine ak (aa (ay ?_));refine aa<|tI [(74,false)] [.cells y.ao,.cells y.ao,.op (B false),.cells y.ao,.cells y.ao,.ret (B true)] zz (by(repeat' (with_reducible apply an));(all_goals first|exact zk _|((first|rfl|omega|exact ns _|exact Ob.h (wu (p:=.agg [I y.lo,I y.hi]) aX aX aX aX (acY c.1 c.2) rfl rfl rfl)|simp [hy]))))<|aH zz zz<|fE zz (by(and_intros);(all_goals first|exact zk _|((omega)))) ?_;exact⟨j+1,af,af,eL⟩
    exact aE ⟨(),zq,eL⟩
   intro _ _;refine fE zz bL ?_;exact⟨k+1,af,af,eL⟩
  exact aE ⟨(),zq,au zq⟩
 intro _ _;exact VW.go [] []
theorem Yt {a:cQ}(ok:a.OK):Ev ad 7 [.agg a.ao,.agg a.ao] (B true):=by
 have b:=Yr ok.sh;have c:=ns a.ix;have d:=ZG (vz ok).1 (Yg (vz ok).1.gK ok.w.tw.gK);have h4:=XN a.dr (by have:=ok.dr.c4;omega) (by have:=ok.dr.h4;omega);have f:=YZ ok.li;have g:=X5 ok.ch (acO (ok.e 4 aG) ok.ch);have h:Ev ad 29 [DA a.le,DA a.le] (B true):=by have:=Ro a.le a.le;rwa [show (a.le==a.le)=true from aF]at this
 exact iG S7.ok [(4,[.fz 2,.fz 3]),(15,[.ev b]),(22,[.ev c]),(29,[.ev d]),(36,[.ev h4]),(43,[.ev f]),(50,[.ev g]),(57,[.ev h])] []
theorem SA:((dk 40).all λv=>(Lib.itoa (v:Int)).all λc=>c.toNat !=58)=true:=by kernel_rfl
theorem EA (r:Wd): ∀d:Wd,(d.all λc=>c.toNat !=58)=true->ko (d++58::r)=58::r
 |[],_=>rfl
 |c::d,h=>by simp only[List.all_cons,Bool.and_eq_true]at h;show List.dropWhile _ (c::(d++58::r))=_;rw[List.dropWhile_cons,zy h.1];exact EA r d h.2
theorem QH {i j:Nat}(hi:i<39)(a:j<39)(s:Wd)(c:jx):ko (yh i s c)=ko (yh j s c):=by
 have d: ∀i:Nat,i<39->((fX (i+1)).all λc=>c.toNat !=58)=true:=λi h=>ap.1 SA (i+1) (List.mem_range.2 (by omega))
 cases c<;>simp only[yh,List.append_assoc,cA,List.nil_append]<;>rw[EA _ _ (d i hi),EA _ _ (d j a)]
theorem C6: ∀(l:List Wd) (a:cQ) (i j:Nat),i+l.length<39->j+l.length<39->(ee a i l).1.map ko=(ee a j l).1.map ko/\(ee a i l).2=(ee a j l).2
 |[],_,_,_,_,_=>⟨zz,zz⟩
 |s::l,a,i,j,hi,b=>by
  simp only[cB]at hi b;have h:=C6 l (qN a (iq a s)) (i+1) (j+1) (by omega) (by omega)
  simp only[ee,List.map_cons];rw[QH (i:=i) (j:=j) (by omega) (by omega),h.1,h.2];exact⟨zz,zz⟩
theorem Fk: ∀(u v:List Wd) (a:cQ) (i:Nat),ee a i (u++v)=((ee a i u).1++(ee (ee a i u).2 (i+u.length) v).1,(ee (ee a i u).2 (i+u.length) v).2)
 |[],v,a,i=>rfl
 |s::u,v,a,i=>by
  have h:=Fk u v (qN a (iq a s)) (i+1);simp only[cA,ee,h,cB,show i+(u.length+1)=i+1+u.length by omega]
theorem Gs {a:cQ}(ok:a.OK)(l:List Wd)(i:Nat):(ee a i l).2.OK:=by rw[(jv l a i).2.1];exact xg ok [] l _
theorem ach {a:cQ}(w:a.wf){l:List Wd}(h:dU a l=0)(n:Nat)(u:n<=l.length):
 ∃(b:cQ) (x y z:List Wd) (c:cQ),b.wf/\c.OK/\mQ a l=(x,c,0)/\mQ a (l.take n)=(y,b,0)/\mQ b (l.drop n)=(z,c,0)/\(y++z).map ko=x.map ko/\x.length<=14/\(y++z).length<=14/\(∀s∈x,s.length<=9223372036854775807)/\ ∀s∈y++z,s.length<=9223372036854775807:=by
 have hh:(cF a).2=0/\l.length<=14/\l.all dC=true:=by
  unfold dU at h;split at h;exact absurd h (by assumption);split at h;cases h;split at h;cases h;rename_i i r j;exact⟨by simpa using i,by omega,by simpa using j⟩
 have ok:=rU w hh.1;have d:=Gs ok (l.take n) 0
 have o:dU a (l.take n)=0:=by
  unfold dU;rw[zj (λg=>g hh.1),zj (by rw[bs];omega),zj];rw[cx,ap];exact λx hx=>ap.1 hh.2.2 x (b6 hx)
 have p:dU (ee a 0 (l.take n)).2 (l.drop n)=0:=by
  unfold dU;rw[zj (λg=>g d.z),zj (by rw[a8];omega),zj];rw[cx,ap];exact λx hx=>ap.1 hh.2.2 x (b4 hx)
 have e:=Fk (l.take n) (l.drop n) a 0;rw[List.take_append_drop]at e
 have t:=C6 (l.drop n) (ee a 0 (l.take n)).2 0 (0+(l.take n).length) (by rw[a8];omega) (by rw[a8,bs];omega)
 have f: ∀(b:cQ) (m:List Wd),b.OK->m.length<=14->m.all dC=true-> ∀s∈(ee b 0 m).1,s.length<=9223372036854775807:=λb m q hm k s hs=>by
  rw[<-vl]at hs;have:=DB q (by omega) (λs h=>by have:=ap.1 k s h;unfold dC at this;simp at this;omega) hs;omega
 refine⟨_,(ee a 0 l).1,(ee a 0 (l.take n)).1,(ee (ee a 0 (l.take n)).2 0 (l.drop n)).1,(ee a 0 l).2,d.w,Gs ok l 0,by unfold mQ;rw[zj (λg=>g h)],by unfold mQ;rw[zj (λg=>g o)],?_,?_,?_,?_,?_,?_⟩
 ·unfold mQ;rw[zj (λg=>g p),e,t.2]
 ·rw[b3,t.1,e,b3]
 ·rw[(jv l a 0).1];exact hh.2.1
 ·rw[List.length_append,(jv _ _ _).1,(jv _ _ _).1,bs,a8];omega
 ·exact f a l ok hh.2.1 hh.2.2
 ·intro s hs;rcases List.mem_append.1 hs with g|g
  ·exact f a _ ok (by rw[bs];omega) (ap.2 λx hx=>ap.1 hh.2.2 x (b6 hx)) s g
  ·exact f _ _ d (by rw[a8];omega) (ap.2 λx hx=>ap.1 hh.2.2 x (b4 hx)) s g
theorem Lz (a:cQ)(w:a.wf)(l:List Wd)(hl:l.length<=9223372036854775807)(hs: ∀s∈l,s.length<=9223372036854775807)(v:Nat)(J:v<256):Ev ad 3 [.agg a.ao,strs l,.v (.int .u8 v)] (B true):=by
 have hd:=C4 w hl;have ha:=Za
 by_cases h:dU a l=0
 ·obtain⟨b,x,y,z,c,bw,j,d1,d2,d3,D,K,L,xs,ys⟩:=ach w h (v%(l.length+1)) (by have:=dn v (show 0<l.length+1 by omega);omega)
  have p:l.length<=14:=by unfold dU at h;split at h;contradiction;split at h;cases h;omega
  have d:=C4 w (l:=l.take (v%(l.length+1))) (by rw[bs];omega);have f:=C4 bw (l:=l.drop (v%(l.length+1))) (by rw[a8];omega)
  rw[d1]at hd;rw[d2]at d;rw[d3]at f;have he:=Yt j;have t1:=KU x (by omega) xs;have t2:=KU (y++z) (by omega) ys;have H:=ns (x.map ko);rw[D]at t2
  have m:v%(l.length+1)<=l.length:=by have:=dn v (show 0<l.length+1 by omega);omega
  generalize A:v%(l.length+1)=n at d f m
  have r:kI (l.map λs=>[bh s]) none (some (n:Int).toNat)=(l.take n).map λs=>[bh s]:=by simp [kI,List.map_take]
  have u:kI (l.map λs=>[bh s]) (some (n:Int).toNat) none=(l.drop n).map λs=>[bh s]:=by simp [kI,List.map_drop]
  unfold strs at d f t2;rw[<-r]at d;rw[<-u]at f;rw[b3]at t2
  have k:(v:Int)%(((l.map λs=>[bh s]).length:Int)+1)=n:=by rw[bA,<-A];simp
  have E:(none:Option Nat).getD 0<=(some (n:Int).toNat).getD (l.map λs=>[bh s]).length:=b1 _
  have F:(some (n:Int).toNat).getD (l.map λs=>[bh s]).length<=(l.map λs=>[bh s]).length:=by rw[bA];exact m
  have G:(some (n:Int).toNat).getD 0<=(none:Option Nat).getD (l.map λs=>[bh s]).length:=by show n<=(l.map λs=>[bh s]).length;rw[bA];exact m
  refine Ev.Di S3.ok ?_;refine bE [.bY] zz aK ?_;refine bE [.ret (.cG [strs x,.agg c.ao,I 0]),.aT] zz (by(repeat' (with_reducible apply an));(all_goals first|exact zk _|((first|exact hd|rfl|exact bx _)))) ?_
  refine aU.oj (bO.trans (bO.jL (t:=8) zz) (bO.el (l:=[(1,strs l),(2,.v (.int .u8 v)),(3,.pi a.ao),(7,strs x),(8,.pi c.ao),(9,I 0)]) ⟨zz,zz,zz,zz,zz,zz,zq⟩)) ?_
  refine aU.seq (aU.seq ?_);refine cZ zz ?_;refine aU.its zz zz ?_
  refine bE [] zz ⟨fh (by omega) (by omega),by rw[bA];omega,⟨by omega,by omega⟩,zq⟩ ?_
  refine aU.oj (bO.el (l:=[(1,strs l),(3,.pi a.ao),(7,strs x),(8,.pi c.ao),(10,I n)]) ⟨zz,zz,zz,zz,by rw[<-k];rfl,zq⟩) ?_
  refine xe [] [.ret (.cG [strs y,.agg b.ao,I 0]),.aT] zz (by(repeat' (with_reducible apply an));(all_goals first|exact d|exact E|exact F|rfl|exact bx _|exact zk _)) ?_
  refine aU.oj (bO.trans (bO.jL (t:=12) zz) (bO.el (l:=[(1,strs l),(7,strs x),(8,.pi c.ao),(10,I n),(11,strs y),(12,.pi b.ao),(13,I 0)]) ⟨zz,zz,zz,zz,zz,zz,zz,zq⟩)) ?_
  refine xe [] [.ret (.cG [strs z,.agg c.ao,I 0]),.aT] zz (by(repeat' (with_reducible apply an));(all_goals first|exact f|exact G|rfl|exact bx _|exact zk _)) ?_
  refine aU.oj (bO.trans (bO.jL (t:=15) zz) (bO.el (l:=[(7,strs x),(8,.pi c.ao),(11,strs y),(13,I 0),(14,strs z),(15,.pi c.ao),(16,I 0)]) ⟨zz,zz,zz,zz,zz,zz,zz,zq⟩)) ?_
  refine fc [(66,[.ev he]),(69,[.i .aT]),(71,[.i .bY]),(73,[.i .bY]),(74,[.ev t2]),(76,[.ev t1]),(77,[.ev H]),(80,[.ev ha])] [] ?_
  repeat' first|apply aN|apply aM|apply aL|apply ax|apply an|(intro o;(try simp only[nL]at o);(try contradiction))
  all_goals try first|exact fo _|exact fi _
 ·have C:Hp a l=false:=by
   unfold dU at h;unfold Hp;split at h;rename_i g;rw[show ((cF a).2==0)=false by simpa using g];rfl
   split at h;rename_i g;rw[show decide (l.length<=14)=false by simp;omega];simp
   split at h;rename_i g;rw[g];simp
   exact absurd zz h
  have q:=RQ a w l hl hs;rw[C]at q;rw[show mQ a l=([],kr,dU a l) from zy h]at hd;generalize dU a l=e at h hd
  refine Ev.Di S3.ok ?_;refine bE [.bY] zz aK ?_;refine bE [.ret (.cG [strs [],.agg kr.ao,I e]),.aT] zz (by(repeat' (with_reducible apply an));(all_goals first|exact zk _|((first|exact hd|rfl|exact bx _)))) ?_
  refine aU.oj (bO.trans (bO.jL (t:=8) zz) (bO.el (l:=[(1,strs l),(2,.v (.int .u8 v)),(3,.pi a.ao),(9,I e)]) ⟨zz,zz,zz,zz,zq⟩)) ?_
  refine fc [(28,[.ev q]),(31,[.ev ha])] [] ?_
  repeat' first|exact absurd (show e=0 from bB) h|apply aN|apply aM|apply aL|apply ax|apply an|(intro o;(try simp only[nL]at o);(try contradiction))
  all_goals try first|exact fo _|exact fi _
def Fit (s:Sh)(p:b->Prop)(e:b->List AV):Prop:= ∀l,Fits s l-> ∃a,p a/\l=e a
def TF (s:List Sh)(p:b->Prop)(e:b->List AV):Prop:= ∀l,pF s l-> ∃a,p a/\l=e a
abbrev RX (n:Int):Prop:= -9223372036854775808<=n/\n<=9223372036854775807
theorem fI:Fit (.int .i64) RX λn=>[I n]:=λl h=>by simp only[Fits]at h;obtain⟨n,rfl,a⟩:=h;exact⟨n,bounds_i64 a,zz⟩
theorem f8:Fit (.int .u8) (λn:Int=>0<=n/\n<256) λn=>[U n]:=λl h=>by simp only[Fits]at h;obtain⟨n,rfl,a⟩:=h;have:=bounds_u8 a;exact⟨n,⟨by omega,by omega⟩,zz⟩
theorem fB:Fit .bool (λ_:Bool=>True) λb=>[B b]:=λl h=>by simp only[Fits]at h;obtain⟨b,rfl⟩:=h;exact⟨b,zq,zz⟩
theorem fS:Fit .str M1 λs=>[bh s]:=λl h=>by simp only[Fits]at h;obtain⟨s,rfl,hs⟩:=h;exact⟨s.data.toList,by unfold M1;unfold maxLen at hs;simpa using hs,zz⟩
theorem Gw {α:Type}{p:α->Prop}{e:α->List AV}{s:Sh}(h:Fit s p e): ∀{es:List (List AV)},(∀x∈es,Fits s x)-> ∃l:List α,(∀a∈l,p a)/\es=l.map e
 |[],_=>⟨[],by simp,zz⟩
 |x::es,he=>by
  obtain⟨l,b,c⟩:=Gw h (es:=es) (λy hy=>he y (List.mem_cons_of_mem _ hy));obtain⟨a,ha,hl⟩:=h x (he x (List.mem_cons_self ..))
  exact⟨a::l,by simp only[List.forall_mem_cons];exact⟨ha,b⟩,by simp [hl,c]⟩
theorem fL {α:Type}{p:α->Prop}{e:α->List AV}(h:Fit s p e):Fit (.sl s) (λl:List α=>(∀a∈l,p a)/\l.length<=9223372036854775807) λl=>[.sl s.sz (l.map e)]:=λl hl=>by
 rw[Fits.eq_4]at hl;obtain⟨es,rfl,b,he⟩:=hl;obtain⟨l,c,rfl⟩:=Gw h he;exact⟨l,⟨c,by unfold maxLen at b;simpa using b⟩,zz⟩
theorem fN:TF [] (λ_:Unit=>True) λ_=>[]:=λl h=>⟨(),zq,by simpa only[pF] using h⟩
theorem fC {α β:Type}{ss:List Sh}{p:α->Prop}{e:α->List AV}{q:β->Prop}{g:β->List AV}(h:Fit s p e)(k:TF ss q g):TF (s::ss) (λx:α×β=>p x.1/\q x.2) λx=>e x.1++g x.2:=λl hl=>by
 simp only[pF]at hl;obtain⟨l1,l2,rfl,c,d⟩:=hl;obtain⟨a,ha,rfl⟩:=h _ c;obtain⟨b,f,rfl⟩:=k _ d;exact⟨(a,b),⟨ha,f⟩,zz⟩
theorem fT {α β:Type}{ss:List Sh}{p:α->Prop}{e:α->List AV}{q:β->Prop}{g:β->List AV}(h:TF ss p e)(f:α->β)(b: ∀x,p x->q (f x))(he: ∀x,e x=g (f x)):Fit (.st ss) q g:=λl hl=>by
 rw[Fits.eq_6]at hl;obtain⟨a,ha,rfl⟩:=h l hl;exact⟨f a,b a ha,he a⟩
abbrev nT:b->Prop:=λ_=>True
abbrev qc:Sh:= .sl .str
abbrev vg:Sh:= .st [.int .i64,.int .i64]
theorem fW:Fit qc (λl:List Wd=>(∀s∈l,M1 s)/\l.length<=9223372036854775807) λl=>[strs l]:=fL fS
theorem ab9:Fit (.st [qc,vg]) Part.wf Part.ao:=fT (fC fW (fC (fT (fC fI (fC fI fN)) (q:=λx:Int×Int=>RX x.1/\RX x.2) (g:=λx=>[I x.1,I x.2]) (λx=>(x.1,x.2.1)) (λx h=>⟨h.1,h.2.1⟩) λ_=>rfl) fN)) (λx=>⟨x.1,x.2.1.1,x.2.1.2⟩) (λx h=>⟨h.1.1,h.2.1.1.1,h.2.1.1.2,h.2.1.2.1,h.2.1.2.2⟩) λ_=>rfl
theorem abH:Fit (.st [.str,.sl (.st [qc,vg])]) Form.wf Form.ao:=fT (fC fS (fC (fL ab9) fN)) (λx=>⟨x.1,x.2.1⟩) (λx h=>⟨h.1,h.2.1.1⟩) λ_=>rfl
abbrev Om:Sh:= .st [.int .i64,.sl (.st [.str,.sl (.st [qc,vg])])]
theorem Y7:Fit Om Shelf.wf Shelf.ao:=fT (fC fI (fC (fL abH) fN)) (λx=>⟨x.1,x.2.1⟩) (λx h=>⟨h.1.1,h.1.2,h.2.1.1⟩) λ_=>rfl
theorem Xb:Fit (.st [.int .u8,.int .i64,.bool]) bc.wf bc.ao:=fT (fC f8 (fC fI (fC fB fN))) (λx=>⟨x.1,x.2.1,x.2.2.1⟩) (λx h=>⟨h.1.1,h.1.2,h.2.1.1,h.2.1.2⟩) λ_=>rfl
theorem acS:Fit (.st [.str,.sl (.st [.int .u8,.int .i64,.bool])]) iB.wf iB.ao:=fT (fC fS (fC (fL Xb) fN)) (λx=>⟨x.1,x.2.1⟩) (λx h=>⟨h.1,h.2.1.1⟩) λ_=>rfl
theorem XO:Fit (.st [.int .i64,.str]) cL.wf cL.ao:=fT (fC fI (fC fS fN)) (λx=>⟨x.1,x.2.1⟩) (λx h=>⟨h.1.1,h.1.2,h.2.1⟩) λ_=>rfl
abbrev W9:Sh:= .st [.int .i64,.sl (.st [.str,.sl (.st [.int .u8,.int .i64,.bool])]),.sl (.st [.int .i64,.str])]
theorem abQ:Fit W9 dy.wf dy.ao:=fT (fC fI (fC (fL acS) (fC (fL XO) fN))) (λx=>⟨x.1,x.2.1,x.2.2.1⟩) (λx h=>⟨h.1.1,h.1.2,h.2.1.1,h.2.2.1.1⟩) λ_=>rfl
abbrev aaN:Sh:= .st [.int .i64,.int .i64,vg,.int .i64]
theorem aeI:Fit aaN fw.wf fw.ao:=fT (fC fI (fC fI (fC (fT (fC fI (fC fI fN)) (q:=λx:Int×Int=>RX x.1/\RX x.2) (g:=λx=>[I x.1,I x.2]) (λx=>(x.1,x.2.1)) (λx h=>⟨h.1,h.2.1⟩) λ_=>rfl) (fC fI fN)))) (λx=>⟨x.1,x.2.1,x.2.2.1.1,x.2.2.1.2,x.2.2.2.1⟩) (λx ⟨a,b,c,d,_⟩=>⟨a.1,a.2,b.1,b.2,c.1.1,c.1.2,c.2.1,c.2.2,d.1,d.2⟩) λ_=>rfl
abbrev TL:Sh:= .st [W9,.int .i64,.sl aaN,.sl (.st [.int .i64,.int .i64,.bool])]
theorem ae5:Fit (.st [.int .i64,.int .i64,.bool]) nT sr.ao:=fT (fC fI (fC fI (fC fB fN))) (λx=>⟨x.1,x.2.1,x.2.2.1⟩) (λ_ _=>trivial) λ_=>rfl
theorem abF:Fit TL be.wf be.ao:=fT (fC abQ (fC fI (fC (fL aeI) (fC (fL ae5) fN)))) (λx=>⟨x.1,x.2.1,x.2.2.1,x.2.2.2.1⟩) (λx h=>⟨h.1,h.2.1.1,h.2.1.2,h.2.2.1.1⟩) λ_=>rfl
abbrev TG:Sh:= .st [.str,.sl (.int .i64)]
theorem aaF:Fit TG (λx:qm=>x.nm.length<=9223372036854775807) qm.ao:=fT (fC fS (fC (fL fI) fN)) (λx=>⟨x.1,x.2.1⟩) (λx h=>h.1) λ_=>rfl
abbrev aax:Sh:= .st [.int .i64,.int .i64,.int .i64,.sl TG,.sl TG]
theorem aeU:Fit aax ln.wf ln.ao:=fT (fC fI (fC fI (fC fI (fC (fL aaF) (fC (fL aaF) fN))))) (λx=>⟨x.1,x.2.1,x.2.2.1,x.2.2.2.1,x.2.2.2.2.1⟩) (λx ⟨a,b,_,d,e,_⟩=>⟨a.1,a.2,b.1,b.2,d.1,e.1⟩) λ_=>rfl
theorem aeo:Fit (.st [.str,.int .i64,.int .i64]) (λx:kW=>x.nm.length<=9223372036854775807) kW.ao:=fT (fC fS (fC fI (fC fI fN))) (λx=>⟨x.1,x.2.1,x.2.2.1⟩) (λx h=>h.1) λ_=>rfl
theorem ae8:Fit (.st [.int .i64,.int .i64,.int .i64,.int .i64,.bool]) nT rc.ao:=fT (fC fI (fC fI (fC fI (fC fI (fC fB fN))))) (λx=>⟨x.1,x.2.1,x.2.2.1,x.2.2.2.1,x.2.2.2.2.1⟩) (λ_ _=>trivial) λ_=>rfl
theorem aez:Fit vg nT EB.ao:=fT (fC fI (fC fI fN)) (λx=>⟨x.1,x.2.1⟩) (λ_ _=>trivial) λ_=>rfl
abbrev aaY:Sh:= .st [qc,.sl (.st [.str,.int .i64,.int .i64]),.sl (.st [.int .i64,.int .i64,.int .i64,.int .i64,.bool]),.sl vg]
theorem aeR:Fit aaY gO.wf gO.ao:=fT (fC fW (fC (fL aeo) (fC (fL ae8) (fC (fL aez) fN)))) (λx=>⟨x.1,x.2.1,x.2.2.1,x.2.2.2.1⟩) (λx ⟨a,b,c,d,_⟩=>⟨a.1,b.1,a.2,b.2,c.2,d.2⟩) λ_=>rfl
theorem ae3:Fit (.st [.int .i64,.int .i64,.int .i64,.int .i64]) nT pC.ao:=fT (fC fI (fC fI (fC fI (fC fI fN)))) (λx=>⟨x.1,x.2.1,x.2.2.1,x.2.2.2.1⟩) (λ_ _=>trivial) λ_=>rfl
theorem aet:Fit vg nT Ss.ao:=fT (fC fI (fC fI fN)) (λx=>⟨x.1,x.2.1⟩) (λ_ _=>trivial) λ_=>rfl
abbrev aaS:Sh:= .st [.int .i64,.int .i64,qc,.int .i64,.sl (.st [.int .i64,.int .i64,.int .i64,.int .i64]),.sl vg]
theorem adV:Fit aaS (λc:mh=>c.wf/\RX c.wo) mh.ao:=fT (fC fI (fC fI (fC fW (fC fI (fC (fL ae3) (fC (fL aet) fN)))))) (λx=>⟨x.1,x.2.1,x.2.2.1,x.2.2.2.1,x.2.2.2.2.1,x.2.2.2.2.2.1⟩) (λx ⟨a,_,c,_,d,e,_⟩=>⟨⟨c.1,c.2,d.2,e.2⟩,a⟩) λ_=>rfl
abbrev aa5:List Sh:=[Om,qc,TL,aax,aaY,aaS,.sl qc,.int .i64]
theorem ae1:TF aa5 (λx:Shelf×List Wd×be×ln×gO×mh×List (List Wd)×Int×Unit=>(⟨x.1,x.2.1,x.2.2.1,x.2.2.2.1,x.2.2.2.2.1,x.2.2.2.2.2.1,x.2.2.2.2.2.2.1,x.2.2.2.2.2.2.2.1⟩:cQ).wf) (λx=>cQ.ao ⟨x.1,x.2.1,x.2.2.1,x.2.2.2.1,x.2.2.2.2.1,x.2.2.2.2.2.1,x.2.2.2.2.2.2.1,x.2.2.2.2.2.2.2.1⟩):=λl hl=>by
 obtain⟨a,⟨d,e,f,h4,g,b,h,c,_⟩,rfl⟩:=fC Y7 (fC fW (fC abF (fC aeU (fC aeR (fC adV (fC (fL fW) (fC fI fN))))))) l hl
 exact⟨a,⟨d,f,h4,g,b.1,e.2,h.2,c.1,c.2,b.2.1,b.2.2⟩,zz⟩
theorem U0 (h:BE (.st aa5) v): ∃a:cQ,a.wf/\v= .agg a.ao:=by
 simp only[BE]at h;obtain⟨l,rfl,h⟩:=h;obtain⟨a,ha,rfl⟩:=ae1 l h;exact⟨_,ha,zz⟩
theorem RV (h:BE qc v): ∃l:List Wd,(∀s∈l,s.length<=9223372036854775807)/\l.length<=9223372036854775807/\v=strs l:=by
 have h:Fits qc [v]:=h;obtain⟨l,hl,e⟩:=fW _ h;simp only[c7,and_true]at e;exact⟨l,hl.1,hl.2,e⟩
theorem YY (h:BE (.int .u8) v): ∃n:Nat,n<256/\v=U n:=by
 have h:Fits (.int .u8) [v]:=h;obtain⟨n,a,e⟩:=f8 _ h;simp only[c7,and_true]at e;exact⟨n.toNat,by omega,by rw[e,Int.toNat_of_nonneg a.1]⟩
end Go.Px
