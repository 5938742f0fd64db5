/- Part 29 of the proof of a statement of this seat (a logic of pure contracts; the functions; their contracts). No conditions. -/
import Derived.Test.YtjjmmbcmdheooaaGreatDoorA28
open And renaming intro->ap
open ByteArray renaming mk->b6
open Go.IntKind renaming u8->b9
open Go.Lit renaming int->an,bool->bm
open Go.Program renaming keyLits->a6
open Go.Proofs.Tryz renaming prog->ad,underlying3->az,underlying96->bn,underlying106->bx,underlying115->bA,underlying117->bI,underlying119->b0,underlying140->b1,underlying163->b3,underlying169->b4,underlying4->b7,underlying9->b8
open Go.Value renaming formed->a7,cells->be
open List renaming mem_of_getElem?->a8,take_of_length_le->bs
open Nat renaming le_refl->bk,zero_le->bt
open Prod.mk renaming injEq->bi
set_option maxRecDepth 100000
set_option maxHeartbeats 16000000
namespace Go.Px
open Go.Proofs
theorem lS (l:List Wd):Ev ad 11 [strs l,strs l] (B true):=by have:=DB l l;rwa [show (l==l)=true from zj]at this
theorem Ev.EP {P:Program}{N:Nat}{f:FuncId}{rs:List ResultVar}{lc:bN}{args:List AV}{res:AV}(ok:rY P f N rs lc)(h:aJ P none N lc (HV P rs res) (dA args) [] []):Ev P f args res:=
 Ev.intro ok (aJ.CN h (λ_ _ _ _ a=>Hw a))
theorem Vi:Ev ad 13 [] (B true):=by
 have w:=zL;have a:=JA w (l:=eo) zq;rw[TD]at a;have n:=K8;have d:=Pb w (l:=eo) zq;rw[Zp]at d;have c:=MJ w (l:=HW) zq;rw[Sg]at c;have o:=Md
 have b:=Lr w (text:=wY) (l:=HW) (y:=(pj dQ wY).2.1) YU (by
  have D:=YW
  have r:=congrArg (·.1) Md
  simp only at r
  rw[<-D,<-r])
 have g:=PD w [112,97,121,32,97,108,108];have h:=PD w [114,101,97,100,32,116,111,114,110];have m:=PD w [99,111,112,121,32,98,101,110,32,49];rw[abp]at g;rw[abC]at h;rw[abo]at m;have i:=tW w;rw[aad]at i
 have q:Ev ad 6 [.agg dQ.enc,strs Mu] (.bZ [I 1,bg [50,58,32,108,111,115,116,32,62,32,45],I 0]):=by
  have ha:=EC Mu zq zq;rw[aak]at ha;have p:=Y0;refine MZ w zw zq ha rfl zw ?_;simp only[bi]at p
  have e:(List.range ([[104,101,108,100],[108,111,115,116]]:List Wd).length).find? (λk=>fw dQ [[104,101,108,100],[108,111,115,116]] k !=nx Mu k)=some 1:=by
   rw[List.find?_range_eq_some];refine⟨by rw[p.2];decide,zj,λj u=>?_⟩;have u:j=0:=zz
   subst u;rw[p.1];decide
  rw[e];show _=(((1:Nat):Int),fw dQ [[104,101,108,100],[108,111,115,116]] 1);rw[p.2];rfl
 generalize (kS dQ eo).2.1=x at a n;generalize (kS dQ eo).2.2=e at a n;generalize (pj dQ wY).2.1=y at b o;generalize (pj dQ wY).2.2=f at o;generalize (Po dQ [112,97,121,32,97,108,108]).1=F at g;generalize (Po dQ [112,97,121,32,97,108,108]).2.1=s1 at g;generalize (Po dQ [114,101,97,100,32,116,111,114,110]).1=G at h;generalize (Po dQ [114,101,97,100,32,116,111,114,110]).2.1=E at h;generalize (Po dQ [99,111,112,121,32,98,101,110,32,49]).1=H at m;simp only[bi]at n o;obtain⟨rfl,v,z,A⟩:=n;obtain⟨rfl,C⟩:=o;have ha:=Hf;have s:=Fj;refine Ev.EP S13.ok ?_;refine aC rfl ?_;refine bc [.ret (.agg dQ.enc),.aI] rfl (by(repeat' (with_reducible apply ap));(all_goals first|exact zk _|((first|exact ha|exact s|exact a|rfl|exact bk _)))) ?_;refine vj [] [.ret (strs eo),.ret (.bZ [strs gy,.agg x.enc,I 0]),.aI] rfl (by(repeat' (with_reducible apply ap));(all_goals first|exact zk _|((first|exact ha|exact s|exact a|rfl|exact bk _)))) ?_;refine aJ.lr (bB.trans (bB.jV (t:=1) rfl) (bB.trans (bB.jV (t:=3) rfl) (bB.el (l:=[(1,.pi dQ.enc),(2,strs gy),(3,.pi x.enc),(4,I 0)]) ⟨rfl,rfl,rfl,rfl,trivial⟩))) ?_;exact VW.go [(36,[.ev Fj]),(37,[.ev d]),(43,[.ev q]),(50,[.ev c]),(55,[.ev b]),(60,[.fz 13]),(61,[.ev g]),(67,[.ev h]),(73,[.ev m]),(79,[.ev i]),(122,[.ev L9]),(123,[.ev (lS gy)]),(145,[.ev (xt [2])]),(162,[.ev (lS HW)])] []
def Jk:Wd:=GX 60 15 gy
theorem aac:D8 dQ eo=(Jk,0):=by
 have c:dB dQ eo=0:=zw
 have b:=TD;have a:=K8;unfold kS at b a;rw[if_neg (λh=>h c)]at b a;unfold D8;rw[if_neg (λh=>h c),b];simp only[bi]at a;rw[a.2.1];rfl
theorem aa8:mZ (rA Jk)=(eo,true):=zw
theorem aa1:(decide (3000<Jk.length),decide ((aV 10 Jk).length<3))=(false,false):=zw
theorem X3:pj dQ Jk=(eo,(kS dQ eo).2.1,0):=by
 have b:dB dQ []=0:=zw
 have a:=K8;simp only[bi]at a;have hl:=aa1;simp only[bi,decide_eq_false_iff_not]at hl;unfold pj;rw[if_neg (λh=>h b),if_neg hl.1,if_neg hl.2,aa8];rw[if_neg zq,if_neg (λh=>h a.1),if_neg];rw[a.2.1,TD];exact λh=>h rfl
theorem Gr (m:Nat):Ev ad 6 [.agg dQ.enc,strs (gy.take m)] (.bZ [I (-1),bg [],I 0]):=by
 by_cases hm:m<=14
 ·exact Tx hm
 ·have:=Tx (m:=14) (bk _);rwa [bs (show gy.length<=14 from bk _),<-bs (show gy.length<=m from by show 14<=m;omega)]at this
theorem Xr {l:List Wd}{k:Nat}:ez (.sl 1 (jH (l.map λs=>[bg s]) none (some ((k:Int)+1).toNat))) (strs (l.take (k+1))):=by
 have e:jH (l.map λs=>[bg s]) none (some ((k:Int)+1).toNat)=(l.take (k+1)).map λs=>[bg s]:=by rw[show ((k:Int)+1).toNat=k+1 from zz];simp [jH,List.map_take]
 rw[e];exact ez.refl _
theorem T8 (a:Ev ad 12 [.agg (kS dQ eo).2.1.enc,.agg (kS dQ eo).2.1.enc] (B true)):Ev ad 3 [] (B true):=by
 have w:=zL;have ha:=Hf;have c:=Fj;have hc:=L9;have d:=MJ w (l:=eo) zq;rw[aac]at d;have hy:=JA w (l:=eo) zq;rw[TD]at hy;have b:=K8;simp only[bi]at b;rw[b.1]at hy;have hg:=Lr w zw X3;generalize (kS dQ eo).2.1=x at*
 refine Ev.EP S3.ok ?_;refine aC rfl ?_;refine bc [.ret (.agg dQ.enc),.aI] rfl (by(repeat' (with_reducible apply ap));(all_goals first|exact zk _|((first|exact ha|rfl|exact bk _)))) ?_;refine bc [.ret (strs gy)] rfl (by(repeat' (with_reducible apply ap));(all_goals first|exact zk _|((first|exact hc)))) ?_;refine aJ.lr (bB.trans (bB.jV (t:=1) rfl) (bB.el (l:=[(1,.pi dQ.enc),(2,strs gy)]) ⟨rfl,rfl,trivial⟩)) ?_;refine aJ.ZV ?_;refine VW.hh [] [(0,{n:=14,E:=λk=>[(1,.pi dQ.enc),(2,strs gy),(3,I k)],I:=λk=>True,K:=λk=>[(29,[.ev (Gr (k+1))])]})] ?_;repeat' first|apply VW.st|apply VO.st|apply VD.st|apply VS.step|apply ap|(intro e;(try simp only[nL]at e);(try contradiction))
 all_goals try first|exact fo _|exact⟨Gr _,λS f=>fC ⟨ez.refl _,Xr,trivial⟩⟩|exact fi _
 refine show Ob _ from⟨?_⟩;refine aJ.lr (bB.ofH (H':=[]) rfl |>.trans (bB.el (l:=[(1,.pi dQ.enc)]) ⟨rfl,trivial⟩)) ?_;refine vj [] [.ret (strs eo),.ret (.bZ [bg Jk,I 0])] rfl (by(repeat' (with_reducible apply ap));(all_goals first|exact zk _|((first|exact c|exact d|rfl)))) ?_;refine gm [(1,.pi dQ.enc),(7,bg Jk),(8,I 0)] ?_;refine bc [.ret (.bZ [strs eo,.agg x.enc,I 0]),.aI] rfl (by(repeat' (with_reducible apply ap));(all_goals first|exact zk _|((first|exact hg|rfl|exact bk _)))) ?_;refine aJ.lr (bB.trans (bB.jV (t:=10) rfl) (bB.el (l:=[(1,.pi dQ.enc),(8,I 0),(9,strs eo),(10,.pi x.enc),(11,I 0)]) ⟨rfl,rfl,rfl,rfl,rfl,trivial⟩)) ?_;refine vj [] [.ret (strs eo),.ret (.bZ [strs gy,.agg x.enc,I 0]),.aI] rfl (by(repeat' (with_reducible apply ap));(all_goals first|exact zk _|((first|exact c|exact hy|rfl|exact bk _)))) ?_;refine aJ.lr (bB.trans (bB.jV (t:=13) rfl) (bB.el (l:=[(8,I 0),(9,strs eo),(10,.pi x.enc),(11,I 0),(13,.pi x.enc),(14,I 0)]) ⟨rfl,rfl,rfl,rfl,rfl,rfl,trivial⟩)) ?_;exact VW.go [(75,[.ev Fj]),(76,[.ev (lS eo)]),(81,[.ev a]),(84,[.ev Vi])] []
theorem uD {T:TypeId}{u:Value}(g:xJ ad T=true)(hk:ad.keyTypeAt 5 T=true)(f:ad.tiled 5 T=true)(hg:ad.eqGuardType ad.depth T=false)(wk:bJ ad 5 T u){p:AV}(c:valOf p=some u){a b:Operand}{env:Env}{H:Heap}{d:Nat}(ha:bu env a=p)(e:bu env b=p):
  Ob (∀(r:Option Nat) (N:Nat) (D:List Nat),Q1 ad r N (.nI true T a b) (some d) env H D [(d,B false)]):=
 ⟨λ_ _ _=>Q1.of λ_ k=>aF.nI (m:=5) (DD:=5) zq g hk f hg (by rw[ha];exact c) (by rw[e];exact c) wk wk true zj k⟩
theorem QW {s:Wd}(h:s.length<=9223372036854775807):(b6 s.toArray).size<=maxLen:=by show s.length<=maxLen;unfold maxLen;omega
theorem Xl {c s:Int}{q:Bool}(h:(an .u8 c).wf=true)(i:(an .i64 s).wf=true):bJ ad 5 163 (.agg #[.int .u8 c,.int .i64 s,.bool q]):=by
 have a:ad.cellsOf 163=3:=zw
 have d:ad.cellsOf 3=1:=zw
 have e:ad.cellsOf 4=1:=zw
 have g:ad.cellsOf 9=1:=zw
 have f:ad.cellsOf 5=1:=zw
 have k:ad.cellsOf 96=2:=zw
 have j: ∀b,(bm b).wf=true:=λ_=>rfl;refine⟨?_,[.int .u8 c,.int .i64 s,.bool q],?_⟩
 ·simp [a7,b3,a]
 ·simp (decide:=true) [be,a6,b3,az,b7,a,d,e,g,h,i,j,f,Tryz.underlying5]
theorem Yx {a:Int}{t:Wd}(g:(an .i64 a).wf=true)(h:(b6 t.toArray).size<=maxLen):bJ ad 5 169 (.agg #[.int .i64 a,.string ⟨t.toArray⟩]):=by
 have c:ad.cellsOf 169=2:=zw
 have d:ad.cellsOf 3=1:=zw
 have e:ad.cellsOf 4=1:=zw
 have f:ad.cellsOf 9=1:=zw
 have i:ad.cellsOf 5=1:=zw
 have j:ad.cellsOf 96=2:=zw
 have k: ∀b,(bm b).wf=true:=λ_=>rfl;refine⟨?_,[.int .i64 a,.string t],?_⟩
 ·simp [a7,b4,c]
 ·simp (decide:=true) [be,a6,b4,az,b8,c,d,e,f,g,h]
theorem Yz {a b c d e:Int}(k:(an .i64 a).wf=true)(l:(an .i64 b).wf=true)(m:(an .i64 c).wf=true)(h4:(an .i64 d).wf=true)(n:(an .i64 e).wf=true):bJ ad 5 106 (.agg #[.int .i64 a,.int .i64 b,.int .i64 c,.int .i64 d,.int .i64 e]):=by
 have f:ad.cellsOf 106=5:=zw
 have g:ad.cellsOf 3=1:=zw
 have h:ad.cellsOf 4=1:=zw
 have i:ad.cellsOf 9=1:=zw
 have o:ad.cellsOf 5=1:=zw
 have j:ad.cellsOf 96=2:=zw
 have p: ∀b,(bm b).wf=true:=λ_=>rfl;refine⟨?_,[.int .i64 a,.int .i64 b,.int .i64 c,.int .i64 d,.int .i64 e],?_⟩
 ·simp [a7,bx,f]
 ·simp (decide:=true) [be,a6,bx,az,f,g,h,i,k,l,m,h4,n,j,bn]
theorem X7 {a b:Int}{t:Wd}(g:(an .i64 a).wf=true)(h:(an .i64 b).wf=true)(i:(b6 t.toArray).size<=maxLen):bJ ad 5 115 (.agg #[.string ⟨t.toArray⟩,.int .i64 a,.int .i64 b]):=by
 have c:ad.cellsOf 115=3:=zw
 have d:ad.cellsOf 3=1:=zw
 have e:ad.cellsOf 4=1:=zw
 have f:ad.cellsOf 9=1:=zw
 have j:ad.cellsOf 5=1:=zw
 have k:ad.cellsOf 96=2:=zw
 have l: ∀b,(bm b).wf=true:=λ_=>rfl;refine⟨?_,[.string t,.int .i64 a,.int .i64 b],?_⟩
 ·simp [a7,bA,c]
 ·simp (decide:=true) [be,a6,bA,az,b8,c,d,e,f,g,h,i]
theorem Xo {a b c d:Int}{q:Bool}(i:(an .i64 a).wf=true)(j:(an .i64 b).wf=true)(k:(an .i64 c).wf=true)(h4:(an .i64 d).wf=true):bJ ad 5 117 (.agg #[.int .i64 a,.int .i64 b,.int .i64 c,.int .i64 d,.bool q]):=by
 have e:ad.cellsOf 117=5:=zw
 have f:ad.cellsOf 3=1:=zw
 have g:ad.cellsOf 4=1:=zw
 have h:ad.cellsOf 9=1:=zw
 have m:ad.cellsOf 5=1:=zw
 have n:ad.cellsOf 96=2:=zw
 have l: ∀b,(bm b).wf=true:=λ_=>rfl;refine⟨?_,[.int .i64 a,.int .i64 b,.int .i64 c,.int .i64 d,.bool q],?_⟩
 ·simp [a7,bI,e]
 ·simp (decide:=true) [be,a6,bI,az,b7,e,f,g,h,i,j,k,h4,l]
theorem Xx {a b:Int}(g:(an .i64 a).wf=true)(h:(an .i64 b).wf=true):bJ ad 5 119 (.agg #[.int .i64 a,.int .i64 b]):=by
 have c:ad.cellsOf 119=2:=zw
 have d:ad.cellsOf 3=1:=zw
 have e:ad.cellsOf 4=1:=zw
 have f:ad.cellsOf 9=1:=zw
 have i:ad.cellsOf 5=1:=zw
 have j:ad.cellsOf 96=2:=zw
 have k: ∀b,(bm b).wf=true:=λ_=>rfl;refine⟨?_,[.int .i64 a,.int .i64 b],?_⟩
 ·simp [a7,b0,c]
 ·simp (decide:=true) [be,a6,b0,az,c,d,e,f,g,h]
theorem Xg {a b:Int}(g:(an .i64 a).wf=true)(h:(an .i64 b).wf=true):bJ ad 5 140 (.agg #[.int .i64 a,.int .i64 b]):=by
 have c:ad.cellsOf 140=2:=zw
 have d:ad.cellsOf 3=1:=zw
 have e:ad.cellsOf 4=1:=zw
 have f:ad.cellsOf 9=1:=zw
 have i:ad.cellsOf 5=1:=zw
 have j:ad.cellsOf 96=2:=zw
 have k: ∀b,(bm b).wf=true:=λ_=>rfl;refine⟨?_,[.int .i64 a,.int .i64 b],?_⟩
 ·simp [a7,b1,c]
 ·simp (decide:=true) [be,a6,b1,az,c,d,e,f,g,h]
theorem nE {x:Int}(a: -9223372036854775808<=x)(b:x<=9223372036854775807):(an .i64 x).wf=true:=qN a b
theorem Ak {n k:Nat}(h:n<=k):(2:Int)^n<=2^k:=by have:=Nat.pow_le_pow_right (n:=2) zq h;exact_mod_cast this
theorem wSu {m:iX}(h:m.OK){x:nz}(hx:x∈m.su):bJ ad 5 115 (.agg #[.string ⟨x.nm.toArray⟩,.int .i64 x.pe,.int .i64 x.fo]):=by have q:=h.su x hx;have p:(2:Int)^m.cl.length<=2^4:=Ak h.c4;exact X7 (nE zz zz) (nE zz zz) (QW (h.wf.su x hx))
theorem wWo {m:iX}(h:m.OK){x:vA}(hx:x∈m.wo):bJ ad 5 117 (.agg #[.int .i64 x.sa,.int .i64 x.su,.int .i64 x.of,.int .i64 x.ba,.bool x.ca]):=by
 obtain⟨a,b,c,d,e,f,g,i,j⟩:=h.wo x hx;have p:=h.c4;have k:=h.s5;have p3:=h.w6
 have:x.of<10:=by
  by_cases 2<=x.sa
  ·have:=f zy;omega
  ·have:=g zz;omega
 exact Xo (nE zz zz) (nE zz zz) (nE zz zz) (nE zz zz)
theorem wPa {m:iX}(h:m.OK){x:DX}(hx:x∈m.pa):bJ ad 5 119 (.agg #[.int .i64 x.su,.int .i64 x.cl]):=by have q:=h.pa x hx;have p:=h.c4;have a:=h.s5;exact Xx (nE zz zz) (nE zz zz)
instance:Inhabited vA:=⟨⟨0,0,0,0,false⟩⟩
theorem U7 {m:iX}(h:m.OK):Ev ad 26 [.agg m.enc,.agg m.enc] (B true):=by
 have s5:=h.s5;have w6:=h.w6;have p5:=h.p5;refine dV S26.ok (kh [(4,[.fz 2,.fz 3]),(12,[.ev (lS m.cl)])]) (lh [(0,{n:=m.su.length,E:=λk=>[(2,.pi m.enc),(3,.pi m.enc),(5,I k)],I:=λk=>True,K:=λk=>[(51,[.i (.cells (nx m.su k).enc)]),(56,[.i (.cells (nx m.su k).enc)]),(58,[.i (.op (B false))])]}),(2,{n:=m.wo.length,E:=λk=>[(2,.pi m.enc),(3,.pi m.enc),(6,I k)],I:=λk=>True,K:=λk=>[(69,[.i (.cells (nx m.wo k).enc)]),(74,[.i (.cells (nx m.wo k).enc)]),(76,[.i (.op (B false))])]}),(4,{n:=m.pa.length,E:=λk=>[(2,.pi m.enc),(3,.pi m.enc),(7,I k)],I:=λk=>True,K:=λk=>[(87,[.i (.cells (nx m.pa k).enc)]),(92,[.i (.cells (nx m.pa k).enc)]),(94,[.i (.op (B false))])]})]) ?_;repeat' first|apply aP|apply aO|apply aN|apply aw|apply ap|(intro a;(try simp only[nL]at a);(try contradiction))
 all_goals try first|exact fo _|exact uD zw zw zw zw (wSu h (fE zz)) rfl rfl rfl|exact uD zw zw zw zw (wWo h (fE zz)) rfl rfl rfl|exact uD zw zw zw zw (wPa h (fE zz)) rfl rfl rfl|exact fi _
 done
instance:Inhabited V5:=⟨⟨0,0⟩⟩
instance:Inhabited eY:=⟨⟨0,0,0,0,0⟩⟩
instance:Inhabited ry:=⟨⟨0,0,false⟩⟩
instance:Inhabited cQ:=⟨⟨0,[]⟩⟩
theorem wCo {c:lH}(h:c.OK){x:nU}(hx:x∈c.co):bJ ad 5 68 (.agg #[.int .i64 x.nu,.int .i64 x.wo,.int .i64 x.fa,.int .i64 x.ma]):=by obtain⟨⟨a,b⟩,⟨d,e⟩,⟨f,g⟩,i,j⟩:=h.co x hx;have:=h.la;have k:(2:Int)^c.wo.toNat<=2^5:=Ak (by have:=h.wo;omega);have l:(2:Int)^c.fa.toNat<=2^6:=Ak (by have:=h.fa;omega);have p3:(2:Int)^c.pe.length<=2^3:=Ak h.p3;exact Sa (nE zz zz) (nE zz zz) (nE zz zz) (nE zz zz)
theorem wRu {c:lH}(h:c.OK)(a: ∀x∈c.ru,(-1<=x.J3/\x.J3<=64)/\ -1<=x.th/\x.th<=64){x:V5}(hx:x∈c.ru):bJ ad 5 140 (.agg #[.int .i64 x.J3,.int .i64 x.th]):=by grind [Xg,nE]
theorem Uj {c:lH}(h:c.OK)(b: ∀x∈c.ru,(-1<=x.J3/\x.J3<=64)/\ -1<=x.th/\x.th<=64):Ev ad 27 [.agg c.enc,.agg c.enc] (B true):=by
 have c6:=h.c6;have r4:=h.r4;refine dV S27.ok (kh [(4,[.fz 2,.fz 3]),(31,[.ev (lS c.pe)])]) (lh [(0,{n:=c.co.length,E:=λk=>[(2,.pi c.enc),(3,.pi c.enc),(5,I k)],I:=λk=>True,K:=λk=>[(62,[.i (.cells (nx c.co k).enc)]),(67,[.i (.cells (nx c.co k).enc)]),(69,[.i (.op (B false))])]}),(2,{n:=c.ru.length,E:=λk=>[(2,.pi c.enc),(3,.pi c.enc),(6,I k)],I:=λk=>True,K:=λk=>[(80,[.i (.cells (nx c.ru k).enc)]),(85,[.i (.cells (nx c.ru k).enc)]),(87,[.i (.op (B false))])]})]) ?_;repeat' first|apply aP|apply aO|apply aN|apply aw|apply ap|(intro a;(try simp only[nL]at a);(try contradiction))
 all_goals try first|exact fo _|exact uD zw zw zw zw (wCo h (fE zz)) rfl rfl rfl|exact uD zw zw zw zw (wRu h b (fE zz)) rfl rfl rfl|exact fi _
 done
theorem wMe {t:aX}(h:t.OK){k:Nat}(hk:k<t.ms.length):bJ ad 5 106 (.agg #[.int .i64 (nx t.ms k).sp,.int .i64 (nx t.ms k).v,.int .i64 (nx t.ms k).lo,.int .i64 (nx t.ms k).hi,.int .i64 (nx t.ms k).par]):=by have m:=h.TJ k _ (mX hk);have a:=m.OS;have b:=m.NN;have c:=m.v0;have d:=m.v1;have e:=m.Ul;have f:=m.lh;have g:=m.Mr;have i:=m.Ce;have j:=m.Ca;have s:=h.gz.Vf;have v:=h.RM;have q:=h.Ax;exact Yz (nE zz zz) (nE zz zz) (nE zz zz) (nE zz zz) (nE zz zz)
theorem wTi {t:aX}(h:t.OK){x:ry}(hx:x∈t.fr):bJ ad 5 109 (.agg #[.int .i64 x.a,.int .i64 x.b,.bool x.same]):=by have q:=h.Ax;obtain⟨a,b,c,d,_⟩:=h.tie x hx;exact EO a zz c zz
theorem VN {t:aX}(h:t.OK)(a:Ev ad 49 [.agg t.gz.enc,.agg t.gz.enc] (B true)):Ev ad 24 [.agg t.enc,.agg t.enc] (B true):=by
 have s5:=h.Ax;have w6:=h.GO;refine dV S24.ok (kh [(4,[.fz 2,.fz 3]),(11,[.ev a])]) (lh [(0,{n:=t.ms.length,E:=λk=>[(2,.pi t.enc),(3,.pi t.enc),(5,I k)],I:=λk=>True,K:=λk=>[(48,[.i (.cells (nx t.ms k).enc)]),(53,[.i (.cells (nx t.ms k).enc)]),(55,[.i (.op (B false))])]}),(2,{n:=t.fr.length,E:=λk=>[(2,.pi t.enc),(3,.pi t.enc),(6,I k)],I:=λk=>True,K:=λk=>[(66,[.i (.cells (nx t.fr k).enc)]),(71,[.i (.cells (nx t.fr k).enc)]),(73,[.i (.op (B false))])]})]) ?_;repeat' first|apply aP|apply aO|apply aN|apply aw|apply ap|(intro b;(try simp only[nL]at b);(try contradiction))
 all_goals try first|exact fo _|exact uD zw zw zw zw (wMe h zz) rfl rfl rfl|exact uD zw zw zw zw (wTi h (fE zz)) rfl rfl rfl|exact fi _
 done
theorem Yy {c:lH}(h:(fc c).2.2=0)(ok:c.OK): ∀x∈c.ru,(-1<=x.J3/\x.J3<=64)/\ -1<=x.th/\x.th<=64:=by
 unfold fc at h
 have f:(aA (wW c) c.ru.length 0).2=0:=by
  repeat' split at h
  all_goals first|(cases h;done)|(exact absurd h zy)|omega|(simp_all;done)
 intro x hx;obtain⟨i,hi⟩:=List.mem_iff_getElem?.1 hx;have:=eQ.1 f i (List.getElem?_eq_some_iff.1 hi).1;unfold wW at this;rw[hi]at this;simp only at this;split at this
 ·cases this
 rename_i d;simp only[Bool.or_eq_true,not_or,Bool.not_eq_true]at d;have a:=pq d.1;have b:=pq d.2;have e:(2:Int)^c.fa.toNat<=2^6:=Ak (by have:=ok.fa;omega);have:=ok.fa;omega
theorem tP {α:Type}{β:Type}{f:α->β}{l:List α}{k:Nat}(h:decide ((k:Int)<((l.map f).length:Int))=true):k<l.length:=by simpa using h
theorem u8w {x:Int}(c:0<=x)(d:x<256):(an .u8 x).wf=true:=by have a:b9.min=0:=rfl;have b:b9.max=255:=rfl;simp [Lit.wf];omega
theorem wS {b:dv}(w:b.wf){x:cQ}(hx:x∈b.ss):bJ ad 5 169 (.agg #[.int .i64 x.a,.string ⟨x.t.toArray⟩]):=
 Yx (nE (w.ss x hx).a0 (w.ss x hx).a1) (QW (w.ss x hx).t)
theorem Ur {b:dv}(h:Valid b)(w:b.wf):Ev ad 49 [.agg b.enc,.agg b.enc] (B true):=by
 have e:=h.al3;have s5:=h.Vf;refine Ev.EP S49.ok<|bc [.bW,.bW] rfl (by(and_intros);(all_goals first|exact zk _|((rfl))))<|dY<|ep [] [] ?_;repeat' first|apply aP|apply aO|apply aN|apply aw|apply ap|(intro a;(try simp only[nL]at a);(try contradiction))
 all_goals try exact fi _
 refine show Ob _ from⟨?_⟩;refine gm [(2,.pi b.enc),(3,.pi b.enc)]<|aa (aa ?_);refine cC rfl<|bE True (el [(2,.pi b.enc),(3,.pi b.enc)]) [] [] ?_ ?_
 ·refine dE (λk:Nat=>k<=b.al.length) (λk=>el [(2,.pi b.enc),(3,.pi b.enc),(5,I k)]) (λk=>b.al.length-k) 0 (bt _) eL ?_;intro k hk;refine aa (aa ?_);refine cC rfl<|ag rfl (λhc=>?_) (λhc=>?_)
  ·have hc:=tP hc;obtain⟨x,hx⟩:=aL hc;have c:=a8 hx;refine af<|cX True (el [(2,.pi b.enc),(3,.pi b.enc),(5,I k)]) [] [] ?_ ?_
   ·refine vj [] [.cells x.enc,.cells x.enc,.aI,.aI] rfl (by(and_intros);(all_goals first|exact zk _|((first|rfl|omega|simp [hx]))))<|ae (aj (aq (t:=6) rfl) (aj (aq (t:=7) rfl) (ao (l:=[(2,.pi b.enc),(3,.pi b.enc),(5,I k),(6,.pi x.enc),(7,.pi x.enc)]) ⟨rfl,rfl,rfl,rfl,rfl,trivial⟩)))<|dY<|ep [] [] ?_;repeat' first|apply aP|apply aO|apply aN|apply aw|apply ap|(intro a;(try simp only[nL]at a);(try contradiction))
    all_goals try first|exact fo _|exact⟨ne_self⟩|exact fi _
    refine show Ob _ from⟨?_⟩;refine gm [(2,.pi b.enc),(3,.pi b.enc),(5,I k),(6,.pi x.enc),(7,.pi x.enc)]<|aC rfl<|au<|dE (λj:Nat=>j<=x.ls.length) (λj=>el [(2,.pi b.enc),(3,.pi b.enc),(5,I k),(6,.pi x.enc),(7,.pi x.enc),(8,I j)]) (λj=>x.ls.length-j) 0 (bt _) eL ?_;intro j f;refine aa (aa ?_);refine cC rfl<|ag rfl (λhc=>?_) (λhc=>?_)
    ·have hc:=tP hc;obtain⟨y,hy⟩:=aL hc;have d:=(w.al x c).ls y (a8 hy);refine af (aa (au ?_));refine aa<|rE [] [.cells y.enc,.cells y.enc,.op (B false)] rfl (by(and_intros);(all_goals first|exact zk _|((first|rfl|omega|exact Ob.h (uD (p:=.agg y.enc) zw zw zw zw (Xl (u8w d.c0 d.c1) (nE d.s0 d.s1)) rfl rfl rfl)|simp [hy]))))<|aD rfl rfl<|dS rfl (by(and_intros);(all_goals first|exact zk _|((have:=(h.YE x c).l6;omega)))) ?_;exact⟨j+1,zz,zz,eL⟩
    ·exact ay ⟨(),trivial,eL⟩
   intro _ _;refine dS rfl ⟨zz,trivial⟩ ?_;exact⟨k+1,zz,zz,eL⟩
  ·exact ay ⟨(),trivial,eL⟩
 intro _ _;refine ep [] [(4,{n:=b.ss.length,E:=λk=>[(2,.pi b.enc),(3,.pi b.enc),(9,I k)],I:=λk=>True,K:=λk=>[(92,[.i (.cells (nx b.ss k).enc)]),(97,[.i (.cells (nx b.ss k).enc)]),(99,[.i (.op (B false))])]})] ?_;repeat' first|apply aP|apply aO|apply aN|apply aw|apply ap|(intro a;(try simp only[nL]at a);(try contradiction))
 all_goals try first|exact fo _|exact uD zw zw zw zw (wS w (fE zz)) rfl rfl rfl|exact fi _
 done
theorem YH {a b:Int}(g:(an .i64 a).wf=true)(h:(an .i64 b).wf=true):bJ ad 5 96 (.agg #[.int .i64 a,.int .i64 b]):=by
 have c:ad.cellsOf 96=2:=zw
 have d:ad.cellsOf 3=1:=zw
 have e:ad.cellsOf 4=1:=zw
 have f:ad.cellsOf 9=1:=zw
 have i:ad.cellsOf 5=1:=zw
 have j:ad.cellsOf 96=2:=zw
 have k: ∀b,(bm b).wf=true:=λ_=>rfl;refine⟨?_,[.int .i64 a,.int .i64 b],?_⟩
 ·simp [a7,bn,c]
 ·simp (decide:=true) [be,a6,bn,az,c,d,e,f,g,h]
theorem OA {p:Part}(h:FR p):(an .i64 p.lo).wf=true/\(an .i64 p.hi).wf=true:=by
 rcases h.room with⟨_,a⟩|⟨_,a⟩
 ·exact⟨nE zz zz,nE zz zz⟩
 ·exact⟨nE zz zz,nE zz zz⟩
theorem UA {s:Shelf}(h:BD s):Ev ad 23 [.agg s.enc,.agg s.enc] (B true):=by
 have f4:=h.f4;refine Ev.EP S23.ok<|bc [.bW,.bW] rfl (by(and_intros);(all_goals first|exact zk _|((rfl))))<|dY<|ep [] [] ?_;repeat' first|apply aP|apply aO|apply aN|apply aw|apply ap|(intro b;(try simp only[nL]at b);(try contradiction))
 all_goals try exact fi _
 refine show Ob _ from⟨?_⟩;refine gm [(2,.pi s.enc),(3,.pi s.enc)]<|aa (aa ?_);refine cC rfl<|bE True (el []) [] [] ?_ ?_
 ·refine dE (λk:Nat=>k<=s.bH.length) (λk=>el [(2,.pi s.enc),(3,.pi s.enc),(5,I k)]) (λk=>s.bH.length-k) 0 (bt _) eL ?_;intro k hk;refine aa (aa ?_);refine cC rfl<|ag rfl (λhc=>?_) (λhc=>?_)
  ·have hc:=tP hc;obtain⟨x,hx⟩:=aL hc;have a:=a8 hx;have p5:=(h.bH x a).2.p5;refine af<|cX True (el [(2,.pi s.enc),(3,.pi s.enc),(5,I k)]) [] [] ?_ ?_
   ·refine vj [] [.cells x.enc,.cells x.enc,.aI,.aI] rfl (by(and_intros);(all_goals first|exact zk _|((first|rfl|omega|simp [hx]))))<|ae (aj (aq (t:=6) rfl) (aj (aq (t:=7) rfl) (ao (l:=[(2,.pi s.enc),(3,.pi s.enc),(5,I k),(6,.pi x.enc),(7,.pi x.enc)]) ⟨rfl,rfl,rfl,rfl,rfl,trivial⟩)))<|dY<|ep [] [] ?_;repeat' first|apply aP|apply aO|apply aN|apply aw|apply ap|(intro b;(try simp only[nL]at b);(try contradiction))
    all_goals try first|exact fo _|exact⟨ne_self⟩|exact fi _
    refine show Ob _ from⟨?_⟩;refine gm [(2,.pi s.enc),(3,.pi s.enc),(5,I k),(6,.pi x.enc),(7,.pi x.enc)]<|aC rfl<|au<|dE (λj:Nat=>j<=x.parts.length) (λj=>el [(2,.pi s.enc),(3,.pi s.enc),(5,I k),(6,.pi x.enc),(7,.pi x.enc),(8,I j)]) (λj=>x.parts.length-j) 0 (bt _) eL ?_;intro j d;refine aa (aa ?_);refine cC rfl<|ag rfl (λhc=>?_) (λhc=>?_)
    ·have hc:=tP hc;obtain⟨y,hy⟩:=aL hc;have c:=OA ((h.bH x a).2.parts y (a8 hy));refine af (aa (au ?_));refine aa<|rE [(74,false)] [.cells y.enc,.cells y.enc,.op (B false),.cells y.enc,.cells y.enc,.ret (B true)] rfl (by(repeat' (with_reducible apply ap));(all_goals first|exact zk _|((first|rfl|omega|exact lS _|exact Ob.h (uD (p:=.agg [I y.lo,I y.hi]) zw zw zw zw (YH c.1 c.2) rfl rfl rfl)|simp [hy]))))<|aD rfl rfl<|dS rfl (by(and_intros);(all_goals first|exact zk _|((omega)))) ?_;exact⟨j+1,zz,zz,eL⟩
    ·exact ay ⟨(),trivial,eL⟩
   intro _ _;refine dS rfl ⟨zz,trivial⟩ ?_;exact⟨k+1,zz,zz,eL⟩
  ·exact ay ⟨(),trivial,ao trivial⟩
 intro _ _;exact VW.go [] []
theorem UC {a:cE}(ok:a.OK):Ev ad 12 [.agg a.enc,.agg a.enc] (B true):=by
 have b:=UA ok.sh;have c:=lS a.ix;have d:=VN (tM ok).1 (Ur (tM ok).1.gz ok.w.tw.gz);have h4:=T4 a.dr (by have:=ok.dr.c4;omega) (by have:=ok.dr.h4;omega);have f:=U7 ok.li;have g:=Uj ok.ch (Yy (ok.e 4 zq) ok.ch);have h:Ev ad 28 [Bo a.le,Bo a.le] (B true):=by have:=Oy a.le a.le;rwa [show (a.le==a.le)=true from zj]at this
 exact gA S12.ok [(4,[.fz 2,.fz 3]),(15,[.ev b]),(22,[.ev c]),(29,[.ev d]),(36,[.ev h4]),(43,[.ev f]),(50,[.ev g]),(57,[.ev h])] []
theorem UN {a:cE}(ok:a.OK){l:List Wd}(h:dB a l=0):(kS a l).2.1.OK:=by unfold kS;rw[if_neg zz,(lX l a 0).2.1];exact vl ok [] l _
theorem Vm:dQ.OK:=⟨zL,by rw[aad]⟩
theorem SO:Ev ad 3 [] (B true):=T8 (UC (UN Vm (show dB dQ eo=0 from zw)))
end Go.Px
