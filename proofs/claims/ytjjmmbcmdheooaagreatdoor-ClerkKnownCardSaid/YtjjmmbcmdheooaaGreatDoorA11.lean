/- Part 11 of the proof of a statement of this seat (a logic of pure contracts; the functions; their contracts). No conditions. -/
import Derived.Test.YtjjmmbcmdheooaaGreatDoorA10
import Derived.ProofKit
import Derived.OpenShut
import Derived.Carry
import Derived.HandedShaped
import Derived.LaidMore
import Derived.Lay
import Derived.Stop.Joined
import Derived.Shelf.Strconv.Itoa3
import Derived.Shelf.Strconv.AtoiAll
import Derived.Shelf.Strings.Split
import Derived.Shelf.Strings.Cut
import Derived.Shelf.Strings.IndexAnyAll
import Derived.Shelf.Strings.OnBuilder
import Derived.Ground.NamesProg
import Derived.SevenTiedAt
import Derived.Test.YtjjmmbcmdheooaaGreatDoorTie
import Derived.Test.YtjjmmbcmdheooaaGreatDoorCards
open And renaming intro->bm
open Bool renaming eq_iff_iff->bn,not_eq_true'->b0,and_eq_true->b4
open ByteArray renaming size->bi,mk->er
open Go.ChangeSpec renaming post_blind->cc
open Go.DataW renaming trod->bx
open Go.DataW.Whole renaming of_heap->c8
open Go.DataW.agg renaming injEq->ej
open Go.DataW.lit renaming injEq->ek
open Go.Lib renaming atoiAll->cR,cut->dn
open Go.Lit renaming int->ds
open Go.MakeChecks renaming laidMetH_plain->b9
open Go.OpenSpec renaming ofChange->b3
open Go.Proofs.Lays renaming n153->de,n156->dk
open Go.Proofs.LaysC renaming n172->cr
open Go.Proofs.LaysM renaming n145->cA,n146->cB,n171->cD
open Go.Proofs.Tryz renaming prog->ad,underlying133->bA,underlying179->bI,underlying3->b6
open Go.RowKit renaming Below->cb
open Go.RowKit.Below renaming refl->ec
open Go.Shelf renaming Ren->a8
open Go.Utf8 renaming decode->a7
open Go.World renaming cell?->c7,var?->dl
open Int renaming natCast_inj->b7
open List renaming length_map->an,getElem?_eq_some_iff->ap,getElem?_eq_getElem->a6,mem_of_getElem?->be,getElem?_map->bk,append_nil->bs,getElem?_eq_none->bt,size_toArray->b1
open List.cons renaming injEq->en
open Option renaming map_some->b8
open Option.some renaming inj->az,injEq->ea
set_option maxRecDepth 100000
namespace Go.Px
open Go.Proofs
section
variable {P:Program}{r:Option Nat}{N:Nat}{Q:cI}{env env':Env}{H H':Heap}{D:List Nat}{x y:bN}{ls l2:List aH}{hs':List Hint}{ob:Prop}
theorem aC (h:ld P [] H ls [] env=(env',[],hs',True))(k:aJ P r N y Q env' H D):aJ P r N (.seq (.ops ls) y) Q env H D:=aJ.sx h trivial k
theorem FD (h:ld P [] H ls [] env=(env',[],hs',ob))(o:ob)(k:aJ P r N y Q env' H D):aJ P r N (.seq (.ops ls) y) Q env H D:=aJ.sx h o k
theorem bc (hs:List Hint)(h:ld P [] H ls hs env=(env',[],hs',ob))(o:ob)(k:aJ P r N y Q env' H D):aJ P r N (.seq (.ops ls) y) Q env H D:=aJ.sx h o k
theorem uk (gs:List (Nat×Bool))(hs:List Hint)(h:ld P gs H ls hs env=(env',[],hs',ob))(o:ob)(k:aJ P r N y Q env' H D):aJ P r N (.seq (.ops ls) y) Q env H D:=aJ.sx h o k
theorem cC (h:ld P [] H ls [] env=(env',[],hs',True))(k:Q .normal env' H D):aJ P r N (.ops ls) Q env H D:=aJ.xq h trivial k
theorem dS (h:ld P [] H ls [] env=(env',[],hs',ob))(o:ob)(k:Q .normal env' H D):aJ P r N (.ops ls) Q env H D:=aJ.xq h o k
theorem iO (hs:List Hint)(h:ld P [] H ls hs env=(env',[],hs',ob))(o:ob)(k:Q .normal env' H D):aJ P r N (.ops ls) Q env H D:=aJ.xq h o k
theorem js (gs:List (Nat×Bool))(hs:List Hint)(h:ld P gs H ls hs env=(env',[],hs',ob))(o:ob)(k:Q .normal env' H D):aJ P r N (.ops ls) Q env H D:=aJ.xq h o k
theorem eZ (h:ld P [] H ls [] env=(env',[],hs',True))(k:Q .normal env' H D):aT P r N ls Q env H D:=aT.xd h trivial k
theorem xdA (h:ld P [] H ls [] env=(env',[],hs',ob))(o:ob)(k:Q .normal env' H D):aT P r N ls Q env H D:=aT.xd h o k
theorem Sc (hs:List Hint)(h:ld P [] H ls hs env=(env',[],hs',ob))(o:ob)(k:Q .normal env' H D):aT P r N ls Q env H D:=aT.xd h o k
theorem Zb (gs:List (Nat×Bool))(hs:List Hint)(h:ld P gs H ls hs env=(env',[],hs',ob))(o:ob)(k:Q .normal env' H D):aT P r N ls Q env H D:=aT.xd h o k
theorem kL (n:Nat)(h:ld P [] H (ls.take n) [] env=(env',[],hs',True))(a:ls.drop n=l2)(k:aT P r N l2 Q env' H D):aT P r N ls Q env H D:=aT.xn n h a trivial k
theorem OF (n:Nat)(h:ld P [] H (ls.take n) [] env=(env',[],hs',ob))(a:ls.drop n=l2)(o:ob)(k:aT P r N l2 Q env' H D):aT P r N ls Q env H D:=aT.xn n h a o k
theorem lz (hs:List Hint)(n:Nat)(h:ld P [] H (ls.take n) hs env=(env',[],hs',ob))(a:ls.drop n=l2)(o:ob)(k:aT P r N l2 Q env' H D):aT P r N ls Q env H D:=aT.xn n h a o k
theorem Za (gs:List (Nat×Bool))(hs:List Hint)(n:Nat)(h:ld P gs H (ls.take n) hs env=(env',[],hs',ob))(a:ls.drop n=l2)(o:ob)(k:aT P r N l2 Q env' H D):aT P r N ls Q env H D:=aT.xn n h a o k
theorem acA (h:df P [] ls [] env H=(env',H',[],hs',True))(k:aJ P r N y Q env' H' D):aJ P r N (.seq (.ops ls) y) Q env H D:=aJ.shx h trivial k
theorem adT (h:df P [] ls [] env H=(env',H',[],hs',ob))(o:ob)(k:aJ P r N y Q env' H' D):aJ P r N (.seq (.ops ls) y) Q env H D:=aJ.shx h o k
theorem lV (hs:List Hint)(h:df P [] ls hs env H=(env',H',[],hs',ob))(o:ob)(k:aJ P r N y Q env' H' D):aJ P r N (.seq (.ops ls) y) Q env H D:=aJ.shx h o k
theorem afU (gs:List (Nat×Bool))(hs:List Hint)(h:df P gs ls hs env H=(env',H',[],hs',ob))(o:ob)(k:aJ P r N y Q env' H' D):aJ P r N (.seq (.ops ls) y) Q env H D:=aJ.shx h o k
theorem hxT (h:df P [] ls [] env H=(env',H',[],hs',True))(k:Q .normal env' H' D):aJ P r N (.ops ls) Q env H D:=aJ.hx h trivial k
theorem hxA (h:df P [] ls [] env H=(env',H',[],hs',ob))(o:ob)(k:Q .normal env' H' D):aJ P r N (.ops ls) Q env H D:=aJ.hx h o k
theorem W5 (hs:List Hint)(h:df P [] ls hs env H=(env',H',[],hs',ob))(o:ob)(k:Q .normal env' H' D):aJ P r N (.ops ls) Q env H D:=aJ.hx h o k
theorem hxG (gs:List (Nat×Bool))(hs:List Hint)(h:df P gs ls hs env H=(env',H',[],hs',ob))(o:ob)(k:Q .normal env' H' D):aJ P r N (.ops ls) Q env H D:=aJ.hx h o k
theorem aB {t:Nat}{res:AV}(h:env t=res)(hl:res.bC=false:=by rfl):pD P [.tmp t] res .ret env H []:=fh (.inr rfl) (.one (.tmp h hl))
theorem gm (l:List (Nat×AV))(k:aJ P r N x Q (el l) H D)(h:qX env l:=by(repeat' first|exact trivial|refine⟨rfl,?_⟩)):aJ P r N x Q env H D:=aJ.lr (bB.el h) k
theorem QM (l:List (Nat×AV))(k:aT P r N ls Q (el l) H D)(h:qX env l:=by(repeat' first|exact trivial|refine⟨rfl,?_⟩)):aT P r N ls Q env H D:=aT.lr (bB.el h) k
theorem eL {l:List (Nat×AV)}(h:qX env l:=by(repeat' first|exact trivial|refine⟨rfl,?_⟩)):bB env H D (el l) H D:=bB.el h
theorem okL {l:List (Nat×AV)}(h:qX env l:=by(repeat' first|exact trivial|refine⟨rfl,?_⟩)):qX env l:=h
theorem bE {id:Nat}(I:Prop)(E:Env)(b:Heap)(a:List Nat)(h:aJ P r N x (pI id (jG (λe h d=> ∃c:Unit,I/\bB e h d E b a) Q)) env H D)
 (k:Unit->I->aJ P r N y Q E b a):aJ P r N (.block id x) (jG (λe h d=>aJ P r N y Q e h d) Q) env H D:=aJ.gK (λ_:Unit=>I) (λ_=>E) (λ_=>b) (λ_=>a) h k
theorem cX {id:Nat}(I:Prop)(E:Env)(b:Heap)(a:List Nat)(h:aJ P r N x (pI id (jG (λe h d=> ∃c:Unit,I/\bB e h d E b a) Q)) env H D)
 (k:Unit->I->aJ P r N y Q E b a):aJ P r N (.seq (.block id x) y) Q env H D:=aJ.qq (λ_:Unit=>I) (λ_=>E) (λ_=>b) (λ_=>a) h k
theorem dZ (I:Prop)(E:Env)(b:Heap)(a:List Nat)(h:aJ P r N x (jG (λe h d=> ∃c:Unit,I/\bB e h d E b a) Q) env H D)
 (k:Unit->I->aJ P r N y Q E b a):aJ P r N (.seq x y) Q env H D:=aJ.En (λ_:Unit=>I) (λ_=>E) (λ_=>b) (λ_=>a) h k
theorem dE (I:Nat->Prop)(E:Nat->Env)(m:Nat->Nat)(c:Nat)(a:I c)(e:bB env H D (E c) [] [])
 (f: ∀i,I i->aJ P r N x (jG (λenv' H' d=> ∃b,I b/\m b<m i/\bB env' H' d (E b) [] []) Q) (E i) [] []):aJ P r N (.loop x) Q env H D:=aJ.PX I E (λ_=>[]) (λ_=>[]) m c a e f
end
section
variable {r:Option Nat}{N:Nat}{Q:cI}{env env':Env}{H:Heap}{D:List Nat}{y:bN}{ops rest:List (aH×List Nat)}{hs':List Hint}{ob:Prop}{infos:List (List Nat×List Nat)}
theorem vj (gs:List (Nat×Bool))(hs:List Hint)(h:zC Tryz.prog gs H ops hs env=(env',infos,[],hs',ob))(o:ob)(k:aJ Tryz.prog r N y Q env' H D)(a:mY (ops.map (·.2)) infos=true:=by kernel_rfl):aJ Tryz.prog r N (.seq (.iP ops) y) Q env H D:=aJ.sd xr h a o k
theorem rE (gs:List (Nat×Bool))(hs:List Hint)(h:zC Tryz.prog gs H ops hs env=(env',infos,[],hs',ob))(o:ob)(k:Q .normal env' H D)(a:mY (ops.map (·.2)) infos=true:=by kernel_rfl):aJ Tryz.prog r N (.iP ops) Q env H D:=aJ.dd xr h a o k
theorem xh (gs:List (Nat×Bool))(hs:List Hint)(h:zC Tryz.prog gs H ops hs env=(env',infos,rest,hs',ob))(o:ob)(k:aT Tryz.prog r N (rest.map (·.1)) Q env' H D)(a:mY (ops.map (·.2)) infos=true:=by kernel_rfl):aJ Tryz.prog r N (.iP ops) Q env H D:=aJ.dq xr h a o k
end
theorem nL:(∀(p:Prop) [Decidable p],(decide p=true)=p)/\(∀(p:Prop) [Decidable p],(decide p=false)= ¬p)/\(∀b:Bool,((!b)=true)=(b=false))/\(∀b:Bool,((!b)=false)=(b=true))/\(∀(α:Type) [BEq α] [LawfulBEq α] (a b:α),((a !=b)=true)=(a≠b))/\(∀(α:Type) [BEq α] [LawfulBEq α] (a b:α),((a !=b)=false)=(a=b))/\(∀(α:Type) (a b:α),(a≠b)= ¬(a=b))/\(∀(α:Type) [BEq α] [LawfulBEq α] (a b:α),((a==b)=true)=(a=b))/\(∀(α:Type) [BEq α] [LawfulBEq α] (a b:α),((a==b)=false)=(a≠b))/\(∀a b:Nat,((a:Int)<b)=(a<b))/\(∀a b:Nat,((a:Int)<=b)=(a<=b))/\(∀(α β:Type) (f:α->β) (l:List α),(l.map f).length=l.length)/\(∀(α:Type) [LT α] (a b:α),(a>b)=(b<a))/\(∀(α:Type) [LE α] (a b:α),(a>=b)=(b<=a)):=
 ⟨λ_ _=>decide_eq_true_eq,λ_ _=>by simp,λ_=>by simp,λ_=>by simp,λ_ _ _ _ _=>by simp,λ_ _ _ _ _=>by simp,λ_ _ _=>rfl,λ_ _ _ _ _=>by simp,λ_ _ _ _ _=>by simp,λ_ _=>by simp,λ_ _=>by simp,λ_ _ _ _=>by simp,λ_ _ _ _=>rfl,λ_ _ _ _=>rfl⟩
section
variable {r:Option Nat}{N:Nat}{env:Env}{H:Heap}{D:List Nat}{Q:cI}{K:Nat->List (VH ad)}{L:Nat->Option (LH ad)}{i:Nat}{gs:List (Nat×Bool)}
def vwS (r:Option Nat)(N:Nat)(L:Nat->Option (LH ad))(c:bN)(K:Nat->List (VH ad))(i:Nat)(Q:cI)(H:Heap)(env:Env)(D:List Nat):Prop:=match c with
 | .seq a b=>VW ad r N L a K i (jG (λenv H D=>VW ad r N L b K i Q H env D) Q) H env D
 | .ops l=>VO ad r N K l [] Q H env D
 | .iP l=>vdr ad r N K l Q H env D
 | .ite c a b=>Ye ad r N L c a b K i Q H env D
 | .block id a=>VW ad r N L a K id (IH id Q) H env D
 | .exit id=>Q (.exit id) env H D
 | .ret=>Q .ret env H D
 | .skip=>Q .normal env H D
 | .label _=>Q .normal env H D
 | .scope a=>VW ad r N L a K i (J5 Q) H env D
 | .loop a=>Ry ad r N L a K i Q H env D
 |_=>False
theorem VW.st {c:bN}(h:vwS r N L c K i Q H env D):VW ad r N L c K i Q H env D:=by
 cases c with
 |seq a b=>exact VW.seq h
 |ops l=>exact VW.ops h
 |iP l=>exact VW.iP xr h
 |ite c a b=>exact VW.ite h
 |block id a=>exact VW.block h
 |exit id=>exact VW.exit h
 |ret=>exact VW.ret h
 |skip=>exact VW.skip h
 |label _=>exact VW.label h
 |scope a=>exact VW.scope h
 |loop a=>exact VW.loop h
 |_=>exact h.elim
theorem VO.st {l:List aH}(h:match l with|[]=>Q .normal env H D|l::ls=>Mz ad K (λch H env=>Q (.panic ch) env H D) l gs H env (λgs H env=>VO ad r N K ls gs Q H env D)):VO ad r N K l gs Q H env D:=by
 cases l with
 |nil=>exact VO.nil h
 |cons _ _=>exact VO.cons h
theorem VD.st {acc:List (List Nat×List Nat)}{k:Env->List (List Nat×List Nat)->Prop}{l:List (aH×List Nat)}(h:match l with|[]=>k env acc.reverse|(l,_)::ls=>X5 ad K gs l H env (λenv x=>VD ad r N K gs H D ls env (x::acc) k)):VD ad r N K gs H D l env acc k:=by
 cases l with
 |nil=>exact VD.nil h
 |cons _ _=>exact VD.cons h
end
theorem zk (p:Prop)(h:p:=by first|(with_reducible exact trivial)|(with_reducible rfl)|(with_reducible assumption)|((with_reducible apply isB);first|exact rfl|exact beq_self_eq_true _)|omega):p:=h
theorem zt (p:Prop)(h:p:=by first|(with_reducible exact trivial)|(with_reducible rfl)|(with_reducible assumption)|((with_reducible apply isB);first|exact rfl|exact beq_self_eq_true _)):p:=h
theorem fi (p:Prop)(h:p:=by first|exact trivial|(refine Mn.mk ?_;kernel_rfl)|(refine Ob.mk ?_;exact pf _)):p:=h
theorem fo (p:Prop)(h:p:=by first|exact trivial|(refine Mn.mk ?_;kernel_rfl)):p:=h
section
variable {r:Option Nat}{N:Nat}{env:Env}{H:Heap}{D:List Nat}{Q:cI}{f:FuncId}{rs:List ResultVar}{lc:bN}{args:List AV}{res:AV}
theorem VW.hh (K:List (Nat×List (VH ad)))(L:List (Nat×LH ad))(h:VW ad r N (lh L) lc (kh K) 0 Q H env D):aJ ad r N lc Q env H D:=h.h
theorem VW.go (K:List (Nat×List (VH Tryz.prog)))(L:List (Nat×LH Tryz.prog))(h:VW Tryz.prog r N (lh L) lc (kh K) 0 Q H env D:=by(repeat' first|apply VW.st|apply VO.st|apply VD.st|apply VS.step|apply And.intro|(intro a;(try simp only[nL]at a);(try contradiction)));all_goals exact fi _):aJ Tryz.prog r N lc Q env H D:=h.h
theorem Ev.go (ok:rY Tryz.prog f N rs lc)(K:List (Nat×List (VH Tryz.prog)))(L:List (Nat×LH Tryz.prog))(h:VW Tryz.prog none N (lh L) lc (kh K) 0 (HV Tryz.prog rs res) [] (dA args) []:=by(repeat' first|apply VW.st|apply VO.st|apply VD.st|apply VS.step|apply And.intro|(intro a;(try simp only[nL]at a);(try contradiction)));all_goals exact fi _):Ev Tryz.prog f args res:=Ev.vc ok _ _ h
theorem Dm.go {Hin:Heap}{c:Bool}{Ho:Heap}{ch:List PanicEntry}{RP:Heap->Prop}(ok:rY Tryz.prog f N rs lc)(K:List (Nat×List (VH Tryz.prog)))(L:List (Nat×LH Tryz.prog))(h:VW Tryz.prog none N (lh L) lc (kh K) 0 (Lh Tryz.prog rs c res Ho ch RP) Hin (dA args) []:=by(repeat' first|apply VW.st|apply VO.st|apply VD.st|apply VS.step|apply And.intro|(intro a;(try simp only[nL]at a);(try contradiction)));all_goals exact fi _):Dm Tryz.prog f args Hin c res Ho ch RP:=Dm.vc ok _ _ h
theorem yg.go {Hin:Heap}{res:Nat->AV}{Ho:Nat->Heap}(ok:rY Tryz.prog f N rs lc)(K:List (Nat×List (VH Tryz.prog)))(L:List (Nat×LH Tryz.prog))(h:VW Tryz.prog none N (lh L) lc (kh K) 0 (Ly Tryz.prog rs res Ho) Hin (dA args) []:=by(repeat' first|apply VW.st|apply VO.st|apply VD.st|apply VS.step|apply And.intro|(intro a;(try simp only[nL]at a);(try contradiction)));all_goals exact fi _):yg Tryz.prog f args Hin res Ho:=yg.vc ok _ _ h
theorem AN.go {Hin:Heap}{res:Nat->Nat->AV}{Ho:Nat->Nat->Heap}(ok:rY Tryz.prog f N rs lc)(K:List (Nat×List (VH Tryz.prog)))(L:List (Nat×LH Tryz.prog))(h:VW Tryz.prog none N (lh L) lc (kh K) 0 (EG Tryz.prog rs res Ho) Hin (dA args) []:=by(repeat' first|apply VW.st|apply VO.st|apply VD.st|apply VS.step|apply And.intro|(intro a;(try simp only[nL]at a);(try contradiction)));all_goals exact fi _):AN Tryz.prog f args Hin res Ho:=AN.vc ok _ _ h
end
theorem dm {P:Program}{env:Env}{H:Heap}{t u:Nat}{a b:AV}(h:env t=a)(g:env u=b)(hl:a.bC=false:=by rfl)(gl:b.bC=false:=by rfl):pD P [.tmp t,.tmp u] (.bZ [a,b]) .ret env H []:=fh (.inr rfl) (.many (by simp) ⟨.tmp h hl,.tmp g gl,trivial⟩)
abbrev aa:= @aJ.seq
abbrev ab:= @aJ.ret
abbrev ak:= @Ev.intro
abbrev aj:= @bB.trans
abbrev af:= @aJ.skip
abbrev ag:= @aJ.ite
abbrev ae:= @aJ.lr
abbrev ai:= @aT.cons
abbrev ao:= @bB.el
abbrev aw:= @VS.step
abbrev au:= @aJ.block
abbrev av:= @aJ.ops
abbrev ph:= @aE.Le.refl
abbrev ay:= @aJ.exit
abbrev ar:= @bB.ofH
abbrev aP:= @VW.st
abbrev aO:= @VO.st
abbrev aN:= @VD.st
abbrev ax:= @aJ.itt
abbrev aK:= @oL.refl
abbrev aU:= @ez.refl
abbrev aD:= @aJ.its
abbrev cd:= @bB.perm
abbrev bq:= @il.intro
abbrev aq:= @bB.jV
abbrev bh:= @aT.nil
abbrev aG:= @aT.lr
abbrev ep:= @VW.hh
abbrev cq:= @Dm.vc
abbrev dV:= @Ev.vc
abbrev br:= @aJ.PX
abbrev aZ:= @aF.Er
abbrev dN:= @Ev.freeze
abbrev gA:= @Ev.go
abbrev bU:= @aF.GV
abbrev bP:= @aF.Ae
abbrev cJ:= @aJ.itf
abbrev mH:= @aJ.mono
abbrev dY:= @aJ.ZV
abbrev bM:= @aJ.fY
abbrev gN:= @ez.nil
abbrev cx:= @bB.vF
abbrev cH:= @aJ.ZK
abbrev du:= @bB.I9
open Go.ChangeShapes Go.WideShapes Go.ChangeAt Go.RowKit
theorem JG {H:Type}{enc:TypeId×Value->H}{C:Checked}{os:Os}{f:FuncId}{fn:Func}{s:ChangeSpec}{b:List PathCond}{laid:List (String×DataW Unit)}
  (own:ownKnob C.prog.godebug=none) (c:os.Started) (j:C.prog.inits.idxOf? f=none) (x:C.prog.funcs[f]? =some fn)
  (d: ∃(w:World) (tape:Tape) (i:Input),w.os=os/\(w.forCall tape i).Shaped C.prog/\i.vars=[]/\Input.okWide C.prog (w.forCall tape i) .any w.heap.size f i/\
    ((s.pre enc C.prog fn b false (w.forCall tape i).memory i.args/\laidMetH C.prog laid (w.forCall tape i).memory)/\sizedMet enc C.prog fn (OpenSpec.ofChange s) false (w.forCall tape i).memory i.args)/\({}:Assume).holds C.prog (lone (Frame.enter C.prog f i.args .normal) [] (w.forCall tape i)))
  (B:fn.params.toList=[]) (E:TypeId) (L:fn.resultTypes= #[E]) (I:C.prog.underlying E=some .bool)
  (D:s.vars=[]) (a:s.fn H []={results:=[.lit (.bool true)],args:=[]})
  (y: ∀W:World,W.ShapedOpen C.prog->laidMetH C.prog laid W->sN (aE.gZ W) W) (ev:Ev C.prog f [] (.v (.bool true))):
  ReturnsInHanded {} C os f .any (λw args=>(s.pre enc C.prog fn b false w args/\laidMetH C.prog laid w)/\sizedMet enc C.prog fn (OpenSpec.ofChange s) false w args) (s.post enc C.prog fn false true false false):=by
 refine returnsInHanded_of_calls own c j d ?_
 intro w tape i _ o _ z m _
 obtain⟨_,_,_,t,l,_,_,_,_,rz⟩:=z
 have e:t=fn:=Option.some.inj (l.symm.trans x)
 subst e
 obtain⟨⟨⟨F,gs,r,M,hc⟩,hx⟩,Q⟩:=m
 have u:=DataW.Whole.of_heap (w':=w.forCall tape i) (by rfl) M
 have hx:laidMetH C.prog laid (w.forCall tape i):=hx.of_heap (by rfl)
 generalize w.forCall tape i=W at o rz u hx
 have k:=u
 obtain⟨p,q,hA,A,rfl,J,K⟩:=u
 rw[D]at A
 obtain⟨rfl,rfl⟩:=trodVars_none A
 rw[B]at hA
 generalize hl:i.args.toList=N at hA
 match N,F,hA with
 |[],[],hA=>
  have ha:i.args= #[]:=by rw[<-Array.toArray_toList (xs:=i.args),hl]
  have hA:p=[]:=hA
  subst hA
  have hc:=ev.2 (aE.gZ W) W [] (y W o hx) (aE.va W) (by simp only[aS])
  rw[ha]
  refine Calls.mono hc ?_
  rintro e P ⟨v,O,g,rfl,_,_,_,G,n⟩
  simp only[bF,aR]at n
  refine ChangeSpec.post_blind ⟨[],[],[],[],[],[],by rw[ha]at k;exact k,?_,?_,?_,G.frame _,λh=>by cases h⟩
  ·rw[List.append_nil,a,L]
   obtain⟨_,rfl⟩:=n
   exact trodAll_mk1 (shut_bool I _)
  ·rw[List.append_nil,a,B]
   exact rfl
  ·rw[List.append_nil,a,D]
   rfl
theorem O2 {P:Program}{w:World}{k:IntKind}{t e:TypeId}{N a:Nat}{cs:List Value}{zs:List Int}{p:List MemPlace}(n:P.underlying t=some (.array N e))(he:P.underlying e=some (.int k))(j:P.cellsOf e=1)(o:P.cellsOf t=N)
  (h:bx (λ_=>()) P w 0 (λ_=>true) false a t cs=some (.agg (zs.map λz=>.lit (.int k z)),p)):cs=zs.map (.int k):=by
 obtain⟨xs,m,_,ex,hc,hl,c⟩:=DataW.trod_array n h
 simp only[Prod.mk.injEq,ej]at ex
 apply List.ext_getElem?
 intro r
 have q:zs.length=xs.length:=by have:=congrArg List.length ex.1;simpa using this
 by_cases l:r<N
 ·have d:=c r l
  rw[j,Nat.mul_one,a6 zz]at d
  obtain⟨z,f,g,_⟩:=DataW.trod_int he d
  have b:(zs.map λz=>(DataW.lit (.int k z):DataW Unit))[r]? =(xs.map (·.1))[r]? :=by rw[ex.1]
  rw[bk,bk,a6 (by omega:r<xs.length),a6 (by omega:r<zs.length),g]at b
  simp only[b8,ea,ek,Lit.int.injEq,true_and]at b
  have i:((cs.drop r).take 1)[0]? =some (.int k z):=by rw[f];rfl
  rw[bk,a6 (by omega:r<zs.length)]
  simp only[b8,b]
  simpa using i
 ·rw[bt zz,bt (by rw[an];omega)]
theorem BM {P:Program}{w:World}{t:TypeId}{ms:Array (String×TypeId)}{a:Nat}{cs:List Value}{n:String}{d:DataW Unit}{p:List MemPlace}(b:P.underlying t=some (.interface ms))
  (h:bx (λ_=>()) P w 0 (λ_=>true) false a t cs=some (.iface n d,p)): ∃u v,cs=[.iface u v]:=by
 cases a with
 |zero=>simp [bx]at h
 |succ m=>
  unfold bx at h
  rw[b]at h
  split at h<;>simp_all
theorem drop_cons {α:Type}{l:List α}{k:Nat}{x:α}(h:l[k]? =some x):l.drop k=x::l.drop (k+1):=by obtain⟨hk,rfl⟩:=ap.1 h;exact List.drop_eq_getElem_cons hk
theorem drop_nil {α:Type}{l:List α}{k:Nat}(h: ¬k<l.length):l.drop k=[]:=List.drop_eq_nil_of_le zz
theorem aL {α:Type}{l:List α}{k:Nat}(h:k<l.length): ∃x,l[k]? =some x:=⟨l[k],by simp [h]⟩
def dM:List Int->List Int->Bool
 |_,[]=>false
 |[],_::_=>true
 |a::x,b::y=>if a=b then dM x y else decide (a<b)
theorem EB (a b:List Int):Ev ad 73 [ints a,ints b] (B (dM a b)):=by
 refine ak S73.ok<|cH 0 rfl λha=>cH 1 rfl λm=>?_;simp only[an]at ha m;refine aC rfl<|aC rfl<|aJ.qq (λk:Nat=>k<=a.length/\k<=b.length/\dM a b=dM (a.drop k) (b.drop k)/\ ∀x y,a[k]? =some x->b[k]? =some y->x≠y) (λk=>el [(0,ints a),(1,ints b),(5,I k)]) (λ_=>[]) (λ_=>[]) ?_ ?_
 ·refine dE (λk:Nat=>k<=a.length/\k<=b.length/\dM a b=dM (a.drop k) (b.drop k)) (λk=>el [(0,ints a),(1,ints b),(5,I k)]) (λk=>a.length-k) 0 ⟨zz,zz,rfl⟩
   eL ?_
  rintro k ⟨h,i,e⟩;by_cases c:k<a.length
  ·by_cases d:k<b.length
   ·have hx:a[k]? =some a[k]:=zj
    have hy:b[k]? =some b[k]:=zj
    refine aa (aa ?_);refine rE [(10,true),(16,true)] [.cells [I a[k]],.cells [I b[k]]] rfl (by simp [c,d])<|ag rfl (λhc=>?_) (λhc=>?_)
    ·simp only[beq_iff_eq]at hc;refine af<|au<|dS rfl ⟨zz,trivial⟩ ?_;refine⟨k+1,⟨zz,zz,?_⟩,zz,eL⟩;rw[e,drop_cons hx,drop_cons hy,dM,if_pos hc]
    ·simp only[nL]at hc;refine ay ⟨k,⟨h,i,e,λu v f g=>?_⟩,eL⟩;rw[hx]at f;rw[hy]at g;cases f;cases g;exact hc
   ·refine aa (aa ?_);refine rE [(10,true),(16,false)] [] rfl (by simp [c,d])<|ag (b:=false) rfl (λhc=>by cases hc) (λhc=>?_);refine ay ⟨k,⟨h,i,e,λu v f g=>?_⟩,eL⟩;exact absurd (ap.1 g).1 d
  ·refine aa (aa ?_);refine rE [(10,false),(16,false)] [] rfl (by simp [c])<|ag (b:=false) rfl (λhc=>by cases hc) (λhc=>?_);refine ay ⟨k,⟨h,i,e,λu v f g=>?_⟩,eL⟩;exact absurd (ap.1 f).1 c
 ·rintro k ⟨h,i,e,h4⟩;refine aa<|aC rfl<|ag rfl (λhc=>?_) (λhc=>?_)
  ·simp only[an,beq_iff_eq,b7]at hc;refine aC rfl<|ab (aB ?_);show B _=B _;rw[e,drop_nil (l:=b) zz];cases a.drop k<;>rfl
  ·simp only[an,beq_eq_false_iff_ne,ne_eq,b7]at hc;have d:k<b.length:=zz
   obtain⟨y,hy⟩:=aL d;refine af ?_;by_cases c:k<a.length
   ·obtain⟨x,hx⟩:=aL c;have j: ¬((k:Int)=a.length):=zz
    refine vj [(37,false)] [.cells [I x],.cells [I y]] rfl (by simp [j,hx,hy])<|ab (aB ?_);show B _=B _;rw[e,drop_cons hx,drop_cons hy,dM,if_neg (h4 x y hx hy)]
   ·have he:((k:Int)=a.length):=zz
    refine vj [(37,true)] [] rfl (by simp [he])<|ab (aB ?_);show B _=B _;rw[e,drop_nil c,drop_cons hy];rfl
def pF (a b:List Int):Bool:=decide (a.length=b.length)&&(!dM a b&& !dM b a)
theorem uW: ∀a:List Int,dM a a=false
 |[]=>rfl
 |x::a=>by simp [dM,uW a]
theorem B0: ∀{a b:List Int},pF a b=true↔a=b
 |[],[]=>by simp [pF,dM]
 |[],y::b=>by simp [pF]
 |x::a,[]=>by simp [pF]
 |x::a,y::b=>by
  have c:=B0 (a:=a) (b:=b)
  simp only[pF,b4,decide_eq_true_eq,b0,List.length_cons,dM]at c ⊢
  by_cases h:x=y
  ·subst h
   simp
   exact⟨λh=>c.1 ⟨zz,h.2⟩,λh=>⟨by rw[h],(c.2 h).2⟩⟩
  ·have d: ¬y=x:=λe=>h e.symm
   simp only[h,d,if_false,decide_eq_false_iff_not,en,false_and,iff_false]
   omega
theorem V0 (a b:List Int):Ev ad 32 [ints a,ints b] (B (pF a b)):=by
 refine ak S32.ok<|aC rfl ?_;by_cases h:a.length=b.length
 ·cases c:dM a b with
  |true=>refine uk [(10,true),(16,false)] [.ret (B true)] rfl (by simp [h,<-c];exact EB a b)<|ab (aB ?_);show B _=B _;simp [pF,h,c]
  |false=>refine uk [(10,true),(16,true)] [.ret (B false),.ret (B (dM b a))] rfl (by simp [h];exact⟨by rw[<-c];exact EB a b,EB b a⟩)<|ab (aB ?_);show B _=B _;simp [pF,h,c]
 ·have d: ¬((a.length:Int)=b.length):=zz
  refine uk [(10,false),(16,false)] [] rfl (by simp;exact d)<|ab (aB ?_);show B _=B _;simp [pF,h]
def Ey (a b:List Int):Bool:=if a.length=b.length then dM a b else decide (a.length<b.length)
def Yw (bits k:Int):Bool:=decide (bits/2^k.toNat%2=1)
def bD {α:Type}(p:α->Bool):List α->Int->Int
 |[],_=> -1
 |x::l,k=>if p x=true then k else bD p l (k+1)
structure bz where
 c:Int
 s:Int
 q:Bool
 deriving DecidableEq
abbrev bg (l:List UInt8):AV:=.v (.string ⟨l.toArray⟩)
abbrev bz.enc (x:bz):List AV:=[U x.c,I x.s,B x.q]
structure jX where
 name:List UInt8
 ls:List bz
 deriving DecidableEq
abbrev oZ (l:List bz):AV:=.sl 3 (l.map bz.enc)
abbrev jX.enc (x:jX):List AV:=[bg x.name,oZ x.ls]
structure cQ where
 a:Int
 t:List UInt8
 deriving DecidableEq
abbrev cQ.enc (x:cQ):List AV:=[I x.a,bg x.t]
structure dv where
 n:Int
 al:List jX
 ss:List cQ
 deriving DecidableEq
abbrev W8 (l:List jX):AV:=.sl 2 (l.map jX.enc)
abbrev XL (l:List cQ):AV:=.sl 2 (l.map cQ.enc)
abbrev dv.enc (b:dv):List AV:=[I b.n,W8 b.al,XL b.ss]
theorem Nt (l:List Int)(g:Nat)(a:List AV)(p:Int->Bool)(h: ∀x∈l,Ev ad g (I x::a) (B (p x))):Ev ad 259 [.sl 1 (l.map (λx=>[I x])),.fn (.func g) [] a] (I (bD p l 0)):=by
 refine ak adw.ok<|cH 0 rfl λha=>?_;simp only[an]at ha;refine aC rfl<|aa<|aC rfl<|bE (bD p l 0= -1) (el []) [] [] ?_ ?_
 ·refine dE (λk:Nat=>k<=l.length/\bD p l 0=bD p (l.drop k) k) (λk=>el [(0,.sl 1 (l.map (λx=>[I x]))),(1,.fn (.func g) [] a),(7,I l.length),(8,I k)]) (λk=>l.length-k) 0 ⟨zz,rfl⟩
   (ao ⟨rfl,rfl,by show I _=I _;simp,rfl,trivial⟩) ?_
  rintro k ⟨hk,hi⟩;refine aC rfl<|aa (ag rfl (λhc=>?_) (λhc=>?_))
  ·simp only[nL]at hc;obtain⟨x,hx⟩:=aL hc;rw[drop_cons hx,bD]at hi;refine af (aa (au ?_));refine aC rfl<|aa<|iO [.cells ([I x]),.ret (B (p x))] rfl ⟨⟨zz,by simp [hx]⟩,h x (be hx),trivial⟩<|ag rfl (λb=>?_) (λb=>?_)
   ·refine aC rfl<|ab (aB ?_);show I _=I _;rw[hi,b];rfl
   ·refine af<|dS rfl ⟨zz,trivial⟩ ?_;exact⟨k+1,⟨hc,by rw[hi,b];rfl⟩,zz,eL⟩
  ·simp only[nL]at hc;refine ay ⟨(),?_,ao trivial⟩;rw[hi,drop_nil hc];rfl
 ·intro _ h;refine aC rfl<|ab (aB ?_);rw[h];rfl
theorem Oa (l:List bz)(g:Nat)(a:List AV)(p:bz->Bool)(h: ∀x∈l,Ev ad g (.agg x.enc::a) (B (p x))):Ev ad 268 [.sl 3 (l.map bz.enc),.fn (.func g) [] a] (I (bD p l 0)):=by
 refine ak agP.ok<|cH 0 rfl λha=>?_;simp only[an]at ha;refine aC rfl<|aa<|aC rfl<|bE (bD p l 0= -1) (el []) [] [] ?_ ?_
 ·refine dE (λk:Nat=>k<=l.length/\bD p l 0=bD p (l.drop k) k) (λk=>el [(0,.sl 3 (l.map bz.enc)),(1,.fn (.func g) [] a),(7,I l.length),(8,I k)]) (λk=>l.length-k) 0 ⟨zz,rfl⟩
   (ao ⟨rfl,rfl,by show I _=I _;simp,rfl,trivial⟩) ?_
  rintro k ⟨hk,hi⟩;refine aC rfl<|aa (ag rfl (λhc=>?_) (λhc=>?_))
  ·simp only[nL]at hc;obtain⟨x,hx⟩:=aL hc;rw[drop_cons hx,bD]at hi;refine af (aa (au ?_));refine aC rfl<|aa<|iO [.cells (x.enc),.ret (B (p x))] rfl ⟨⟨zz,by simp [hx]⟩,h x (be hx),trivial⟩<|ag rfl (λb=>?_) (λb=>?_)
   ·refine aC rfl<|ab (aB ?_);show I _=I _;rw[hi,b];rfl
   ·refine af<|dS rfl ⟨zz,trivial⟩ ?_;exact⟨k+1,⟨hc,by rw[hi,b];rfl⟩,zz,eL⟩
  ·simp only[nL]at hc;refine ay ⟨(),?_,ao trivial⟩;rw[hi,drop_nil hc];rfl
 ·intro _ h;refine aC rfl<|ab (aB ?_);rw[h];rfl
theorem OE (l:List jX)(g:Nat)(a:List AV)(p:jX->Bool)(h: ∀x∈l,Ev ad g (.agg x.enc::a) (B (p x))):Ev ad 263 [.sl 2 (l.map jX.enc),.fn (.func g) [] a] (I (bD p l 0)):=by
 refine ak agM.ok<|cH 0 rfl λha=>?_;simp only[an]at ha;refine aC rfl<|aa<|aC rfl<|bE (bD p l 0= -1) (el []) [] [] ?_ ?_
 ·refine dE (λk:Nat=>k<=l.length/\bD p l 0=bD p (l.drop k) k) (λk=>el [(0,.sl 2 (l.map jX.enc)),(1,.fn (.func g) [] a),(7,I l.length),(8,I k)]) (λk=>l.length-k) 0 ⟨zz,rfl⟩
   (ao ⟨rfl,rfl,by show I _=I _;simp,rfl,trivial⟩) ?_
  rintro k ⟨hk,hi⟩;refine aC rfl<|aa (ag rfl (λhc=>?_) (λhc=>?_))
  ·simp only[nL]at hc;obtain⟨x,hx⟩:=aL hc;rw[drop_cons hx,bD]at hi;refine af (aa (au ?_));refine aC rfl<|aa<|iO [.cells (x.enc),.ret (B (p x))] rfl ⟨⟨zz,by simp [hx]⟩,h x (be hx),trivial⟩<|ag rfl (λb=>?_) (λb=>?_)
   ·refine aC rfl<|ab (aB ?_);show I _=I _;rw[hi,b];rfl
   ·refine af<|dS rfl ⟨zz,trivial⟩ ?_;exact⟨k+1,⟨hc,by rw[hi,b];rfl⟩,zz,eL⟩
  ·simp only[nL]at hc;refine ay ⟨(),?_,ao trivial⟩;rw[hi,drop_nil hc];rfl
 ·intro _ h;refine aC rfl<|ab (aB ?_);rw[h];rfl
theorem wB {α:Type}(p:α->Bool): ∀(l:List α) (k:Int),0<=k->(0<=bD p l k↔l.any p=true)
 |[],k,h=>by simp [bD]
 |x::l,k,h=>by
  have b:=wB p l (k+1) zz
  cases a:p x with
  |true=>
   have:bD p (x::l) k=k:=by simp only[bD,a,if_true]
   rw[this];simp [a,h]
  |false=>
   have:bD p (x::l) k=bD p l (k+1):=by simp only[bD,a,if_false,Bool.false_eq_true]
   rw[this,b];simp [a]
theorem tI {α:Type}(p:α->Bool)(l:List α)(k:Int)(h:0<=k):(decide (bD p l k>=0))=l.any p:=
 bn.2 (by rw[decide_eq_true_iff];exact wB p l k h)
theorem jg (l:List Int)(g:Nat)(a:List AV)(p:Int->Bool)(h: ∀x∈l,Ev ad g (I x::a) (B (p x))):Ev ad 179 [.sl 1 (l.map (λx=>[I x])),.fn (.func g) [] a] (B (l.any p)):=by refine ak ad6.ok<|aC rfl<|bc [.ret (I (bD p l 0))] rfl ⟨Nt l g a p h,trivial⟩<|ab (aB ?_);show B _=B _;rw[tI p l 0 zz]
theorem E1 (l:List jX)(g:Nat)(a:List AV)(p:jX->Bool)(h: ∀x∈l,Ev ad g (.agg x.enc::a) (B (p x))):Ev ad 186 [.sl 2 (l.map jX.enc),.fn (.func g) [] a] (B (l.any p)):=by refine ak ae7.ok<|aC rfl<|bc [.ret (I (bD p l 0))] rfl ⟨OE l g a p h,trivial⟩<|ab (aB ?_);show B _=B _;rw[tI p l 0 zz]
def aA (f:Nat->Int):Nat->Nat->Int×Int
 |0,_=>(0,0)
 |m+1,k=>if f k=0 then aA f m (k+1)else((k:Int),f k)
theorem F3 (l:List jX)(g:Nat)(a:List AV)(f:Nat->Int)(h: ∀(i:Nat) (x:jX),l[i]? =some x->Ev ad g (I i::.agg x.enc::a) (I (f i))):
  Ev ad 184 [.sl 2 (l.map jX.enc),.fn (.func g) [] a] (.bZ [I (aA f l.length 0).1,I (aA f l.length 0).2]):=by
 refine ak afw.ok<|cH 0 rfl λha=>?_
 simp only[an]at ha
 refine aC rfl<|aa<|aC rfl<|bE (aA f l.length 0=(0,0)) (el []) [] [] ?_ ?_
 ·refine dE (λk:Nat=>k<=l.length/\aA f l.length 0=aA f (l.length-k) k) (λk=>el [(1,.fn (.func g) [] a),(9,.sl 2 (l.map jX.enc)),(10,I l.length),(11,I k)]) (λk=>l.length-k) 0 ⟨zz,rfl⟩
   (ao ⟨rfl,rfl,by show I _=I _;simp,rfl,trivial⟩) ?_
  rintro k ⟨hk,hi⟩
  refine aC rfl<|aa (ag rfl (λhc=>?_) (λhc=>?_))
  ·simp only[nL]at hc
   obtain⟨x,hx⟩:=aL hc
   rw[show l.length-k=(l.length-(k+1))+1 from zz,aA]at hi
   refine af (aa (au ?_))
   refine bc [.cells x.enc,.aI] rfl ⟨⟨zz,by simp [hx]⟩,rfl,⟨rfl,rfl,rfl,zq⟩,trivial⟩<|bc [.ret (I (f k))] rfl ⟨h k x hx,trivial⟩<|aa<|cC rfl<|ag rfl (λb=>?_) (λb=>?_)
   ·simp only[nL]at b
    rw[if_neg b]at hi
    refine aC rfl<|ab (dm ?_ ?_)
    ·show I _=I _
     rw[hi]
    ·show I _=I _
     rw[hi]
   ·simp only[bne_eq_false_iff_eq]at b
    rw[if_pos b]at hi
    refine af<|dS rfl ⟨zz,trivial⟩ ?_
    exact⟨k+1,⟨hc,hi⟩,zz,eL⟩
  ·simp only[nL]at hc
   refine ay ⟨(),?_,ao trivial⟩
   rw[hi,show l.length-k=0 from zz];rfl
 ·intro _ h
  refine aC rfl<|ab (dm ?_ ?_)
  ·rw[h];rfl
  ·rw[h];rfl
theorem GY (l:List bz)(g:Nat)(a:List AV)(f:Nat->Int)(h: ∀(i:Nat) (x:bz),l[i]? =some x->Ev ad g (I i::.agg x.enc::a) (I (f i))):
  Ev ad 188 [.sl 3 (l.map bz.enc),.fn (.func g) [] a] (.bZ [I (aA f l.length 0).1,I (aA f l.length 0).2]):=by
 refine ak adY.ok<|cH 0 rfl λha=>?_
 simp only[an]at ha
 refine aC rfl<|aa<|aC rfl<|bE (aA f l.length 0=(0,0)) (el []) [] [] ?_ ?_
 ·refine dE (λk:Nat=>k<=l.length/\aA f l.length 0=aA f (l.length-k) k) (λk=>el [(1,.fn (.func g) [] a),(9,.sl 3 (l.map bz.enc)),(10,I l.length),(11,I k)]) (λk=>l.length-k) 0 ⟨zz,rfl⟩
   (ao ⟨rfl,rfl,by show I _=I _;simp,rfl,trivial⟩) ?_
  rintro k ⟨hk,hi⟩
  refine aC rfl<|aa (ag rfl (λhc=>?_) (λhc=>?_))
  ·simp only[nL]at hc
   obtain⟨x,hx⟩:=aL hc
   rw[show l.length-k=(l.length-(k+1))+1 from zz,aA]at hi
   refine af (aa (au ?_))
   refine bc [.cells x.enc,.aI] rfl ⟨⟨zz,by simp [hx]⟩,rfl,⟨rfl,rfl,rfl,zq⟩,trivial⟩<|bc [.ret (I (f k))] rfl ⟨h k x hx,trivial⟩<|aa<|cC rfl<|ag rfl (λb=>?_) (λb=>?_)
   ·simp only[nL]at b
    rw[if_neg b]at hi
    refine aC rfl<|ab (dm ?_ ?_)
    ·show I _=I _
     rw[hi]
    ·show I _=I _
     rw[hi]
   ·simp only[bne_eq_false_iff_eq]at b
    rw[if_pos b]at hi
    refine af<|dS rfl ⟨zz,trivial⟩ ?_
    exact⟨k+1,⟨hc,hi⟩,zz,eL⟩
  ·simp only[nL]at hc
   refine ay ⟨(),?_,ao trivial⟩
   rw[hi,show l.length-k=0 from zz];rfl
 ·intro _ h
  refine aC rfl<|ab (dm ?_ ?_)
  ·rw[h];rfl
  ·rw[h];rfl
theorem FJ (l:List cQ)(g:Nat)(a:List AV)(f:Nat->Int)(h: ∀(i:Nat) (x:cQ),l[i]? =some x->Ev ad g (I i::.agg x.enc::a) (I (f i))):
  Ev ad 191 [.sl 2 (l.map cQ.enc),.fn (.func g) [] a] (.bZ [I (aA f l.length 0).1,I (aA f l.length 0).2]):=by
 refine ak aey.ok<|cH 0 rfl λha=>?_
 simp only[an]at ha
 refine aC rfl<|aa<|aC rfl<|bE (aA f l.length 0=(0,0)) (el []) [] [] ?_ ?_
 ·refine dE (λk:Nat=>k<=l.length/\aA f l.length 0=aA f (l.length-k) k) (λk=>el [(1,.fn (.func g) [] a),(9,.sl 2 (l.map cQ.enc)),(10,I l.length),(11,I k)]) (λk=>l.length-k) 0 ⟨zz,rfl⟩
   (ao ⟨rfl,rfl,by show I _=I _;simp,rfl,trivial⟩) ?_
  rintro k ⟨hk,hi⟩
  refine aC rfl<|aa (ag rfl (λhc=>?_) (λhc=>?_))
  ·simp only[nL]at hc
   obtain⟨x,hx⟩:=aL hc
   rw[show l.length-k=(l.length-(k+1))+1 from zz,aA]at hi
   refine af (aa (au ?_))
   refine bc [.cells x.enc,.aI] rfl ⟨⟨zz,by simp [hx]⟩,rfl,⟨rfl,rfl,rfl,zq⟩,trivial⟩<|bc [.ret (I (f k))] rfl ⟨h k x hx,trivial⟩<|aa<|cC rfl<|ag rfl (λb=>?_) (λb=>?_)
   ·simp only[nL]at b
    rw[if_neg b]at hi
    refine aC rfl<|ab (dm ?_ ?_)
    ·show I _=I _
     rw[hi]
    ·show I _=I _
     rw[hi]
   ·simp only[bne_eq_false_iff_eq]at b
    rw[if_pos b]at hi
    refine af<|dS rfl ⟨zz,trivial⟩ ?_
    exact⟨k+1,⟨hc,hi⟩,zz,eL⟩
  ·simp only[nL]at hc
   refine ay ⟨(),?_,ao trivial⟩
   rw[hi,show l.length-k=0 from zz];rfl
 ·intro _ h
  refine aC rfl<|ab (dm ?_ ?_)
  ·rw[h];rfl
  ·rw[h];rfl
theorem IG (n lo hi:Int):Ev ad 260 [I n,.pi [I lo],.pi [I hi]] (B (decide (n<lo)||decide (n>hi))):=by
 refine ak ac5.ok<|aC rfl ?_;by_cases h:n<lo
 ·refine uk [(8,true)] [] rfl (by simp [h])<|ab (aB ?_);show B _=B _;simp [h]
 ·refine uk [(8,false)] [] rfl (by simp [h])<|ab (aB ?_);show B _=B _;simp [h]
def ah (lo hi:Int)(l:List Int):Bool:=l.any λn=>decide (n<lo)||decide (n>hi)
theorem jd (lo hi:Int)(l:List Int):Ev ad 181 [I lo,I hi,ints l] (B (ah lo hi l)):=by refine ak afz.ok<|bc [.bW,.bW] rfl ⟨⟨rfl,rfl⟩,⟨rfl,rfl⟩,trivial⟩<|bc [.ret (B (ah lo hi l))] rfl ⟨jg l _ _ _ (λn _=>IG n lo hi),trivial⟩<|ab (aB ?_);rfl
theorem Ph (x:bz)(c:Int):Ev ad 269 [.agg x.enc,.pi [U c]] (B (x.c==c)):=by refine ak acY.ok<|bc [.bW] rfl ⟨⟨rfl,rfl⟩,trivial⟩<|aC rfl<|ab (aB ?_);rfl
def cW (l:List bz)(c:Int):Int:=bD (λx=>x.c==c) l 0
theorem wG (l:List bz)(c:Int):Ev ad 193 [oZ l,U c] (I (cW l c)):=by refine ak aff.ok<|bc [.bW] rfl ⟨⟨rfl,rfl⟩,trivial⟩<|bc [.ret (I (cW l c))] rfl ⟨Oa l _ _ _ (λx _=>Ph x c),trivial⟩<|ab (aB ?_);rfl
def cN (s k:Int):Bool:=((((s/2^k.toNat).toNat &&& (1:Int).toNat:Nat):Int)==1)
theorem PE (x:bz)(k:Int)(a:0<=x.s)(e:x.s<9223372036854775808)(hk:0<=k)(b:k<64):Ev ad 390 [.agg x.enc,I k] (B (cN x.s k)):=by have c:0<=x.s/2^k.toNat:=Int.ediv_nonneg a (Int.le_of_lt (Int.pow_pos zz));have d:x.s/2^k.toNat<=x.s:=Int.ediv_le_self _ a;refine ak ac9.ok<|bc [.bW] rfl ⟨⟨rfl,rfl⟩,trivial⟩<|FD rfl ⟨⟨a,hk,b⟩,⟨⟨c,zz⟩,zz,zz⟩,trivial⟩<|ab (aB ?_);rfl
end Go.Px
namespace Go.Proofs
open Go.Shelf
theorem Tryz.sO (g:Nat)(e:g=0)(w:World)(h:w.ShapedOpen ad): ∃m,w.cell? ⟨g,0,none⟩=some (.int .i64 m):=by
 subst e;exact cell_of_shapedOpen_int (zero:= #[.int .i64 0]) (t:=3) h (of_decide_eq_true (by kernel_rfl)) (by kernel_rfl) rfl (by kernel_rfl) (by kernel_rfl) b6
def Tryz.Fh:a8:=⟨λ|171=>45|243=>92|246=>174|283=>254|284=>255|285=>256|286=>257|129=>326|317=>325|318=>327|319=>328|320=>329|337=>355|338=>356|n=>n,λ|3=>3|9=>9|2=>2|4=>4|171=>347|0=>0|53=>348|37=>129|5=>5|173=>351|212=>426|51=>379|20=>20|213=>427|46=>254|232=>493|233=>494|n=>n,λ|17=>1|18=>6|19=>7|n=>n⟩
theorem Tryz.GS:cD ad Tryz.Fh:=by repeat' first|kernel_rfl|(intro;kernel_rfl)|exact Tryz.sO _ rfl|decide|constructor
def Tryz.Ck:a8:=⟨λ|146=>22|221=>48|268=>94|138=>95|143=>96|195=>176|197=>177|218=>178|219=>142|260=>258|217=>215|225=>146|224=>145|267=>216|266=>287|314=>288|n=>n,λ|9=>9|31=>25|3=>3|4=>4|0=>0|105=>270|21=>21|5=>5|46=>254|119=>429|139=>432|138=>431|146=>380|51=>379|n=>n,λ|1=>0|3=>2|4=>3|n=>n⟩
theorem Tryz.DW:cB ad Tryz.Ck:=by repeat' first|kernel_rfl|(intro;kernel_rfl)|exact Tryz.sO _ rfl|decide|constructor
def Tryz.Hr:a8:=⟨λ|145=>41|220=>79|219=>142|217=>215|225=>146|224=>145|267=>216|266=>287|314=>288|n=>n,λ|9=>9|4=>4|59=>122|3=>3|5=>5|46=>254|146=>380|51=>379|n=>n,λ|1=>0|n=>n⟩
theorem Tryz.Ve:cA ad Tryz.Hr:=by repeat' first|kernel_rfl|(intro;kernel_rfl)|exact Tryz.sO _ rfl|decide|constructor
def Tryz.yv:a8:=⟨λ|153=>42|152=>80|226=>81|227=>82|228=>83|137=>143|119=>144|224=>145|225=>146|217=>215|266=>287|n=>n,λ|9=>9|3=>3|4=>4|5=>5|21=>21|117=>175|116=>174|0=>0|46=>254|124=>255|n=>n,λ|n=>n⟩
theorem Tryz.Ee:de ad Tryz.yv:=by repeat' first|kernel_rfl|(intro;kernel_rfl)|exact Tryz.sO _ rfl|decide|constructor
def Tryz.vT:a8:=⟨λ|156=>300|165=>343|166=>46|169=>47|240=>93|241=>368|276=>175|277=>382|n=>n,λ|31=>25|9=>9|3=>3|4=>4|0=>0|20=>20|72=>131|76=>134|70=>128|37=>129|75=>133|127=>196|164=>268|5=>5|80=>136|n=>n,λ|n=>n⟩
theorem Tryz.Ad:dk ad Tryz.vT:=by repeat' first|kernel_rfl|(intro;kernel_rfl)|exact Tryz.sO _ rfl|decide|constructor
def Tryz.vL:a8:=⟨λ|172=>253|244=>323|245=>324|247=>350|279=>351|280=>352|281=>353|282=>354|287=>375|316=>376|171=>45|205=>377|321=>383|322=>384|243=>92|246=>174|283=>254|284=>255|285=>256|286=>257|129=>326|317=>325|318=>327|319=>328|320=>329|337=>355|338=>356|n=>n,λ|9=>9|3=>3|75=>133|76=>134|4=>4|5=>5|167=>462|37=>129|0=>0|85=>463|2=>2|168=>465|53=>348|175=>487|46=>254|210=>491|127=>196|145=>504|143=>502|21=>21|171=>347|173=>351|212=>426|51=>379|20=>20|213=>427|232=>493|233=>494|80=>136|n=>n,λ|15=>4|16=>5|17=>1|18=>6|19=>7|n=>n⟩
theorem Tryz.An:cr ad Tryz.vL:=by repeat' first|kernel_rfl|(intro;kernel_rfl)|exact Tryz.sO _ rfl|decide|constructor
theorem Tryz.SK:Builder.Extra ad Tryz.vT:=by repeat' first|kernel_rfl|(intro;kernel_rfl)|decide|constructor
end Go.Proofs
namespace Go.Px
open Go.Proofs
theorem JV {w:World}{k:Nat}{os:Array Obj}:cb w.heap.size w (Sort.grow (w.drewN k) os):=by
 refine⟨rfl,rfl,rfl,?_,?_⟩
 ·show w.heap.size<=(w.heap++os).size;simp
 ·intro b a;show (w.heap++os)[b]? =w.heap[b]?;exact Array.getElem?_append_left a
theorem Ev.of {P:Program}{f:FuncId}{args:List AV}{res:AV}(ok:vd P f)(hl:res.bC=false)
  (h: ∀(S:aE) (w:World) (c:List Value),sN S w->S.In w->aS S args c->Calls P f c.toArray w (λe w'=> ∃v,e= .returned v/\cb w.heap.size w w'/\aR S res v)):Ev P f args res:=by
 refine⟨ok,λS w c hg a g=>(h S w c hg a g).mono ?_⟩
 rintro e w' ⟨v,rfl,d,i⟩
 exact⟨v,S,none,rfl,ph _,a.sA (λb hs=>d.block b (a.lt hs)),λb hs=>.inl hs,d,bF.dC hl i⟩
theorem TA {S:aE}{w:World}(h:sN S w):Lib.TabIs ad w "internal/strconv.uint64pow10" .u64 Lib.pow10Tab:=by obtain⟨-,-,⟨t,k,e⟩,-⟩:=h;show w.var? _ _=_;unfold dl;rw[show ad.globalNamed "internal/strconv.uint64pow10" =some 1 from Tryz.GS.m17];simp;simp only at e;rw[e];rfl
theorem xD {S:aE}{w:World}{b:Nat}{v:Value}(h:HH [v] w.heap[b]?):w.cell? ⟨b,0,none⟩=some v:=by obtain⟨t,k,e⟩:=h;rw[Lib.cell_of_heap e];rfl
theorem FP {S:aE}{w:World}(h:sN S w): ∃m,w.cell? ⟨0,0,none⟩=some (.int .i64 m):=by obtain⟨-,⟨m,e⟩,-⟩:=h;exact⟨m,xD (S:=S) e⟩
theorem tX (n:Int)(d: -9223372036854775808<=n)(f:n<=9223372036854775807):Ev ad 45 [I n] (bg (Lib.itoa n)):=by refine Ev.of ⟨_,Tryz.func45,zw,zw⟩ rfl λS w h hg g a=>?_;simp only[aS,aR]at a;obtain⟨c,b,rfl,rfl,rfl⟩:=a;refine(Any.strconv_Itoa Tryz.GS n d f w (TA hg)).mono ?_;rintro e w' ⟨rfl,k,os,rfl⟩;exact⟨_,rfl,JV,by simp only[aR]⟩
abbrev U6:Nat:=Tryz.vL.t 168
def F0 (s:List UInt8):AV:=match cR s with
 | .ok v=>.bZ [I v,.v .nilIface]
 |_=>.bZ [.any,.Vq U6 .any]
theorem Uo (s:List UInt8)(hs:s.length<=1000000):Ev ad 253 [bg s] (F0 s):=by
 have b:(F0 s).bC=false:=by unfold F0;split<;>rfl
 refine Ev.of ⟨_,Tryz.func253,zw,zw⟩ b λS w n hg k f=>?_;simp only[aS,aR]at f;obtain⟨c,g,rfl,rfl,rfl⟩:=f;have a:(⟨s.toArray⟩:ByteArray).size=s.length:=by simp [bi]
 obtain⟨-,-,-,⟨t4,m,i⟩,⟨t5,p5,j⟩⟩:=hg;unfold F0;rcases h:cR s with v|_|_
 ·refine(Any.strconv_Atoi_ok Tryz.An ⟨s.toArray⟩ (by rw[a];omega) v h w).mono ?_;rintro e w' ⟨rfl,l⟩;refine⟨_,rfl,?_,by simp;exact⟨[_,_],rfl,_,_,rfl,rfl,_,_,rfl,rfl,rfl⟩⟩;rcases l with rfl|⟨t,rfl⟩
  ·exact ec _ _
  ·exact Lib.bytesWorld_below _ _ _
 ·refine(Any.strconv_Atoi_syntax Tryz.An ⟨s.toArray⟩ (by rw[a];omega) h _ w (xD (S:=S) i) (.inr ⟨_,_,rfl⟩)).mono ?_;rintro e w' ⟨N,rfl,-,-,d⟩;exact⟨_,rfl,d,by simp;exact⟨[_,_],rfl,_,_,rfl,trivial,_,_,rfl,⟨_,rfl,trivial⟩,rfl⟩⟩
 ·refine(Any.strconv_Atoi_range Tryz.An ⟨s.toArray⟩ (by rw[a];omega) h _ w (xD (S:=S) j) (.inr ⟨_,_,rfl⟩)).mono ?_;rintro e w' ⟨N,rfl,-,-,d⟩;exact⟨_,rfl,d,by simp;exact⟨[_,_],rfl,_,_,rfl,trivial,_,_,rfl,⟨_,rfl,trivial⟩,rfl⟩⟩
theorem YK (s a:List UInt8)(hs:s.length<=1000000):Ev ad 41 [bg s,bg a] (.bZ [bg (dn s a).1,bg (dn s a).2.1,B (dn s a).2.2]):=by
 refine Ev.of ⟨_,Tryz.func41,zw,zw⟩ rfl λS w j hg h d=>?_;simp only[aS,aR]at d;obtain⟨c,f,rfl,rfl,i,g,rfl,rfl,rfl⟩:=d;have b:(⟨s.toArray⟩:ByteArray).size=s.length:=by simp [bi]
 obtain⟨m,hm⟩:=FP hg;refine(Any.strings_Cut {Tryz.Ve with} ⟨s.toArray⟩ ⟨a.toArray⟩ m w (by rw[b];omega) hm).mono ?_;rintro e w' ⟨rfl,n,rfl⟩;refine⟨_,rfl,⟨rfl,rfl,rfl,Nat.le_refl _,λ_ _=>rfl⟩,?_⟩;simp;exact⟨[_,_,_],rfl,_,_,rfl,rfl,_,_,rfl,rfl,_,_,rfl,rfl,rfl⟩
open Go.Proofs.YtjjmmbcmdheooaaGreatDoor
open Go.ChangeShapes Go.WideShapes Go.ChangeAt Go.RowKit
theorem own:ownKnob ad.godebug=none:=zw
theorem laid:laidOutB ad=true:=zw
theorem EZ {W:World}{n:String}{g:Nat}{cs:Array Value}(hg:ad.globalNamed n=some g)(h:W.var? ad n=some cs):HH cs.toList W.heap[g]? :=by
 unfold dl at h;rw[hg]at h;simp only[Option.bind_some]at h;split at h
 ·rename_i c t f e;cases h;exact⟨t,f,zz⟩
 ·cases h
theorem VJ {W:World}(hs:W.ShapedOpen ad): ∃m,HH [.int .i64 m] W.heap[0]? :=by
 have c:((begin ad (λ_ _=>0) default).world.heap[0]?).bind Obj.row? =some (#[.int .i64 0],3):=zw
 have hg:0<ad.globals.size:=by rw[show ad.globals.size=8 from zw];decide
 obtain⟨m,hm⟩:=cell_of_shapedOpen_int hs hg c rfl zw zw b6;obtain⟨cs,hh,d,_⟩:=hs.1 0 _ _ hg c;refine⟨m,3,(0,0),?_⟩;rw[hh];have e:0<cs.size:=by rw[d];decide
 have:cs= #[.int .i64 m]:=by
  apply Array.ext
  ·rw[d];rfl
  ·intro i a b;have:i=0:=by simp at b;omega
   subst this;simp [c7,hh,e]at hm;simpa using hm
 rw[this]
theorem UK {W:World}(hs:W.ShapedOpen ad)(h:laidMetH ad Rows.clerkKnownRow.laid W):sN (aE.gZ W) W:=by
 obtain⟨m,z⟩:=VJ hs;rw[b9 _ _ _ zw]at h;obtain⟨ps,⟨_,_,_,_,_,_,_,_,_,_,⟨_,_,_,_,_,_,_,_,_,_,⟨g2,t2,E,f2,_,_,a,j,p,f,⟨_,_,_,_,_,_,_,_,_,_,⟨G,t4,c4,f4,_,_,c,n,q,g,⟨H,t5,F,f5,_,_,d,o,r,i,_,_⟩,_⟩,_⟩,_⟩,_⟩,_⟩,_,_⟩:=h;obtain rfl:=az ((show ad.globalNamed "internal/strconv.uint64pow10" =some 1 from zw).symm.trans a);obtain rfl:=az ((show (ad.globals[1]?).map (·.type)=some 426 from zw).symm.trans j);have s:=EZ a p;rw[O2 (zs:=[1,10,100,1000,10000,100000,1000000,10000000,100000000,1000000000,10000000000,100000000000,1000000000000,10000000000000,100000000000000,1000000000000000,10000000000000000,100000000000000000,1000000000000000000,10000000000000000000]) Tryz.underlying426 Tryz.underlying348 zw zw f]at s;obtain rfl:=az ((show ad.globalNamed "strconv.ErrRange" =some 5 from zw).symm.trans c);obtain rfl:=az ((show (ad.globals[5]?).map (·.type)=some 133 from zw).symm.trans n);obtain rfl:=az ((show ad.globalNamed "strconv.ErrSyntax" =some 4 from zw).symm.trans d);obtain rfl:=az ((show (ad.globals[4]?).map (·.type)=some 133 from zw).symm.trans o);have w:=EZ c q;have r4:=EZ d r;obtain⟨u,v,C⟩:=BM bA g;obtain⟨x,y,B⟩:=BM bA i;rw[C]at w;rw[B]at r4;have D:AD λb=>W.heap[b]? :=⟨⟨m,z⟩,s,⟨x,y,r4⟩,⟨u,v,w⟩⟩;have has: ∀{b:Nat} {v:Value} {l:List Value},HH (v::l) W.heap[b]? ->(aE.gZ W).has b:=by rintro b v l ⟨t,k,e⟩;exact .inl ⟨0,v,by simp [aE.gZ,c7,e]⟩
 refine⟨λb A=>?_,D⟩;simp only[N3,List.mem_cons,List.not_mem_nil,or_false]at A;rcases A with rfl|rfl|rfl|rfl
 ·exact has z
 ·exact has s
 ·exact has r4
 ·exact has w
abbrev aai (e:Int):Value:=.iface 179 (.agg #[.int .i64 e])
abbrev uw (e:Int):List PanicEntry:=[{v:=aai e,recovered:=false}]
theorem WW {a:Int}(d:(ds .i64 a).wf=true):bJ ad 5 179 (.agg #[.int .i64 a]):=by
 have b:ad.cellsOf 179=1:=zw
 have c:ad.cellsOf 52=1:=zw
 refine⟨?_,[.int .i64 a],?_⟩
 ·simp [Value.formed,bI,b]
 ·simp [Value.cells,Program.keyLits,bI,Tryz.underlying52,b,c,d]
theorem cV (e:Int)(h:(ds .i64 e).wf=true):Dm ad 91 [I e] [] (e==0) (.bZ []) [] (uw e) (·=[]):=by
 refine cq S91.ok (kh [(2,[.i .aI]),(7,[.i (.op (B (e !=0)))])]) (lh []) ?_;repeat' first|apply aP|apply aO|apply aN|apply aw|apply bm|(intro a;(try simp only[nL]at a);(try contradiction))
 all_goals try exact fi _
 exact⟨λr N D=>Q1.of λK k=>aF.nI (m:=3) (DD:=5) zq zw zw zw zw (u:=.agg #[.int .i64 e]) (v:=.agg #[.int .i64 0]) rfl rfl (WW h) (WW rfl) (e==0) zj k⟩
theorem bR (so:Bool)(e:Int)(h:(ds .i64 e).wf=true)(he:e≠0):Dm ad 85 [B so,I e] [] so (.bZ []) [] (uw e) (·=[]):=by exact Dm.go S85.ok [(7,[.u 0 (cV e h)])] []
abbrev Jh (N:Nat)(x:bN->bN)(l a:List (Nat×AV)):Prop:= ∀(C:bN) (Q:cI),aJ ad none N C Q (el a) [] []->aJ ad none N (x C) Q (el l) [] []
def Sd (t:Nat)(A B:List aH):bN:=
 .block 0 (.loop (.seq (.ops [ow 12 (.bin .lss 3 (tm 11) (tm 10))]) (.seq (.ite (tm 12) .skip (.exit 0)) (.seq
  (.block 1 (.seq (.ops A) (.seq (.ops B) (.seq (.ops [om 20 8,ow 21 (.bin .neq t (tm 20) (kc 0))]) (.ite (tm 21) (.seq (.ops [om 22 6,om 23 8,om 4 22,om 5 23]) .ret) .skip)))))
  (.ops [ow 24 (.bin .add 3 (tm 11) (kc 1)),om 11 24])))))
theorem ua {t:Nat}{A B:List aH}{N:Nat}(F S:AV)(n:Nat)(f:Nat->Int){Q:cI}{y:bN}(j:n<=9223372036854775807)(g:F.bC=false)(i:S.bC=false)
  (step: ∀k,k<n->Jh N (λC=>.seq (.ops A) (.seq (.ops B) C)) [(1,F),(9,S),(10,I n),(11,I k)] [(1,F),(9,S),(10,I n),(11,I k),(6,I k),(8,I (f k))])
  (c: ∀env,env 4=I (aA f n 0).1->env 5=I (aA f n 0).2->Q .ret env [] [])
  (b:aA f n 0=(0,0)->aJ ad none N y Q (el [(1,F)]) [] []):aJ ad none N (Sd t A B) (jG (λe h d=>aJ ad none N y Q e h d) Q) (el [(1,F),(9,S),(10,I n),(11,I (0:Nat))]) [] []:=by
 unfold Sd
 refine bE (aA f n 0=(0,0)) (el [(1,F)]) [] [] ?_ (λ_ h=>b h)
 refine dE (λk:Nat=>k<=n/\aA f n 0=aA f (n-k) k) (λk=>el [(1,F),(9,S),(10,I n),(11,I k)]) (λk=>n-k) 0 ⟨zz,rfl⟩ (bB.refl _ _ _) ?_
 rintro k ⟨hk,hi⟩
 refine aa<|cC rfl<|aa (ag rfl (λhc=>?_) (λhc=>?_))
 ·simp only[nL]at hc
  rw[show n-k=(n-(k+1))+1 from zz,aA]at hi
  refine af (aa (au ?_))
  refine gm [(1,F),(9,S),(10,I n),(11,I k)]<|step k hc _ _<|aa<|cC rfl<|ag rfl (λa=>?_) (λa=>?_)
  ·simp only[nL]at a
   rw[if_neg a]at hi
   refine aC rfl<|ab (c _ ?_ ?_)
   ·show I _=I _
    rw[hi]
   ·show I _=I _
    rw[hi]
  ·simp only[bne_eq_false_iff_eq]at a
   rw[if_pos a]at hi
   refine af<|dS rfl ⟨zz,trivial⟩ ?_
   exact⟨k+1,⟨hc,hi⟩,zz,eL⟩
 ·simp only[nL]at hc
  refine ay ⟨(),?_,eL⟩
  rw[hi,show n-k=0 from zz];rfl
def P5 (t:Nat)(A B:List aH):bN:=
 .block 0 (.loop (.seq (.ops [ow 18 (.bin .lss 3 (tm 17) (tm 16))]) (.seq (.ite (tm 18) .skip (.exit 0)) (.seq
  (.block 1 (.seq (.ops A) (.seq (.ops B) (.seq (.ops [om 26 10,ow 27 (.bin .neq t (tm 26) (kc 0))]) (.ite (tm 27) (.seq (.ops [om 28 8,om 29 10,om 6 28,om 7 29]) .ret) .skip)))))
  (.ops [ow 30 (.bin .add 3 (tm 17) (kc 1)),om 17 30])))))
theorem tD {t:Nat}{A B:List aH}{N:Nat}(F S:AV)(n:Nat)(f:Nat->Int){Q:cI}{y:bN}(j:n<=9223372036854775807)(g:F.bC=false)(i:S.bC=false)
  (step: ∀k,k<n->Jh N (λC=>.seq (.ops A) (.seq (.ops B) C)) [(2,F),(15,S),(16,I n),(17,I k)] [(2,F),(15,S),(16,I n),(17,I k),(8,I k),(10,I (f k))])
  (c: ∀env,env 6=I (aA f n 0).1->env 7=I (aA f n 0).2->Q .ret env [] [])
  (b:aA f n 0=(0,0)->aJ ad none N y Q (el [(2,F)]) [] []):aJ ad none N (P5 t A B) (jG (λe h d=>aJ ad none N y Q e h d) Q) (el [(2,F),(15,S),(16,I n),(17,I (0:Nat))]) [] []:=by
 unfold P5
 refine bE (aA f n 0=(0,0)) (el [(2,F)]) [] [] ?_ (λ_ h=>b h)
 refine dE (λk:Nat=>k<=n/\aA f n 0=aA f (n-k) k) (λk=>el [(2,F),(15,S),(16,I n),(17,I k)]) (λk=>n-k) 0 ⟨zz,rfl⟩ (bB.refl _ _ _) ?_
 rintro k ⟨hk,hi⟩
 refine aa<|cC rfl<|aa (ag rfl (λhc=>?_) (λhc=>?_))
 ·simp only[nL]at hc
  rw[show n-k=(n-(k+1))+1 from zz,aA]at hi
  refine af (aa (au ?_))
  refine gm [(2,F),(15,S),(16,I n),(17,I k)]<|step k hc _ _<|aa<|cC rfl<|ag rfl (λa=>?_) (λa=>?_)
  ·simp only[nL]at a
   rw[if_neg a]at hi
   refine aC rfl<|ab (c _ ?_ ?_)
   ·show I _=I _
    rw[hi]
   ·show I _=I _
    rw[hi]
  ·simp only[bne_eq_false_iff_eq]at a
   rw[if_pos a]at hi
   refine af<|dS rfl ⟨zz,trivial⟩ ?_
   exact⟨k+1,⟨hc,hi⟩,zz,eL⟩
 ·simp only[nL]at hc
  refine ay ⟨(),?_,eL⟩
  rw[hi,show n-k=0 from zz];rfl
def ZZ (S:Nat)(A:List aH):bN:=
 .seq (.ops [ow 4 (.rF (kc 0))]) (.seq (.seq (.ops [om 6 0,ow 7 (.len false S 3 (tm 6)),ow 8 (.rF (kc 0))]) (.block 0 (.loop (.seq (.ops [ow 9 (.bin .lss 3 (tm 8) (tm 7))]) (.seq (.ite (tm 9) .skip (.exit 0)) (.seq
  (.block 1 (.seq (.ops [om 10 8,om 5 10]) (.seq (.ops A) (.ite (tm 16) (.seq (.ops [om 17 5,om 4 17]) .ret) .skip))))
  (.ops [ow 18 (.bin .add 3 (tm 8) (kc 1)),om 8 18]))))))) (.seq (.ops [ow 4 (.rF (kc (-1)))]) .ret))
theorem tU {α:Type}{f S:Nat}{A:List aH}(ok:rY ad f 19 [.tmp 4] (ZZ S A))(enc:α->List AV)(kk:Nat)(l:List α)(p:α->Bool)(F:AV)(b:F.bC=false)
  (step: ∀(k:Nat) x,l[k]? =some x->Jh 19 (λC=>.seq (.ops A) C) [(0,.sl kk (l.map enc)),(1,F),(5,I k),(7,I l.length),(8,I k)] [(0,.sl kk (l.map enc)),(1,F),(5,I k),(7,I l.length),(8,I k),(16,B (p x))]):
  Ev ad f [.sl kk (l.map enc),F] (I (bD p l 0)):=by
 refine ak ok ?_
 unfold ZZ
 refine cH 0 rfl λha=>?_
 simp only[an]at ha
 refine aC rfl<|aa<|aC rfl<|bE (bD p l 0= -1) (el []) [] [] ?_ ?_
 ·refine dE (λk:Nat=>k<=l.length/\bD p l 0=bD p (l.drop k) k) (λk=>el [(0,.sl kk (l.map enc)),(1,F),(7,I l.length),(8,I k)]) (λk=>l.length-k) 0 ⟨zz,rfl⟩
   (ao ⟨rfl,rfl,by show I _=I _;simp,rfl,trivial⟩) ?_
  rintro k ⟨hk,hi⟩
  refine aC rfl<|aa (ag rfl (λhc=>?_) (λhc=>?_))
  ·simp only[nL]at hc
   obtain⟨x,hx⟩:=aL hc
   rw[drop_cons hx,bD]at hi
   refine af (aa (au ?_))
   refine aC rfl<|gm [(0,.sl kk (l.map enc)),(1,F),(5,I k),(7,I l.length),(8,I k)]<|step k x hx _ _<|ag rfl (λa=>?_) (λa=>?_)
   ·refine aC rfl<|ab (aB ?_)
    show I _=I _
    rw[hi,a];rfl
   ·refine af<|dS rfl ⟨zz,trivial⟩ ?_
    exact⟨k+1,⟨hc,by rw[hi,a];rfl⟩,zz,eL⟩
  ·simp only[nL]at hc
   refine ay ⟨(),?_,ao trivial⟩
   rw[hi,drop_nil hc];rfl
 ·intro _ h
  refine aC rfl<|ab (aB ?_)
  rw[h];rfl
theorem vV {α:Type}{f g:Nat}(ok:rY ad f 9 [.tmp 4] (.seq (.ops [ow 4 (.rF (.const (.bool false)))]) (.seq (.ops [om 5 0,om 6 1,ow 7 (.call g [tm 5,tm 6] 3),ow 8 (.bin .geq 3 (tm 7) (kc 0)),om 4 8]) .ret)))
  {kk c:Nat} {es:List (List AV)} {a:List AV} (l:List α) (p:α->Bool) (h:Ev ad g [.sl kk es,.fn (.func c) [] a] (I (bD p l 0))):Ev ad f [.sl kk es,.fn (.func c) [] a] (B (l.any p)):=by
 refine ak ok<|aC rfl<|bc [.ret (I (bD p l 0))] rfl ⟨h,trivial⟩<|ab (aB ?_)
 show B _=B _
 rw[tI p l 0 zz]
theorem xK (s:ByteArray)(p:Nat)(h:128<=(s.get! p).toNat):128<=(a7 s p).1:=by
 unfold a7;simp;rw[if_neg zz];repeat' split
 all_goals simp_all [Utf8.runeError]
 all_goals omega
theorem yn (s:ByteArray)(p:Nat)(h:(s.get! p).toNat<128):a7 s p=((s.get! p).toNat,1):=by unfold a7;simp only[Nat.add_zero];rw[if_pos zz]
def PM (i:Nat)(c:Nat):Bool:=(decide (97<=c)&&decide (c<=122))||(decide (0<i)&&(c==46||(decide (48<=c)&&decide (c<=57))))
def NV:List UInt8->Nat->Bool
 |[],_=>true
 |c::l,i=>PM i c.toNat&&NV l (i+1)
def fl (l:List UInt8):Bool:=NV l 0&&(decide (1<=l.length)&&decide (l.length<=16))
theorem tZ (l:List UInt8)(hl:l.length<=9223372036854775807):Ev ad 98 [bg l] (B (fl l)):=by
 refine ak S98.ok<|aC rfl<|aa (aa (av ?_));refine aT.xq (gs:=[]) (hs:=[]) rfl trivial<|ai (aF.tn rfl (λb=>?_));refine eZ rfl<|bE (NV l 0=true) (el [(0,bg l)]) [] [] ?_ ?_
 ·refine br (λk:Nat=>k<=l.length/\NV l 0=NV (l.drop k) k) (λk=>el [(0,bg l),(7,.po b 0)]) (λk=>[(b,.raw (.stringIter ⟨l.toArray⟩ k))]) (λ_=>[]) (λk=>l.length-k) 0 ⟨zz,rfl⟩
   eL ?_
  rintro k ⟨hk,hi⟩;refine aa (av (ai (aF.Qr (i:=0) rfl rfl (λg=>?_) (λg=>?_))))
  ·simp only[b1,bi]at g;obtain⟨c,hc⟩:=aL g;have hg:(er l.toArray).get! k=c:=by have o:=(ap.1 hc).2;show l.toArray[k]! =c;rw[getElem!_pos l.toArray k (by simpa using g)];simpa using o
   rw[drop_cons hc,NV]at hi;have d:128<=c.toNat->128<=(a7 ⟨l.toArray⟩ k).1:=λh=>xK _ _ (by rw[hg];exact h);have j:c.toNat<128->a7 ⟨l.toArray⟩ k=(c.toNat,1):=λh=>by rw[yn _ _ (by rw[hg];exact h),hg]
   generalize r:a7 ⟨l.toArray⟩ k=q at d j;obtain⟨u,p⟩:=q;simp only at d;refine eZ rfl<|aa (ag (b:=true) rfl (λ_=>af ?_) (λh=>by cases h));refine au<|aC rfl<|dZ True (el [(0,bg l),(7,.po b 0),(3,I k),(4,.v (.int .i32 u)),(5,B (decide (97<=u)&&decide (u<=122)))]) [(b,.raw (.stringIter ⟨l.toArray⟩ (k+p)))] [] ?_ ?_
   ·by_cases f:97<=u
    ·refine js [(14,true)] [] rfl (by simp;omega) ?_;exact⟨(),trivial,ao ⟨rfl,rfl,rfl,rfl,by show B _=B _;simp [f];omega,trivial⟩⟩
    ·refine js [(14,false)] [] rfl (by simp;omega) ?_;exact⟨(),trivial,ao ⟨rfl,rfl,rfl,rfl,by show B _=B _;simp [f],trivial⟩⟩
   intro _ _;refine dZ True (el [(0,bg l),(7,.po b 0),(35,B (!PM k u))]) [(b,.raw (.stringIter ⟨l.toArray⟩ (k+p)))] [] ?_ ?_
   ·cases a:(decide (97<=u)&&decide (u<=122))with
    |true=>refine js [(20,false)] [] rfl zj ?_;exact⟨(),trivial,ao ⟨rfl,rfl,by show B _=B _;simp [PM,a],trivial⟩⟩
    |false=>
     by_cases n:k=0
     ·refine js [(20,true),(23,true)] [] rfl (by simp [n]) ?_;exact⟨(),trivial,ao ⟨rfl,rfl,by show B _=B _;simp [PM,a,n],trivial⟩⟩
     ·by_cases f:u=46
      ·refine js [(20,true),(23,false),(26,false)] [] rfl (by simp [n,f]) ?_;exact⟨(),trivial,ao ⟨rfl,rfl,by show B _=B _;simp [PM,f];omega,trivial⟩⟩
      ·by_cases o:u<48
       ·refine js [(20,true),(23,false),(26,true),(29,true)] [] rfl (by simp [n];omega) ?_;exact⟨(),trivial,ao ⟨rfl,rfl,by show B _=B _;simp [PM,a,f];omega,trivial⟩⟩
       ·refine js [(20,true),(23,false),(26,true),(29,false)] [] rfl (by simp [n];omega) ?_;have e:decide ((u:Int)>57)= !PM k u:=by rw[bn];simp [PM,a,f];omega
        exact⟨(),trivial,ao ⟨rfl,rfl,by rw[<-e];rfl,trivial⟩⟩
   intro _ _;refine ag rfl (λm=>?_) (λm=>?_)
   ·simp only[b0]at m;refine aC rfl<|ab (aB ?_);show B _=B _
    have:PM k c.toNat=false:=by
     by_cases a:c.toNat<128
     ·have:=j a;cases this;exact m
     ·have:=d zz;simp [PM];omega
    simp [fl,hi,this]
   ·simp only[Bool.not_eq_false']at m;have s:u<128:=by simp only[PM,Bool.or_eq_true,b4,decide_eq_true_eq,beq_iff_eq]at m;omega
    have a:c.toNat<128:=by
     rcases Nat.lt_or_ge c.toNat 128 with h|h
     ·exact h
     ·have:=d h;omega
    have:=j a;cases this;refine af ⟨k+1,⟨g,by rw[hi,m,Bool.true_and]⟩,zz,eL⟩
  ·simp only[b1,bi]at g;refine eZ rfl<|aa (ag (b:=false) rfl (λh=>by cases h) (λ_=>ay ⟨(),?_,?_⟩))
   ·rw[hi,drop_nil g];rfl
   ·exact aj (bB.Hv 0) eL
 ·intro _ h;refine bc [.bW,.ret (B (ah 1 16 [(l.length:Int)]))] rfl ⟨rfl,jd 1 16 [(l.length:Int)],trivial⟩<|ab (aB ?_);have:(!ah 1 16 [(l.length:Int)])=fl l:=by rw[bn];simp [fl,h,ah];omega
  rw[<-this];rfl
end Go.Px
