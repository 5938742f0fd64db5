/- Part 27 of the proof of a statement of this seat (a logic of pure contracts; the functions; their contracts). No conditions. -/
import Derived.Test.YtjjmmbcmdheooaaGreatDoorA26
open And renaming intro->az
open ByteArray renaming mk->bt,size_append->b0
open Classical renaming not_not->b3
open Go.Lib renaming itoa_length_le->bx
open Go.Proofs.Tryz renaming prog->ap
open List renaming length_cons->ad,mem_of_find?_eq_some->an,mem_cons_of_mem->a6,find?_some->a7,getElem?_eq_getElem->a8,length_map->be,getD_cons_zero->bi,getD->bk,getD_cons_succ->bs,getElem_mem->bA,append_nil->bI,mem_map->b7,all_eq_true->b8,not_mem_nil->b9,length_nil->cc,map_append->cr,mem_cons->cD,range->cR
open List.Perm renaming cons->cA,swap->cB
open List.Sublist renaming refl->bm
open List.cons renaming injEq->c7
open Nat renaming le_refl->b1,zero_le->cb
open Option renaming getD_some->bn
set_option maxRecDepth 20000
set_option maxHeartbeats 16000000
namespace Go.Px
section
open Go.Proofs
variable {a:cE} (ok:a.OK) (ws0:List Wd) {s:Wd} (b b2 b4 b5 b6:Nat)
include ok
theorem YG {w0:Wd}{own:List Wd}{d:List Kd}{id:Nat}(h:dL s=true)(m:aV 32 s=w0::own)(q:(bG w0).find? (λx=>dF x own)=some (⟨d,none,id⟩:bf))(e: ∀i,i<own.length->(rX a (⟨d,none,id⟩:bf) own i).isSome=true)(he:eg a (⟨d,none,id⟩:bf) own own.length=0):
  aJ ap none 96 E6 (uN a ws0 s b b2 b4 b5 b6) (el (Cm s b b2 b4 b5 b6)) (nP b b2 b4 b5 b6 (cU a (strs ws0)) (cU a (strs ws0)) [] 0) []:=by
 have A:=jI s
 rw[h]at A
 have hl:=jj h
 have hs:=my s 32 zz
 rw[m]at hs
 have ha:=ou a _ own h m q
 have C:own.length<=100:=by have:=fK (c:=32) s;rw[m,ad]at this;omega
 have l: ∀w∈own,w.length<=1000:=λw hm=>by
  have:=fQ (c:=32) (s:=s) (w:=w) (by rw[m];exact a6 _ hm);omega
 have y:=xN l
 have hi:=qp b (bG w0) 88 [.pi [strs own]] (λx=>dF x own) (λx hx=>oi b x own (by have:=jh hx;omega) zz)
 obtain⟨ud,j⟩:=qg q
 generalize bD (λx=>dF x own) (bG w0) 0=i at hi ud j
 have o:=an q
 have g:=a7 q
 have F:d.length<=5:=jh o
 have t:0<=i/\((bG w0).map (bf.enc b jE))[i.toNat]? =some ((⟨d,none,id⟩:bf).enc b jE):=⟨ud,by simp [j]⟩
 have z:own.length=d.length:=(tf g).2 rfl
 rw[if_pos e,if_neg (λh=>h he)]at ha
 have hd:=SG ok o g (n:=eF a (⟨d,none,id⟩:bf) own own.length) (by simp [eF]) (λi hi=>by
  have r:=e i hi
  have p:=uf a (⟨d,none,id⟩:bf) own _ he i hi
  rw[show (eF a (⟨d,none,id⟩:bf) own own.length).getD i 0=((rX a (⟨d,none,id⟩:bf) own i).getD (0,0)).1 by simp [eF,hi]]
  unfold rX at r p ⊢
  cases B:gY a (gS (⟨d,none,id⟩:bf) i) (nx own i)with
  |none=>rw[B]at r;cases r
  |some v=>rw[B]at p;simp only[bn]at p ⊢;rw[<-p]) l C b
 generalize yW a (w0::own) (eF a (⟨d,none,id⟩:bf) own own.length) (⟨d,none,id⟩:bf).id=res at ha hd
 refine ep [(23,[.ev A]),(24,[.u 0 (bR true 6 rfl zq)]),(25,[.i (.at 1)]),(27,[.ev hs]),(10029,[.i (.gI 0)]),(30,[.i (.at 1)]),(31,[.ev (oG b)]),(32,[.i (.at 1)]),(35,[.i (.at 0)]),(38,[.i (.op (.sl 3 ((bG w0).map (bf.enc b jE))))]),(39,[.i (.at 1)]),(42,[.i (.at 0)]),(45,[.fz 8]),(46,[.ev hi]),(49,[.u 0 (bR true 6 rfl zq)]),(52,[.i (.cells ((⟨d,none,id⟩:bf).enc b jE))]),(54,[.fz 10]),(91,[.u 0 (cV 0 rfl)]),(95,[.u 0 hd]),(10004,[.i (.gI 2)]),(10005,[.i (.gI 3)])] [(0,{n:=own.length,E:=λk=>[(2,.po b2 0),(4,.po b4 0),(5,.po b5 0),(8,.pi [strs own]),(10,.pi ((⟨d,none,id⟩:bf).enc b jE)),(11,.aI 3 1 ((eF a (⟨d,none,id⟩:bf) own k).map λx=>[I x])),(12,I (eg a (⟨d,none,id⟩:bf) own k)),(54,strs own),(55,I own.length),(56,I k)],I:=λk=>nA a (⟨d,none,id⟩:bf) own k,H:=λk=>[(b,.cells 80 (cU a (strs (w0::own)))),(b2,.cells 69 [.po b 0]),(b4,.cells 9 [bg []]),(b5,.cells 52 [I 0]),(b6,.cells 80 (cU a (strs ws0)))],K:=λk=>[(59,[.i (.cells [bg (nx own k)])]),(71,[.i (.cells [.v (xi (nx d k))])]),(74,[.i (.at 1)]),(79,[.u 0 (yh ok b (w0::own) (gS (⟨d,none,id⟩:bf) k) (nx own k) (y k))])]})] ?_
 repeat' first|exact(vS e zy zy).elim|exact absurd (z▸(show _<own.length from zy):_<d.length) zy|apply aP|apply aO|apply aN|apply aw|apply az|(intro D;(try simp only[nL]at D);(try contradiction))
 all_goals try first|exact fo _|exact xY rfl qd|exact⟨vy b w0 rfl rfl⟩|exact⟨t⟩|exact⟨nA.zero⟩|exact⟨tz (x:=(⟨d,none,id⟩:bf)) zy⟩|exact⟨zz,wu (f:=λk=>[.v (xi k)]) zy⟩|exact⟨tY zy zz⟩|exact⟨rfl,rfl,pL⟩|exact⟨rfl,nJ zy⟩|exact⟨rfl,nH zy⟩|exact⟨nA.on zy zy⟩|exact⟨jn (decide_eq_true zz)⟩|exact⟨DU he zy zy⟩|exact⟨GQ zy zy⟩|exact⟨rfl,rfl,rfl,TX ws0 b b2 b4 b5 b6 zy (ha.trans (F4 zy)) rfl⟩|exact⟨rfl,rfl,rfl,res.Zf a,res.Ze,aap m rfl,ha.trans (G3 a zy)⟩|exact⟨rfl⟩|exact⟨aU _⟩|exact fi _
 done
end
section
variable {a:cE} (ok:a.OK) (ws0:List Wd) {s:Wd} (b b2 b4 b5 b6:Nat)
include ok
theorem YR {w0:Wd}{own:List Wd}{d:List Kd}{m:Kd}{id:Nat}(h:dL s=true)(o:aV 32 s=w0::own)(r:(bG w0).find? (λx=>dF x own)=some (⟨d,(some m),id⟩:bf))(e: ∀i,i<own.length->(rX a (⟨d,(some m),id⟩:bf) own i).isSome=true)(he:eg a (⟨d,(some m),id⟩:bf) own own.length=0):
  aJ ap none 96 E6 (uN a ws0 s b b2 b4 b5 b6) (el (Cm s b b2 b4 b5 b6)) (nP b b2 b4 b5 b6 (cU a (strs ws0)) (cU a (strs ws0)) [] 0) []:=by
 have A:=jI s
 rw[h]at A
 have hl:=jj h
 have hs:=my s 32 zz
 rw[o]at hs
 have ha:=ou a _ own h o r
 have C:own.length<=100:=by have:=fK (c:=32) s;rw[o,ad]at this;omega
 have l: ∀w∈own,w.length<=1000:=λw hm=>by
  have:=fQ (c:=32) (s:=s) (w:=w) (by rw[o];exact a6 _ hm);omega
 have z:=xN l
 have hi:=qp b (bG w0) 88 [.pi [strs own]] (λx=>dF x own) (λx hx=>oi b x own (by have:=jh hx;omega) zz)
 obtain⟨ud,j⟩:=qg r
 generalize bD (λx=>dF x own) (bG w0) 0=i at hi ud j
 have p:=an r
 have g:=a7 r
 have F:d.length<=5:=jh p
 have y:0<=i/\((bG w0).map (bf.enc b jE))[i.toNat]? =some ((⟨d,(some m),id⟩:bf).enc b jE):=⟨ud,by simp [j]⟩
 rw[if_pos e,if_neg (λh=>h he)]at ha
 have hd:=SG ok p g (n:=eF a (⟨d,(some m),id⟩:bf) own own.length) (by simp [eF]) (λi hi=>by
  have t:=e i hi
  have q:=uf a (⟨d,(some m),id⟩:bf) own _ he i hi
  rw[show (eF a (⟨d,(some m),id⟩:bf) own own.length).getD i 0=((rX a (⟨d,(some m),id⟩:bf) own i).getD (0,0)).1 by simp [eF,hi]]
  unfold rX at t q ⊢
  cases B:gY a (gS (⟨d,(some m),id⟩:bf) i) (nx own i)with
  |none=>rw[B]at t;cases t
  |some v=>rw[B]at q;simp only[bn]at q ⊢;rw[<-q]) l C b
 generalize yW a (w0::own) (eF a (⟨d,(some m),id⟩:bf) own own.length) (⟨d,(some m),id⟩:bf).id=res at ha hd
 refine ep [(23,[.ev A]),(24,[.u 0 (bR true 6 rfl zq)]),(25,[.i (.at 1)]),(27,[.ev hs]),(10029,[.i (.gI 0)]),(30,[.i (.at 1)]),(31,[.ev (oG b)]),(32,[.i (.at 1)]),(35,[.i (.at 0)]),(38,[.i (.op (.sl 3 ((bG w0).map (bf.enc b jE))))]),(39,[.i (.at 1)]),(42,[.i (.at 0)]),(45,[.fz 8]),(46,[.ev hi]),(49,[.u 0 (bR true 6 rfl zq)]),(52,[.i (.cells ((⟨d,(some m),id⟩:bf).enc b jE))]),(54,[.fz 10]),(91,[.u 0 (cV 0 rfl)]),(95,[.u 0 hd]),(10004,[.i (.gI 2)]),(10005,[.i (.gI 3)])] [(0,{n:=own.length,E:=λk=>[(2,.po b2 0),(4,.po b4 0),(5,.po b5 0),(8,.pi [strs own]),(10,.pi ((⟨d,(some m),id⟩:bf).enc b jE)),(11,.aI 3 1 ((eF a (⟨d,(some m),id⟩:bf) own k).map λx=>[I x])),(12,I (eg a (⟨d,(some m),id⟩:bf) own k)),(54,strs own),(55,I own.length),(56,I k)],I:=λk=>nA a (⟨d,(some m),id⟩:bf) own k,H:=λk=>[(b,.cells 80 (cU a (strs (w0::own)))),(b2,.cells 69 [.po b 0]),(b4,.cells 9 [bg []]),(b5,.cells 52 [I 0]),(b6,.cells 80 (cU a (strs ws0)))],K:=λk=>[(59,[.i (.cells [bg (nx own k)])]),(71,[.i (.cells [.v (xi (nx d k))])]),(74,[.i (.at 1)]),(79,[.u 0 (yh ok b (w0::own) (gS (⟨d,(some m),id⟩:bf) k) (nx own k) (z k))])]})] ?_
 repeat' first|exact(vS e zy zy).elim|apply aP|apply aO|apply aN|apply aw|apply az|(intro D;(try simp only[nL]at D);(try contradiction))
 all_goals try first|exact fo _|exact xY rfl qd|exact⟨vy b w0 rfl rfl⟩|exact⟨y⟩|exact⟨nA.zero⟩|exact⟨tz (x:=(⟨d,(some m),id⟩:bf)) zy⟩|exact⟨zz,wu (f:=λk=>[.v (xi k)]) zy⟩|exact⟨tY zy zz⟩|exact⟨rfl,rfl,pL⟩|exact⟨rfl,nJ zy⟩|exact⟨rfl,nH zy⟩|exact⟨nA.on zy zy⟩|exact⟨jn (decide_eq_true zz)⟩|exact⟨xV zy⟩|exact⟨DU he zy zy⟩|exact⟨GQ zy zy⟩|exact⟨rfl,rfl,rfl,TX ws0 b b2 b4 b5 b6 zy (ha.trans (F4 zy)) rfl⟩|exact⟨rfl,rfl,rfl,res.Zf a,res.Ze,aap o rfl,ha.trans (G3 a zy)⟩|exact⟨rfl⟩|exact⟨aU _⟩|exact fi _
 done
end
section
variable {a:cE} (ok:a.OK) (ws0:List Wd) {s:Wd} (b b2 b4 b5 b6:Nat)
include ok
theorem Xd {w0:Wd}{own:List Wd}{d:List Kd}{id:Nat}(h:dL s=true)(m:aV 32 s=w0::own)(l:(bG w0).find? (λx=>dF x own)=some (⟨d,none,id⟩:bf))(e: ∀i,i<own.length->(rX a (⟨d,none,id⟩:bf) own i).isSome=true)(he:eg a (⟨d,none,id⟩:bf) own own.length≠0):
  aJ ap none 96 E6 (uN a ws0 s b b2 b4 b5 b6) (el (Cm s b b2 b4 b5 b6)) (nP b b2 b4 b5 b6 (cU a (strs ws0)) (cU a (strs ws0)) [] 0) []:=by
 have y:=jI s
 rw[h]at y
 have hl:=jj h
 have hs:=my s 32 zz
 rw[m]at hs
 have ha:=ou a _ own h m l
 have B:own.length<=100:=by have:=fK (c:=32) s;rw[m,ad]at this;omega
 have r: ∀w∈own,w.length<=1000:=λw hm=>by
  have:=fQ (c:=32) (s:=s) (w:=w) (by rw[m];exact a6 _ hm);omega
 have p:=xN r
 have hi:=qp b (bG w0) 88 [.pi [strs own]] (λx=>dF x own) (λx hx=>oi b x own (by have:=jh hx;omega) zz)
 obtain⟨ud,j⟩:=qg l
 generalize bD (λx=>dF x own) (bG w0) 0=i at hi ud j
 have t:=an l
 have g:=a7 l
 have A:d.length<=5:=jh t
 have o:0<=i/\((bG w0).map (bf.enc b jE))[i.toNat]? =some ((⟨d,none,id⟩:bf).enc b jE):=⟨ud,by simp [j]⟩
 have q:own.length=d.length:=(tf g).2 rfl
 rw[if_pos e,if_pos he]at ha
 refine ep [(23,[.ev y]),(24,[.u 0 (bR true 6 rfl zq)]),(25,[.i (.at 1)]),(27,[.ev hs]),(10029,[.i (.gI 0)]),(30,[.i (.at 1)]),(31,[.ev (oG b)]),(32,[.i (.at 1)]),(35,[.i (.at 0)]),(38,[.i (.op (.sl 3 ((bG w0).map (bf.enc b jE))))]),(39,[.i (.at 1)]),(42,[.i (.at 0)]),(45,[.fz 8]),(46,[.ev hi]),(49,[.u 0 (bR true 6 rfl zq)]),(52,[.i (.cells ((⟨d,none,id⟩:bf).enc b jE))]),(54,[.fz 10]),(91,[.u 0 (cV (eg a (⟨d,none,id⟩:bf) own own.length) (vG (zJ _ _ _)))])] [(0,{n:=own.length,E:=λk=>[(2,.po b2 0),(4,.po b4 0),(5,.po b5 0),(8,.pi [strs own]),(10,.pi ((⟨d,none,id⟩:bf).enc b jE)),(11,.aI 3 1 ((eF a (⟨d,none,id⟩:bf) own k).map λx=>[I x])),(12,I (eg a (⟨d,none,id⟩:bf) own k)),(54,strs own),(55,I own.length),(56,I k)],I:=λk=>nA a (⟨d,none,id⟩:bf) own k,H:=λk=>[(b,.cells 80 (cU a (strs (w0::own)))),(b2,.cells 69 [.po b 0]),(b4,.cells 9 [bg []]),(b5,.cells 52 [I 0]),(b6,.cells 80 (cU a (strs ws0)))],K:=λk=>[(59,[.i (.cells [bg (nx own k)])]),(71,[.i (.cells [.v (xi (nx d k))])]),(74,[.i (.at 1)]),(79,[.u 0 (yh ok b (w0::own) (gS (⟨d,none,id⟩:bf) k) (nx own k) (p k))])]})] ?_
 repeat' first|exact(vS e zy zy).elim|exact absurd (q▸(show _<own.length from zy):_<d.length) zy|exact absurd (show eg a (⟨d,none,id⟩:bf) own own.length=0 from zy) he|apply aP|apply aO|apply aN|apply aw|apply az|(intro z;(try simp only[nL]at z);(try contradiction))
 all_goals try first|exact fo _|exact xY rfl qd|exact⟨vy b w0 rfl rfl⟩|exact⟨o⟩|exact⟨nA.zero⟩|exact⟨tz (x:=(⟨d,none,id⟩:bf)) zy⟩|exact⟨zz,wu (f:=λk=>[.v (xi k)]) zy⟩|exact⟨tY zy zz⟩|exact⟨rfl,rfl,pL⟩|exact⟨rfl,nJ zy⟩|exact⟨rfl,nH zy⟩|exact⟨nA.on zy zy⟩|exact⟨jn (decide_eq_true zz)⟩|exact⟨BR zy zy⟩|exact⟨rfl,rfl,rfl,VM ws0 s b b2 b4 b5 b6 (H:=[]) rfl zy ha rfl⟩|exact⟨rfl⟩|exact⟨aU _⟩|exact fi _
 done
end
section
variable {a:cE} (ok:a.OK) (ws0:List Wd) {s:Wd} (b b2 b4 b5 b6:Nat)
include ok
theorem Yd {w0:Wd}{own:List Wd}{d:List Kd}{m:Kd}{id:Nat}(h:dL s=true)(l:aV 32 s=w0::own)(j:(bG w0).find? (λx=>dF x own)=some (⟨d,(some m),id⟩:bf))(e: ∀i,i<own.length->(rX a (⟨d,(some m),id⟩:bf) own i).isSome=true)(he:eg a (⟨d,(some m),id⟩:bf) own own.length≠0):
  aJ ap none 96 E6 (uN a ws0 s b b2 b4 b5 b6) (el (Cm s b b2 b4 b5 b6)) (nP b b2 b4 b5 b6 (cU a (strs ws0)) (cU a (strs ws0)) [] 0) []:=by
 have y:=jI s
 rw[h]at y
 have hl:=jj h
 have hs:=my s 32 zz
 rw[l]at hs
 have ha:=ou a _ own h l j
 have B:own.length<=100:=by have:=fK (c:=32) s;rw[l,ad]at this;omega
 have q: ∀w∈own,w.length<=1000:=λw hm=>by
  have:=fQ (c:=32) (s:=s) (w:=w) (by rw[l];exact a6 _ hm);omega
 have p:=xN q
 have hi:=qp b (bG w0) 88 [.pi [strs own]] (λx=>dF x own) (λx hx=>oi b x own (by have:=jh hx;omega) zz)
 obtain⟨ud,g⟩:=qg j
 generalize bD (λx=>dF x own) (bG w0) 0=i at hi ud g
 have r:=an j
 have t:=a7 j
 have A:d.length<=5:=jh r
 have o:0<=i/\((bG w0).map (bf.enc b jE))[i.toNat]? =some ((⟨d,(some m),id⟩:bf).enc b jE):=⟨ud,by simp [g]⟩
 rw[if_pos e,if_pos he]at ha
 refine ep [(23,[.ev y]),(24,[.u 0 (bR true 6 rfl zq)]),(25,[.i (.at 1)]),(27,[.ev hs]),(10029,[.i (.gI 0)]),(30,[.i (.at 1)]),(31,[.ev (oG b)]),(32,[.i (.at 1)]),(35,[.i (.at 0)]),(38,[.i (.op (.sl 3 ((bG w0).map (bf.enc b jE))))]),(39,[.i (.at 1)]),(42,[.i (.at 0)]),(45,[.fz 8]),(46,[.ev hi]),(49,[.u 0 (bR true 6 rfl zq)]),(52,[.i (.cells ((⟨d,(some m),id⟩:bf).enc b jE))]),(54,[.fz 10]),(91,[.u 0 (cV (eg a (⟨d,(some m),id⟩:bf) own own.length) (vG (zJ _ _ _)))])] [(0,{n:=own.length,E:=λk=>[(2,.po b2 0),(4,.po b4 0),(5,.po b5 0),(8,.pi [strs own]),(10,.pi ((⟨d,(some m),id⟩:bf).enc b jE)),(11,.aI 3 1 ((eF a (⟨d,(some m),id⟩:bf) own k).map λx=>[I x])),(12,I (eg a (⟨d,(some m),id⟩:bf) own k)),(54,strs own),(55,I own.length),(56,I k)],I:=λk=>nA a (⟨d,(some m),id⟩:bf) own k,H:=λk=>[(b,.cells 80 (cU a (strs (w0::own)))),(b2,.cells 69 [.po b 0]),(b4,.cells 9 [bg []]),(b5,.cells 52 [I 0]),(b6,.cells 80 (cU a (strs ws0)))],K:=λk=>[(59,[.i (.cells [bg (nx own k)])]),(71,[.i (.cells [.v (xi (nx d k))])]),(74,[.i (.at 1)]),(79,[.u 0 (yh ok b (w0::own) (gS (⟨d,(some m),id⟩:bf) k) (nx own k) (p k))])]})] ?_
 repeat' first|exact(vS e zy zy).elim|exact absurd (show eg a (⟨d,(some m),id⟩:bf) own own.length=0 from zy) he|apply aP|apply aO|apply aN|apply aw|apply az|(intro z;(try simp only[nL]at z);(try contradiction))
 all_goals try first|exact fo _|exact xY rfl qd|exact⟨vy b w0 rfl rfl⟩|exact⟨o⟩|exact⟨nA.zero⟩|exact⟨tz (x:=(⟨d,(some m),id⟩:bf)) zy⟩|exact⟨zz,wu (f:=λk=>[.v (xi k)]) zy⟩|exact⟨tY zy zz⟩|exact⟨rfl,rfl,pL⟩|exact⟨rfl,nJ zy⟩|exact⟨rfl,nH zy⟩|exact⟨nA.on zy zy⟩|exact⟨jn (decide_eq_true zz)⟩|exact⟨xV zy⟩|exact⟨BR zy zy⟩|exact⟨rfl,rfl,rfl,VM ws0 s b b2 b4 b5 b6 (H:=[]) rfl zy ha rfl⟩|exact⟨rfl⟩|exact⟨aU _⟩|exact fi _
 done
end
section
variable {a:cE} (ok:a.OK) (ws0:List Wd) {s:Wd} (b b2 b4 b5 b6:Nat)
include ok
theorem Xj {w0:Wd}{own:List Wd}{d:List Kd}{id:Nat}(h:dL s=true)(m:aV 32 s=w0::own)(l:(bG w0).find? (λx=>dF x own)=some (⟨d,none,id⟩:bf))(e: ¬ ∀i,i<own.length->(rX a (⟨d,none,id⟩:bf) own i).isSome=true):
  aJ ap none 96 E6 (uN a ws0 s b b2 b4 b5 b6) (el (Cm s b b2 b4 b5 b6)) (nP b b2 b4 b5 b6 (cU a (strs ws0)) (cU a (strs ws0)) [] 0) []:=by
 have y:=jI s
 rw[h]at y
 have hl:=jj h
 have hs:=my s 32 zz
 rw[m]at hs
 have ha:=ou a _ own h m l
 have B:own.length<=100:=by have:=fK (c:=32) s;rw[m,ad]at this;omega
 have r: ∀w∈own,w.length<=1000:=λw hm=>by
  have:=fQ (c:=32) (s:=s) (w:=w) (by rw[m];exact a6 _ hm);omega
 have p:=xN r
 have hi:=qp b (bG w0) 88 [.pi [strs own]] (λx=>dF x own) (λx hx=>oi b x own (by have:=jh hx;omega) zz)
 obtain⟨ud,j⟩:=qg l
 generalize bD (λx=>dF x own) (bG w0) 0=i at hi ud j
 have t:=an l
 have g:=a7 l
 have A:d.length<=5:=jh t
 have o:0<=i/\((bG w0).map (bf.enc b jE))[i.toNat]? =some ((⟨d,none,id⟩:bf).enc b jE):=⟨ud,by simp [j]⟩
 have q:own.length=d.length:=(tf g).2 rfl
 rw[if_neg e]at ha
 refine ep [(23,[.ev y]),(24,[.u 0 (bR true 6 rfl zq)]),(25,[.i (.at 1)]),(27,[.ev hs]),(10029,[.i (.gI 0)]),(30,[.i (.at 1)]),(31,[.ev (oG b)]),(32,[.i (.at 1)]),(35,[.i (.at 0)]),(38,[.i (.op (.sl 3 ((bG w0).map (bf.enc b jE))))]),(39,[.i (.at 1)]),(42,[.i (.at 0)]),(45,[.fz 8]),(46,[.ev hi]),(49,[.u 0 (bR true 6 rfl zq)]),(52,[.i (.cells ((⟨d,none,id⟩:bf).enc b jE))]),(54,[.fz 10])] [(0,{n:=own.length,E:=λk=>[(2,.po b2 0),(4,.po b4 0),(5,.po b5 0),(8,.pi [strs own]),(10,.pi ((⟨d,none,id⟩:bf).enc b jE)),(11,.aI 3 1 ((eF a (⟨d,none,id⟩:bf) own k).map λx=>[I x])),(12,I (eg a (⟨d,none,id⟩:bf) own k)),(54,strs own),(55,I own.length),(56,I k)],I:=λk=>nA a (⟨d,none,id⟩:bf) own k,H:=λk=>[(b,.cells 80 (cU a (strs (w0::own)))),(b2,.cells 69 [.po b 0]),(b4,.cells 9 [bg []]),(b5,.cells 52 [I 0]),(b6,.cells 80 (cU a (strs ws0)))],K:=λk=>[(59,[.i (.cells [bg (nx own k)])]),(71,[.i (.cells [.v (xi (nx d k))])]),(74,[.i (.at 1)]),(79,[.u 0 (yh ok b (w0::own) (gS (⟨d,none,id⟩:bf) k) (nx own k) (p k))])]})] ?_
 repeat' first|exact(MA e zy zy).elim|exact absurd (q▸(show _<own.length from zy):_<d.length) zy|apply aP|apply aO|apply aN|apply aw|apply az|(intro z;(try simp only[nL]at z);(try contradiction))
 all_goals try first|exact fo _|exact xY rfl qd|exact⟨vy b w0 rfl rfl⟩|exact⟨o⟩|exact⟨nA.zero⟩|exact⟨tz (x:=(⟨d,none,id⟩:bf)) zy⟩|exact⟨zz,wu (f:=λk=>[.v (xi k)]) zy⟩|exact⟨tY zy zz⟩|exact⟨rfl,rfl,pL⟩|exact⟨rfl,nJ zy⟩|exact⟨rfl,nH zy⟩|exact⟨nA.on zy zy⟩|exact⟨jn (decide_eq_true zz)⟩|exact⟨rfl,rfl,rfl,TX ws0 b b2 b4 b5 b6 zy ha rfl⟩|exact⟨rfl⟩|exact⟨aU _⟩|exact fi _
 done
end
section
variable {a:cE} (ok:a.OK) (ws0:List Wd) {s:Wd} (b b2 b4 b5 b6:Nat)
include ok
theorem YO {w0:Wd}{own:List Wd}{d:List Kd}{m:Kd}{id:Nat}(h:dL s=true)(l:aV 32 s=w0::own)(j:(bG w0).find? (λx=>dF x own)=some (⟨d,(some m),id⟩:bf))(e: ¬ ∀i,i<own.length->(rX a (⟨d,(some m),id⟩:bf) own i).isSome=true):
  aJ ap none 96 E6 (uN a ws0 s b b2 b4 b5 b6) (el (Cm s b b2 b4 b5 b6)) (nP b b2 b4 b5 b6 (cU a (strs ws0)) (cU a (strs ws0)) [] 0) []:=by
 have y:=jI s
 rw[h]at y
 have hl:=jj h
 have hs:=my s 32 zz
 rw[l]at hs
 have ha:=ou a _ own h l j
 have B:own.length<=100:=by have:=fK (c:=32) s;rw[l,ad]at this;omega
 have q: ∀w∈own,w.length<=1000:=λw hm=>by
  have:=fQ (c:=32) (s:=s) (w:=w) (by rw[l];exact a6 _ hm);omega
 have p:=xN q
 have hi:=qp b (bG w0) 88 [.pi [strs own]] (λx=>dF x own) (λx hx=>oi b x own (by have:=jh hx;omega) zz)
 obtain⟨ud,g⟩:=qg j
 generalize bD (λx=>dF x own) (bG w0) 0=i at hi ud g
 have r:=an j
 have t:=a7 j
 have A:d.length<=5:=jh r
 have o:0<=i/\((bG w0).map (bf.enc b jE))[i.toNat]? =some ((⟨d,(some m),id⟩:bf).enc b jE):=⟨ud,by simp [g]⟩
 rw[if_neg e]at ha
 refine ep [(23,[.ev y]),(24,[.u 0 (bR true 6 rfl zq)]),(25,[.i (.at 1)]),(27,[.ev hs]),(10029,[.i (.gI 0)]),(30,[.i (.at 1)]),(31,[.ev (oG b)]),(32,[.i (.at 1)]),(35,[.i (.at 0)]),(38,[.i (.op (.sl 3 ((bG w0).map (bf.enc b jE))))]),(39,[.i (.at 1)]),(42,[.i (.at 0)]),(45,[.fz 8]),(46,[.ev hi]),(49,[.u 0 (bR true 6 rfl zq)]),(52,[.i (.cells ((⟨d,(some m),id⟩:bf).enc b jE))]),(54,[.fz 10])] [(0,{n:=own.length,E:=λk=>[(2,.po b2 0),(4,.po b4 0),(5,.po b5 0),(8,.pi [strs own]),(10,.pi ((⟨d,(some m),id⟩:bf).enc b jE)),(11,.aI 3 1 ((eF a (⟨d,(some m),id⟩:bf) own k).map λx=>[I x])),(12,I (eg a (⟨d,(some m),id⟩:bf) own k)),(54,strs own),(55,I own.length),(56,I k)],I:=λk=>nA a (⟨d,(some m),id⟩:bf) own k,H:=λk=>[(b,.cells 80 (cU a (strs (w0::own)))),(b2,.cells 69 [.po b 0]),(b4,.cells 9 [bg []]),(b5,.cells 52 [I 0]),(b6,.cells 80 (cU a (strs ws0)))],K:=λk=>[(59,[.i (.cells [bg (nx own k)])]),(71,[.i (.cells [.v (xi (nx d k))])]),(74,[.i (.at 1)]),(79,[.u 0 (yh ok b (w0::own) (gS (⟨d,(some m),id⟩:bf) k) (nx own k) (p k))])]})] ?_
 repeat' first|exact(MA e zy zy).elim|apply aP|apply aO|apply aN|apply aw|apply az|(intro z;(try simp only[nL]at z);(try contradiction))
 all_goals try first|exact fo _|exact xY rfl qd|exact⟨vy b w0 rfl rfl⟩|exact⟨o⟩|exact⟨nA.zero⟩|exact⟨tz (x:=(⟨d,(some m),id⟩:bf)) zy⟩|exact⟨zz,wu (f:=λk=>[.v (xi k)]) zy⟩|exact⟨tY zy zz⟩|exact⟨rfl,rfl,pL⟩|exact⟨rfl,nJ zy⟩|exact⟨rfl,nH zy⟩|exact⟨nA.on zy zy⟩|exact⟨jn (decide_eq_true zz)⟩|exact⟨xV zy⟩|exact⟨rfl,rfl,rfl,TX ws0 b b2 b4 b5 b6 zy ha rfl⟩|exact⟨rfl⟩|exact⟨aU _⟩|exact fi _
 done
end
theorem QY {a:cE}(ok:a.OK)(d:List Wd)(s:Wd)(b:Nat):il ap 44 [.po b 0,bg s] [ck b a (strs d)] (Fp a d s b):=by
 refine Oo d s b λb2 f b5 g=>?_;cases h:dL s with
 |false=>exact ZE d s b b2 f b5 g h
 |true=>
  cases j:aV 32 s with
  |nil=>exact absurd j (DN _ _)
  |cons w0 own=>
   cases k:(bG w0).find? (λx=>dF x own)with
   |none=>exact aaC d b b2 f b5 g h j k
   |some x=>
    obtain⟨e,more,id⟩:=x;cases more with
    |none=>
     by_cases c: ∀i,i<own.length->(rX a (⟨e,none,id⟩:bf) own i).isSome=true
     ·by_cases he:eg a (⟨e,none,id⟩:bf) own own.length=0
      ·exact YG ok d b b2 f b5 g h j k c he
      ·exact Xd ok d b b2 f b5 g h j k c he
     ·exact Xj ok d b b2 f b5 g h j k c
    |some m=>
     by_cases c: ∀i,i<own.length->(rX a (⟨e,some m,id⟩:bf) own i).isSome=true
     ·by_cases he:eg a (⟨e,some m,id⟩:bf) own own.length=0
      ·exact YR ok d b b2 f b5 g h j k c he
      ·exact Yd ok d b b2 f b5 g h j k c he
     ·exact YO ok d b b2 f b5 g h j k c
section
def iE:iM->Prop
 | .inl e=>e≠0/\eb e
 | .inr x=>x.1.OK/\x.2.length<=1000000
theorem tv {l:List Int}(hl:l.length<=1000)(h: ∀x∈l,-9223372036854775808<=x/\x<=9223372036854775807):(mA l).length<=1000000:=by
 have:=mf (B:=21) (l:=l.map eG) (by
  intro w a
  obtain⟨x,hx,rfl⟩:=b7.1 a
  exact bx x (h x hx).1 (h x hx).2)
 rw[be]at this;unfold mA ux;split
 ·simp
 ·omega
theorem F9 {all:List Wd}{l:List Int}(hl:l.length<=1000)(a: ∀w∈all,w.length<=16):(uE all l).length<=1000000:=by
 have:=mf (B:=16) (l:=l.map λi=>all.getD i.toNat []) (by
  intro w b
  obtain⟨x,hx,rfl⟩:=b7.1 b
  by_cases h:x.toNat<all.length
  ·exact a _ (by simp [bk,h])
  ·simp [bk,h])
 rw[be]at this;unfold uE ux;split
 ·simp
 ·omega
theorem qO {b:cE}(w:b.wf){r:iM}(h:b.OK->iE r):iE (kt b r):=by
 unfold kt;split
 ·rename_i a;exact⟨a,CZ b⟩
 ·rename_i a;exact h (rj w zz)
variable {a:cE} (ok:a.OK)
include ok
theorem Bk:iE (sH a):=by rw[vP ok];exact⟨ok,F9 (LV ok).1 (Hl ok)⟩
theorem P1:iE (uZ a):=by have h:=EE ok;unfold uZ;rw[if_neg zz];exact⟨ok,tv h.2.1 h.2.2⟩
theorem G8:iE (oj a):=by have h:=BV ok;unfold oj;rw[if_neg zz];exact⟨ok,tv zj (Bs ok)⟩
theorem Qf {n:Nat}:(a.dr.cs.getD n ⟨[],[]⟩).nm.length<=1000000:=by
 have h:(dH a.dr).2.2=0:=ok.e 2 zq;unfold dH at h;by_cases d:(ah 1 6 [a.dr.st]||ah 1 a.dr.st [a.dr.le]||ah 0 9 [a.dr.we])=true
 ·rw[if_pos d]at h;cases h
 rw[if_neg d]at h;by_cases f:4<a.dr.cs.length
 ·rw[if_pos f]at h;cases h
 rw[if_neg f]at h;by_cases b:(aA (eR (pP a.dr) 0 a.dr.cs) a.dr.cs.length 0).2≠0
 ·rw[if_pos b]at h;exact absurd h b
 have b:=eQ.1 (b3.1 b);by_cases c:n<a.dr.cs.length
 ·have h4:=b n c;unfold eR at h4;rw[a8 c]at h4;simp only at h4;have e:a.dr.cs.getD n ⟨[],[]⟩=a.dr.cs[n]:=by simp [bk,c]
  rw[e];cases g:fl a.dr.cs[n].nm with
  |true=>have:=xI g;omega
  |false=>rw[g]at h4;simp at h4
 ·simp [bk,c]
theorem SH (h:Int):iE (DJ a [h]):=by
 unfold DJ;dsimp only;split
 ·rename_i b;exact⟨b,FM _ _⟩
 ·exact⟨ok,Qf ok⟩
theorem U3 (p n:Int)(_: -9223372036854775808<=n)(_:n<=9223372036854775807):iE (Nc a [p,n]):=by
 unfold Nc;dsimp only;split
 ·rename_i b;exact⟨b,Lf _ _ _⟩
 ·exact⟨ok,F9 (Tr ok _ _).1 (Qy ok)⟩
theorem Rr (ws:List Wd)(_:2<=ws.length)(_:ws.length<=1000)(p:Int)(m:List Int):iE (Df a ws (p::m)):=by
 unfold Df;dsimp only;split
 ·exact⟨zq,zq,zq⟩
 ·split
  ·rename_i c;exact⟨c,GB _ _ _⟩
  ·have d:=LW ok (nth (p::m) 0) (((cR a.ix.length).filter λi=>(ws.drop 2).contains (a.ix.getD i [])).map λ(i:Nat)=>(i:Int));refine⟨ok,tv (by rw[be];omega) ?_⟩;intro x hx;obtain⟨i,hi,rfl⟩:=b7.1 hx;have b:=(d.2 i hi).2;have:=(ok.ch.co (a.ch.co[i.toNat]) (bA b)).1;have e:=ok.ch.la;simp only[bk,a8 b,bn];omega
theorem KH (p n:Int)(_:0<=p/\p<a.ch.pe.length):iE (ug a [p,n]):=by
 unfold ug;dsimp only;split
 ·exact⟨zq,zq,zq⟩
 ·split
  ·exact⟨zq,zq,zq⟩
  ·refine⟨ok,?_⟩;generalize (bD _ _ _).toNat=k;by_cases hk:k<a.le.length
   ·have e:a.le.getD k []=a.le[k]:=by simp [bk,hk]
    dsimp only;rw[e];have c:=kE.1 (L6 ok a.le[k] (bA hk));have b: ∀w∈a.le[k],w.length<=8:=λw d=>by have h:=b8.1 c.2 w d;simp only[rL,Bool.and_eq_true,decide_eq_true_eq]at h;omega
    have f:=Nat.mul_le_mul_right 9 c.1;have:=mf b;unfold ux;split
    ·simp
    ·omega
   ·have e:a.le.getD k []=[]:=by simp [bk,hk]
    dsimp only;rw[e];exact show 1<=1000000 from zq
theorem RN (w0 w1:Wd)(ws:List Wd)(x:Int)(os:List Int)(c:w1.length<=1000)(d:os.length<=1000):iE (GM a (w0::w1::ws) (x::os)):=by
 refine qO (Hq ok (os:=os) c) λb=>?_;dsimp only;split
 ·exact⟨b,show 1<=1000000 from zq⟩
 ·exact⟨b,Qf b⟩
theorem M7 (x y:Int)(same:Bool):iE (xG a [x,y] same):=by have c:(BX a x y same).wf:={ok.w with tw:={ok.w.tw with}};refine qO c λb=>⟨b,tv (l:=[(gq (BX a x y same).tw).2.1]) zj ?_⟩;intro v d;rw[List.mem_singleton.1 d];have:=Dq _ c.tw;exact⟨by have:=this.1;omega,by have:=this.2;omega⟩
theorem wL (x z y b:Int):iE (kO a [x,z,y] b):=by have w6:=ok.li.w6;have d:(GW a x y b).wf:={ok.w with li:={ok.w.li with wn:=by simp;omega}};exact qO d λc=>Bk c
theorem Rk (n:Int)(_:0<=n/\n<=999):iE (CJ a [n]):=by
 unfold CJ;dsimp only;split
 ·exact⟨zq,zq,zq⟩
 ·rename_i w d;split
  ·exact⟨zq,zq,zq⟩
  ·have c:(yB a n w).wf:={ok.w with li:={ok.w.li with wn:=by rw[List.length_set];exact ok.w.li.wn}};exact qO c λb=>Bk b
theorem F5 (s v lo hi p:Int)(hx:(⟨s,v,lo,hi,p⟩:eY).wf):iE (qi a [s,v,lo,hi,p]):=by
 unfold qi;dsimp only;split
 ·rename_i c;exact⟨c,LQ _ _⟩
 ·have hl:=QL ok ⟨s,v,lo,hi,p⟩;exact qO (MQ ok hx) λb=>⟨b,tv hl.1 hl.2⟩
theorem UB (n:Int):iE (Oj a [n]):=by
 unfold Oj;dsimp only;split
 ·exact⟨zq,zq,zq⟩
 ·split
  ·rename_i b;exact⟨b,LF _ _⟩
  ·split
   ·exact⟨zq,zq,zq⟩
   ·rename_i b f;obtain⟨⟨n0,n1⟩,c0,c1⟩:=RT ok.w.li (n:=n) (by have: ¬(pz a.li n).2≠0:=b;omega);obtain⟨x,hx⟩: ∃x,a.li.su[n.toNat]? =some x:=⟨_,a8 n1⟩;have e:a.li.su.getD (nth [n] 0).toNat ⟨[],0,0⟩=x:=by show a.li.su.getD n.toNat _=x;simp [bk,hx]
    have g:=(ok.li.su x (List.mem_of_getElem? hx));rw[e]at f ⊢;refine qO (K9 ok (n:=n) (pe:=x.pe) (c:=(pz a.li n).1) zz zz) λd=>⟨d,?_⟩;have h:(a.li.cl.getD (pz a.li n).1.toNat []).length<=16:=by rw[bk,a8 c1];exact Td ok _ (bA c1)
    show (a.li.cl.getD (pz a.li n).1.toNat []).length<=1000000;omega
theorem SQ (w0 w1 d:Wd)(l:List Wd)(_:l.length<=1000)(n p:Int)(m:List Int)(h:0<=p/\p<a.ch.pe.length):iE (CX a (w0::w1::d::l) (n::p::m)):=by
 have hs:CX a (w0::w1::d::l) (n::p::m)=if (eJ a.sh n l).2.2≠0 then .inl (eJ a.sh n l).2.2 else kt (uz a l p.toNat) (.inr (uz a l p.toNat,mA [a.ch.la+1,(eJ a.sh n l).2.1])):=by rw[show uz a l p.toNat=_ from by unfold uz;rw[<-K5,Int.one_mul]];rfl
 rw[hs];split
 ·rename_i e;exact⟨e,CE _ _ _⟩
 ·have g:=GA ok n l;have f:=ok.ch.la;refine qO (HQ ok (l:=l) (p:=p.toNat)) λb=>⟨b,tv (l:=[a.ch.la+1,(eJ a.sh n l).2.1]) zj ?_⟩;intro v c;simp only[cD,b9,or_false]at c;rcases c with rfl|rfl<;>omega
theorem VF {w0:Wd}{own:List Wd}{x:bf}{n:List Int}(hx:x∈bG w0)(o:dF x own=true)(hl:n.length=own.length)
  (c: ∀i,i<own.length->gY a (gS x i) (nx own i)=some (n.getD i 0,0)) (hs: ∀s∈own,s.length<=1000) (h:own.length<=100):iE (yW a (w0::own) n x.id):=by
 obtain⟨f1,f2⟩:=tf o
 have hx:=sg hx
 simp only[uY,List.flatMap_cons,List.flatMap_nil,bI,List.cons_append,List.nil_append,cD,b9,or_false]at hx
 rcases hx with rfl|rfl|rfl|rfl|rfl|rfl|rfl|rfl|rfl|rfl|rfl|rfl|rfl|rfl|rfl|rfl|rfl|rfl
 ·
  match own,n,f1,hl with
  |s1::e::l,[],_,hl=>simp at hl
  |s1::e::l,[_],_,hl=>simp at hl
  |s1::e::l,v1::b::m,_,_=>
   have f:=tu (c 1 zj)
   simp only[ad]at h
   exact SQ ok w0 s1 e l zz v1 b m f
 ·
  match own,n,f1,hl with
  |s1::l,[],_,hl=>simp at hl
  |s1::l,v1::m,_,_=>
   simp only[ad]at h
   exact Rr ok (w0::s1::l) zj (by simp only[ad];omega) v1 m
 ·
  obtain⟨s1,e,rfl⟩:=l2 (f2 rfl)
  obtain⟨v1,b,rfl⟩:=l2 hl
  exact KH ok v1 b (tu (c 0 zj))
 ·
  obtain⟨s1,e,rfl⟩:=l2 (f2 rfl)
  obtain⟨v1,b,rfl⟩:=l2 hl
  have f:=lk (c 1 zj)
  exact U3 ok v1 b (by simp only[bs,bi]at f;omega) (by simp only[bs,bi]at f;omega)
 ·
  match own,n,f1,hl with
  |s1::l,[],_,hl=>simp at hl
  |s1::l,v1::m,_,hl=>
   simp only[ad]at h hl
   exact RN ok w0 s1 l v1 m (hs s1 zj) zz
 ·
  obtain⟨s1,rfl⟩:=l1 (f2 rfl)
  obtain⟨v1,rfl⟩:=l1 hl
  exact SH ok v1
 ·
  obtain⟨s1,e,r,t,s5,rfl⟩:=l5 (f2 rfl)
  obtain⟨v1,b,d,p,q,rfl⟩:=l5 hl
  have g:=lk (c 0 zj)
  have f:=lk (c 1 zj)
  have j:=lk (c 2 zj)
  have h4:=lk (c 3 zj)
  have k:=lk (c 4 zj)
  simp only[bs,bi]at g f j h4 k
  exact F5 ok v1 b d p q {OS:=by simp only;omega,NN:=by simp only;omega,v0:=by simp only;omega,v1:=by simp only;omega,Ul:=by simp only;omega,lo1:=by simp only;omega,ud:=by simp only;omega,Mr:=by simp only;omega,Ce:=by simp only;omega,Ca:=by simp only;omega}
 ·obtain⟨s1,e,rfl⟩:=l2 (f2 rfl)
  obtain⟨v1,b,rfl⟩:=l2 hl
  exact M7 ok v1 b true
 ·obtain⟨s1,e,rfl⟩:=l2 (f2 rfl)
  obtain⟨v1,b,rfl⟩:=l2 hl
  exact M7 ok v1 b false
 ·obtain⟨v1,b,d,rfl⟩:=l3 (hl.trans (f2 rfl))
  exact wL ok v1 b d 0
 ·obtain⟨v1,b,d,rfl⟩:=l3 (hl.trans (f2 rfl))
  exact wL ok v1 b d 1
 ·obtain⟨v1,b,d,rfl⟩:=l3 (hl.trans (f2 rfl))
  exact wL ok v1 b d 2
 ·obtain⟨v1,b,d,rfl⟩:=l3 (hl.trans (f2 rfl))
  exact wL ok v1 b d 3
 ·
  obtain⟨s1,rfl⟩:=l1 (f2 rfl)
  obtain⟨v1,rfl⟩:=l1 hl
  have g:=lk (c 0 zj)
  simp only[bi]at g
  exact Rk ok v1 ⟨g.2.2 trivial,g.2.1⟩
 ·obtain⟨v1,rfl⟩:=l1 (hl.trans (f2 rfl))
  exact UB ok v1
 ·exact Bk ok
 ·exact P1 ok
 ·exact G8 ok
end
theorem zR {a:cE}(ok:a.OK)(s:Wd):iE (gC a s):=by
 cases h:dL s with
 |false=>rw[Cx a h];exact⟨zq,zq,zq⟩
 |true=>
  cases d:aV 32 s with
  |nil=>exact absurd d (DN _ _)
  |cons w0 own=>
   cases f:(bG w0).find? (λx=>dF x own)with
   |none=>rw[Hp a own h d f];exact⟨zq,zq,zq⟩
   |some x=>
    have ha:=ou a x own h d f;have hl:=jj h;have l:own.length<=100:=by have:=fK (c:=32) s;rw[d,ad]at this;omega
    have j: ∀w∈own,w.length<=1000:=λw hm=>by have:=fQ (c:=32) (s:=s) (w:=w) (by rw[d];exact a6 _ hm);omega
    rw[ha];split
    ·rename_i b;split
     ·rename_i he;exact⟨he,zJ _ _ _⟩
     ·rename_i he;have he:eg a x own own.length=0:=b3.1 he;refine VF ok (an f) (by simpa using a7 f) (n:=eF a x own own.length) (by simp [eF]) (λi hi=>?_) j l;have g:=b i hi;have e:=uf a x own _ he i hi;rw[show (eF a x own own.length).getD i 0=((rX a x own i).getD (0,0)).1 by simp [eF,hi]];unfold rX at g e ⊢;cases k:gY a (gS x i) (nx own i)with
      |none=>rw[k]at g;cases g
      |some v=>rw[k]at e;simp only[bn]at e ⊢;rw[<-e]
    ·exact⟨zq,zq,zq⟩
section
variable {a:cE} (ok:a.OK) (ws0:List Wd) (b:Nat)
def M9 (ws:List Wd)(s:Wd):iM->List Wd
 | .inl _=>ws
 | .inr _=>aV 32 s
def ze (x:cE×List Wd)(s:Wd):cE×List Wd:=(rk x.1 (gC x.1 s),M9 x.2 s (gC x.1 s))
def ml (a:cE)(ws0:List Wd)(l:List Wd)(k:Nat):cE×List Wd:=(l.take k).foldl ze (a,ws0)
def fw (a:cE)(l:List Wd)(k:Nat):Wd:=C7 k (nx l k) (gC (ml a [] l k).1 (nx l k))
theorem Xu {l:List Wd}{k:Nat}(hk:k<l.length):ml a ws0 l (k+1)=ze (ml a ws0 l k) (nx l k):=by unfold ml;rw[List.take_add_one,mX hk];simp
theorem Q5 (l:List Wd): ∀(x:cE) (ws a:List Wd),(l.foldl ze (x,ws)).1=(l.foldl ze (x,a)).1:=by
 induction l with
 |nil=>intros;rfl
 |cons s l b=>intro x ws a;exact b _ _ _
theorem aaA (l:List Wd)(k:Nat):(ml a ws0 l k).1=(ml a [] l k).1:=Q5 _ _ _ _
theorem PH {x:cE}(h:x.OK)(s:Wd):(rk x (gC x s)).OK:=by
 have:=zR h s;cases hc:gC x s with
 |inl e=>exact h
 |inr y=>rw[hc]at this;exact this.1
include ok in
theorem vl (l:List Wd): ∀k,(ml a ws0 l k).1.OK:=by
 have: ∀(l:List Wd) (x:cE×List Wd),x.1.OK->(l.foldl ze x).1.OK:=by
  intro l;induction l with
  |nil=>exact λ_ h=>h
  |cons s l b=>exact λx h=>b _ (PH h s)
 exact λk=>this _ _ ok
theorem WY (p q s t u:Wd):AV.v (.string (bt p.toArray++bt q.toArray++bt s.toArray++bt t.toArray++bt u.toArray))=bg (p++q++s++t++u):=by rw[iZ,iZ,iZ,iZ]
abbrev lnE (b a:Nat)(l:List Wd)(k:Nat)(x:Wd):List (Nat×AV):=[(0,.fn (.yield a) [] []),(4,.fn (.func 44) [.po b 0] []),(12,strs l),(13,I l.length),(14,I k),(5,I k),(9,bg x)]
include ok in
theorem FI {l:List Wd}(hl:l.length<=1000000)(hs: ∀s∈l,s.length<=1000000){Y:Type}(U:Y->Heap)(o:Nat->Y->Prop)(A:Y)(w:o 0 A)(c:Nat)(lo:J->cP)(Z:Nat->J->Y->Prop)
  (hy: ∀k y,k<l.length->o k y->zX ap c [I k,bg (fw a l k)] ((c,lo .go)::(ck b (ml a ws0 l (k+1)).1 (strs (ml a ws0 l (k+1)).2)::U y)) (λr Ho=> ∃j z,(j= .go->o (k+1) z)/\(j≠.go->Z k j z)/\r=B j.on/\Ho=(c,lo j)::(ck b (ml a ws0 l (k+1)).1 (strs (ml a ws0 l (k+1)).2)::U z))):
  il ap 43 [.fn (.yield c) [] [],.pi [.po b 0],.pi [strs l]] ((c,lo .go)::(ck b a (strs ws0)::U A)) (λ_ Ho=> ∃j k z,((j= .go/\k=l.length/\o k z)\/(j≠.go/\0<k/\k<=l.length/\Z (k-1) j z))/\Ho=(c,lo j)::(ck b (ml a ws0 l k).1 (strs (ml a ws0 l k).2)::U z)):=by
 have K: ∀k,(nx l k).length<=1000000:=λk=>by
  by_cases hk:k<l.length
  ·exact hs _ (fE hk)
  ·simp [nx,hk];exact cb _
 refine bq S43.ok<|aC rfl<|aC rfl<|au<|br (X:=Nat×Y) (λx=>x.1<=l.length/\o x.1 x.2) (λx=>el [(0,.fn (.yield c) [] []),(4,.fn (.func 44) [.po b 0] []),(12,strs l),(13,I l.length),(14,I x.1)]) (λx=>(c,lo .go)::(ck b (ml a ws0 l x.1).1 (strs (ml a ws0 l x.1).2)::U x.2)) (λ_=>[]) (λx=>l.length-x.1) (0,A) ⟨cb _,w⟩ (ao ⟨rfl,rfl,rfl,by show I _=I _;rw[be],rfl,trivial⟩) ?_
 rintro⟨k,y⟩ ⟨hk,u⟩
 simp only at hk u ⊢
 refine aC rfl<|aa (ag rfl (λhc=>?_) (λhc=>?_))
 ·simp only[nL]at hc
  have d:=hy k y hc u
  have p:=QY (vl ok ws0 l k) (ml a ws0 l k).2 (nx l k) b
  have g:=zR (vl ok ws0 l k) (nx l k)
  have i:=Xu (a:=a) ws0 hc
  have L:=K k
  have Mr:Ev ap 45 [I ((k:Int)+1)] (bg (eG (k+1))):=tX ((k:Int)+1) zz zz
  rw[show fw a l k=C7 k (nx l k) (gC (ml a ws0 l k).1 (nx l k))by unfold fw;rw[aaA ws0]]at d
  rw[i]at d
  unfold ze at d i
  refine af (aa (au (aa ?_)))
  refine iO [.cells [bg (nx l k)]] rfl ⟨⟨zz,by rw[Int.toNat_natCast];exact wu (f:=λs=>[bg s]) hc⟩,trivial⟩<|aa (av ?_)
  refine kL 2 rfl rfl<|aG (cd (cB _ _ _))<|ai (bP (Hin:=[ck b (ml a ws0 l k).1 (strs (ml a ws0 l k).2)]) (H0:=(c,lo .go)::U y) rfl (show Pn ap (.func _) _ _ _ _ from p) rfl rfl (aK _) rfl ?_)
  intro res Ho m
  have key: ∃r e,res= .bZ [bg r,I e]/\Ho=[ck b (rk (ml a ws0 l k).1 (gC (ml a ws0 l k).1 (nx l k))) (strs (M9 (ml a ws0 l k).2 (nx l k) (gC (ml a ws0 l k).1 (nx l k))))]/\eb e/\r.length<=1000000/\
    C7 k (nx l k) (gC (ml a ws0 l k).1 (nx l k))=if e=0 then eG (k+1)++[58,32]++nx l k++[32,62,32]++r else eG (k+1)++[58,32]++nx l k++[32,35,32]++eG e:=by
   unfold Fp at m
   cases hc:gC (ml a ws0 l k).1 (nx l k)with
   |inl e=>
    rw[hc]at m g
    exact⟨[],e,m.1,m.2,g.2,cb _,by rw[if_neg g.1];rfl⟩
   |inr x=>
    rw[hc]at m g
    exact⟨x.2,0,m.1,m.2,⟨zq,zq⟩,g.2,rfl⟩
  obtain⟨r,e,rfl,rfl,he,M,v⟩:=key
  rw[v]at d
  have H:=he.1
  have C:=he.2
  have q:Ev ap 45 [I e] (bg (eG e)):=tX e zz zz
  have F:(eG (k+1)).length<=21:=bx ((k:Int)+1) zz zz
  have G:(eG e).length<=21:=bx e zz zz
  refine aG (cd (cB _ _ _))<|eZ rfl<|gm [(0,.fn (.yield c) [] []),(4,.fn (.func 44) [.po b 0] []),(12,strs l),(13,I l.length),(14,I k),(5,I k),(6,bg (nx l k)),(7,bg r),(8,I e)]<|aa<|iO [.ret (bg (eG (k+1)))] rfl (by(repeat' (with_reducible apply az));(all_goals first|exact zk _|((first|exact Mr|exact q|((simp only[b0,ta,ad,cc]);omega)))))<|ae (ao (l:=[(0,.fn (.yield c) [] []),(4,.fn (.func 44) [.po b 0] []),(12,strs l),(13,I l.length),(14,I k),(5,I k),(6,bg (nx l k)),(8,I e),(9,bg (eG (k+1)++[58,32]++nx l k++[32,62,32]++r))]) ⟨rfl,rfl,rfl,rfl,rfl,rfl,rfl,rfl,WY _ _ _ _ _,trivial⟩)<|aJ.En (Y:=Unit) (λ_=>True) (λ_=>el (lnE b c l k (if e=0 then eG (k+1)++[58,32]++nx l k++[32,62,32]++r else eG (k+1)++[58,32]++nx l k++[32,35,32]++eG e)))
   (λ_=>(c,lo .go)::ck b (rk (ml a ws0 l k).1 (gC (ml a ws0 l k).1 (nx l k))) (strs (M9 (ml a ws0 l k).2 (nx l k) (gC (ml a ws0 l k).1 (nx l k))))::U y) (λ_=>[]) (aa ?_) ?_
  ·refine cC rfl ?_
   by_cases t:e=0
   ·rw[if_pos t]
    refine aD rfl (by subst t;rfl) ?_
    exact⟨(),trivial,ao (l:=lnE b c l k _) ⟨rfl,rfl,rfl,rfl,rfl,rfl,rfl,trivial⟩⟩
   ·rw[if_neg t]
    refine ax rfl (by simpa using t)<|iO [.ret (bg (eG (k+1))),.ret (bg (eG e))] rfl (by(repeat' (with_reducible apply az));(all_goals first|exact zk _|((first|exact Mr|exact q|((simp only[b0,ta,ad,cc]);omega))))) ?_
    exact⟨(),trivial,ao (l:=lnE b c l k _) ⟨rfl,rfl,rfl,rfl,rfl,rfl,WY _ _ _ _ _,trivial⟩⟩
  intro _ _
  generalize (if e=0 then eG (k+1)++[58,32]++nx l k++[32,62,32]++r else eG (k+1)++[58,32]++nx l k++[32,35,32]++eG e)=E at d
  refine aa (av ?_)
  refine kL 3 rfl rfl<|ai (bP (Hin:=(c,lo .go)::(ck b (rk (ml a ws0 l k).1 (gC (ml a ws0 l k).1 (nx l k))) (strs (M9 (ml a ws0 l k).2 (nx l k) (gC (ml a ws0 l k).1 (nx l k))))::U y)) (H0:=[]) rfl (show Pn ap (.yield c) [] _ _ _ from⟨rfl,d⟩) rfl rfl (aK _) (bI _).symm ?_)
  rintro res Ho ⟨j,z,n,D,rfl,rfl⟩
  rw[bI]
  refine eZ rfl ?_
  cases j with
  |go=>
   have n:=n rfl
   refine aD rfl rfl ?_
   refine show aJ _ _ _ _ _ _ _ _ from ?_
   refine dS rfl ⟨zz,trivial⟩ ?_
   exact⟨(k+1,z),⟨by simp only;omega,n⟩,by simp only;omega,aj (ar (by rw[i])) eL⟩
  |ret=>
   refine ax rfl rfl (ab ?_)
   refine⟨.inr rfl,_,.bZ [],_,rfl,.many zq trivial,⟨.ret,k+1,z,.inr ⟨zq,zz,zz,D zj⟩,by rw[i]⟩,bm _⟩
  |exit id=>
   refine ax rfl rfl (ab ?_)
   refine⟨.inr rfl,_,.bZ [],_,rfl,.many zq trivial,⟨.exit id,k+1,z,.inr ⟨(λh=>nomatch h),zz,zz,D zj⟩,by rw[i]⟩,bm _⟩
 ·simp only[nL]at hc
  refine ay ?_
  have e:k=l.length:=zz
  subst e
  refine⟨.inl rfl,_,.bZ [],_,rfl,.many zq trivial,⟨.go,_,_,.inl ⟨rfl,rfl,u⟩,rfl⟩,bm _⟩
end
theorem GH (b:Nat)(l:List Wd):Ev ap 20 [.po b 0,strs l] (.fn (.func 43) [] [.pi [.po b 0],.pi [strs l]]):=by exact gA S20.ok [(5,[.fz 2,.fz 3])] []
theorem Bb {a:cE}(w:a.wf){l:List Wd}(hl:l.length<=1000000)(h:dB a l=0):yg ap 18 [.agg a.enc,strs l] [] (λb=>.bZ [.po b 0,I 0]) (λb=>[ck b a (strs [])]):=by refine(T0 w hl h).cell λb=>wA [] (show ez (.v (.slice none 0 0)) (strs [])from λS v h=>?_) a.enc;simp only[aR]at h ⊢;exact .inl ⟨⟨_,h⟩,rfl⟩
abbrev re (l:List Wd):List (List AV):=l.map λs=>[bg s]
def yS (l:List Wd)(m:Nat×Nat):Option (Nat×Nat):=match l with|[]=>none|_::_=>some m
theorem MC {l:List Wd}{m:Nat×Nat}(h:yS l m=none):l=[]:=by cases l with|nil=>rfl|cons _ _=>cases h
theorem Uy {l:List Wd}(m:Nat×Nat)(h:l≠[]):yS l m=some m:=by cases l with|nil=>exact absurd rfl h|cons _ _=>rfl
abbrev lnU (a:Nat)(y:List Wd×(Nat×Nat)):Heap:=(a,.cells 25 [yt (yS y.1 y.2) y.1.length])::xg (yS y.1 y.2) 9 1 (re y.1)
abbrev Fa:List AV:=let i:=I 0;let s:=AV.v (.slice none 0 0);[i,s,s,i,s,s,i,s,s,i,i,i,s,s,s,s,s,s,i,i,s,i,s,s,s,i]
def gu (a:cE)(l:List Wd)(k:Nat):List Wd:=(cR k).map (fw a l)
theorem Pa (a:cE)(l:List Wd)(k:Nat):gu a l (k+1)=gu a l k++[fw a l k]:=by unfold gu;rw[List.range_succ,cr];rfl
theorem str_inj {s t:Wd}(h:bg s=bg t):s=t:=zx
theorem zX.mono {P:Program}{l:Nat}{args:List AV}{Hin:Heap}{R c:AV->Heap->Prop}(h:zX P l args Hin R)(k: ∀r Ho,R r Ho->c r Ho):zX P l args Hin c:=
 λS w q j m n o h4=>by
  obtain⟨lp,a1,f,i⟩:=h S w q j m n o h4
  refine⟨lp,a1,f,i.mono ?_⟩
  rintro e w' ⟨v,d,g,res,b,he,p,a⟩
  exact⟨v,d,g,res,b,he,k _ _ p,a⟩
theorem Jv {a:cE}(w:a.wf){l:List Wd}(h:dB a l=0):Ev ap 10 [.agg a.enc,strs l] (.bZ [strs (gu a l l.length),.agg (ml a [] l l.length).1.enc,I 0]):=by
 have hl:l.length<=14/\(cZ a).2=0/\l.all dL=true:=by
  unfold dB at h;repeat' split at h
  all_goals first|contradiction|skip
  refine⟨zz,zz,by simp_all⟩
 obtain⟨hl,M,B⟩:=hl;have ok:a.OK:=rj w M;have hs: ∀s∈l,s.length<=1000000:=λs hm=>by have:=jj (b8.1 B s hm);omega
 have K:=Bb w zz h;refine ak S10.ok<|dY<|ep [(4,[.fz 2,.sh]),(5,[.sh])] [] ?_;repeat' first|apply aP|apply aO|apply aN|apply aw|apply az|(intro o;(try simp only[nL]at o);(try contradiction))
 all_goals try exact fi _
 rename_i c;revert o;intro b5;refine⟨?_⟩;refine dY<|ep [(13,[.b 0 K])] [] ?_;repeat' first|apply aP|apply aO|apply aN|apply aw|apply az|(intro o;(try simp only[nL]at o);(try contradiction))
 all_goals try exact fi _
 revert o;intro b;refine⟨?_⟩;refine ae (aj (ar (H':=[ck b a (strs []),(c,.cells 25 [yt none 0]),(b5,.cells 49 Fa)]) rfl) (ao (l:=[(1,strs l),(2,.pi a.enc),(4,.po c 0),(5,.po b5 0),(6,I 0),(7,.po b 0)]) ⟨rfl,rfl,rfl,rfl,rfl,rfl,trivial⟩))<|aa (aa ?_);refine cC rfl<|aD rfl rfl<|show aJ _ _ _ _ _ _ _ _ from ?_;refine aa (aa ?_);refine iO [.ret (.fn (.func 43) [] [.pi [.po b 0],.pi [strs l]])] rfl ⟨GH b l,trivial⟩<|au<|aJ.CD (X:=(cE×List Wd)×(List Wd×(Nat×Nat))) (HS:=λx=>ck b x.1.1 (strs x.1.2)::lnU c x.2) (H0:=[(b5,.cells 49 Fa)]) ((a,[]),([],(0,0)))
  (λj x=>j= .go/\x.1=ml a [] l l.length/\x.2.1=gu a l l.length)
  (λx args=> ∃k,k<l.length/\x.1=ml a [] l (k+1)/\x.2.1=gu a l k/\args=[I (k:Nat),bg (fw a l k)])
  (λx args j u=>j= .go/\u.1=x.1/\ ∀(k:Nat) v,args=[I k,bg v]->u.2.1=x.2.1++[v])
  (el [(4,.po c 0)]) rfl rfl (qP ⟨rfl,trivial⟩ rfl) zq ?_ ?_ ?_
 ·rintro G ⟨st,q,m⟩ args ⟨k,hk,g,f,rfl⟩;simp only at g f ⊢;refine⟨rfl,?_⟩;generalize fw a l k=v;refine cC rfl ?_;refine⟨rfl,?_⟩;refine ae (aj (ar (H':=ck b st.1 (strs st.2)::(c,.cells 25 [yt (yS q m) q.length])::xg (yS q m) 9 1 (re q)) rfl) (ao (l:=[(4,.po c 0),(9,bg v)]) ⟨rfl,rfl,trivial⟩))<|au (av ?_);refine lz [.at 1] 1 rfl rfl ⟨rfl,trivial⟩<|aG (bB.Mx (t:=25) (H:=[ck b st.1 (strs st.2),(c,.cells 25 [yt (yS q m) q.length])]) (es:=re q) rfl zj (λe=>by rw[show q=[]from MC (m:=m) e];rfl)) ?_;have L:q.length<=14:=by rw[f];unfold gu;simp;omega
  have J:(re q).length=q.length:=be _;refine lz [.bW] 3 rfl rfl ⟨rfl,⟨by show ((re q).length+1)*16<=_;omega,by show (re q).length+1<=_;omega⟩,trivial⟩ ?_;have A:re (q++[v])=re q++[[bg v]]:=cr;refine aT.Qw (t:=28) (es:=re (q++[v])) (by rw[A];rfl) (λF C=>?_);have D: ∃d,F=some d:=by cases F with|none=>exact absurd (C rfl) zj|some d=>exact⟨d,rfl⟩
  obtain⟨d,rfl⟩:=D;refine ai (aZ (i:=1) rfl rfl rfl rfl rfl rfl (by show 1<=1;decide) ?_);refine bh ⟨.go,(st,(q++[v],d)),rfl,⟨rfl,rfl,λN O e=>?_⟩,?_⟩
  ·simp only[c7,and_true]at e;rw[str_inj e.2]
  ·show (ck b st.1 (strs st.2)::lnU c (q++[v],d)).Sublist _;unfold lnU;rw[show yS (q++[v],d).1 (q++[v],d).2=some d from Uy _ zj];show List.Sublist _ ([ck b st.1 (strs st.2),(c,cP.cells _ [yt (some d) (re (q++[v])).length])]++xg (some d) 9 1 (re (q++[v])));rw[be];exact bm _
 ·intro G lo hy;refine(FI ok [] b zz hs (λy:List Wd×(Nat×Nat)=>lnU c y) (λk y=>y.1=gu a l k) ([],(0,0)) rfl G lo (λ_ _ _=>False) (λk y hk p=>(hy (ml a [] l (k+1),y) [I (k:Nat),bg (fw a l k)] ⟨k,hk,rfl,p,rfl⟩).mono ?_)).mono ?_
  ·rintro r Ho ⟨j,u,⟨rfl,g,f⟩,rfl,rfl⟩;refine⟨.go,u.2,λ_=>?_,λh=>absurd rfl h,rfl,?_⟩
   ·rw[f k _ rfl,p,Pa]
   ·rw[g]
  ·rintro r Ho ⟨j,k,z,(⟨rfl,rfl,p⟩|⟨_,_,_,h⟩),rfl⟩
   ·exact⟨.go,(ml a [] l l.length,z),⟨rfl,rfl,p⟩,rfl⟩
   ·exact h.elim
 ·rintro j ⟨st,q,m⟩ E ⟨rfl,g,f⟩;simp only at g f;subst g f;show aJ _ _ _ _ _ _ _ _;generalize hx:ml a [] l l.length=x;generalize gu a l l.length=q at*
  refine ae (aj (cd (H':=[(E,.iV),ck b x.1 (strs x.2),(b5,.cells 49 Fa)]++[(c,.cells 25 [yt (yS q m) q.length])]++xg (yS q m) 9 1 (re q)) (cA _ (cA _ (List.perm_append_singleton _ (_::_))))) (bB.Ma (j:=3) (bo:=c) [] [] rfl rfl zj (λe=>by rw[show q=[]from MC (m:=m) e];rfl)))<|ae (ar (H':=[(E,.iV),ck b x.1 (strs x.2),(b5,.cells 49 Fa),(c,.cells 25 [strs q])]) rfl)<|aa (aJ.SV (gs:=[]) (hs:=[.at 3,.at 1]) [4,29] 3 xr rfl zw ⟨rfl,rfl,trivial⟩ rfl rfl rfl rfl rfl rfl (b1 1) rfl ?_);refine aT.hd (gs:=[]) (hs:=[.gI 2]) rfl ⟨⟨rfl,rfl,rfl,rfl,b1 26⟩,trivial⟩ ?_
  exact ab ⟨.inr rfl,_,⟨0,rfl,rfl⟩,.many zq (show fN (ja ap _ _) [.cell 4 25,.cell 5 49,.tmp 6] [strs q,.agg x.1.enc,I 0]from
   ⟨.dw (n:=none) (i:=2) (cs:=[strs q]) rfl rfl zw rfl,.dw (n:=some 26) (i:=1) (cs:=x.1.enc) rfl rfl zw rfl,.tmp rfl rfl,trivial⟩)⟩
theorem lX: ∀(l:List Wd) (a:cE) (i:Nat),(lL a i l).1.length=l.length/\(lL a i l).2=(ml a [] l l.length).1/\ ∀k,k<l.length->(lL a i l).1[k]? =some (C7 (i+k) (nx l k) (gC (ml a [] l k).1 (nx l k)))
 |[],a,i=>⟨rfl,rfl,λk h=>absurd h (Nat.not_lt_zero k)⟩
 |s::l,a,i=>by
  obtain⟨b,c,d⟩:=lX l (rk a (gC a s)) (i+1)
  have e: ∀k,(ml a [] (s::l) (k+1)).1=(ml (rk a (gC a s)) [] l k).1:=λk=>Q5 (l.take k) _ _ _
  refine⟨by simp only[lL,ad,b],?_,?_⟩
  ·rw[ad,e,<-c];rfl
  ·intro k hk
   cases k with
   |zero=>rfl
   |succ k=>
    have:=d k (by simpa using hk)
    rw[e]
    simp only[lL,List.getElem?_cons_succ,this]
    rw[show i+1+k=i+(k+1)from zz]
    rfl
theorem tr (a:cE)(l:List Wd):gu a l l.length=(lL a 0 l).1:=by
 obtain⟨b,_,c⟩:=lX l a 0;apply List.ext_getElem?;intro k;unfold gu;by_cases hk:k<l.length
 ·rw[c k hk,Nat.zero_add];rw[List.getElem?_map,List.getElem?_range hk];rfl
 ·simp [hk,b]
theorem Fe {k:Nat}:ez (.v (.slice none 0 0)) (.sl k []):=λS v h=>by simp only[aR]at h ⊢;exact .inl ⟨⟨_,h⟩,trivial⟩
theorem EF {a:cE}(w:a.wf){l:List Wd}(hl:l.length<=1000000)(h:dB a l≠0):Ev ap 10 [.agg a.enc,strs l] (.bZ [strs [],.agg kz.enc,I (dB a l)]):=by
 have d:=HO w hl h;generalize dB a l=e at h d;refine ak S10.ok<|dY<|ep [(4,[.fz 2,.sh]),(5,[.sh])] [] ?_;repeat' first|apply aP|apply aO|apply aN|apply aw|apply az|(intro b;(try simp only[nL]at b);(try contradiction))
 all_goals try exact fi _
 rename_i c;revert b;intro b5;refine⟨?_⟩;refine dY<|ep [(13,[.ev d])] [] ?_;repeat' first|apply aP|apply aO|apply aN|apply aw|apply az|(intro b;(try simp only[nL]at b);(try contradiction))
 all_goals try exact fi _
 refine⟨?_⟩;refine ae (aj (ar (H':=[(c,.cells 25 [.v (.slice none 0 0)]),(b5,.cells 49 Fa)]) rfl) (ao (l:=[(4,.po c 0),(5,.po b5 0),(6,I e)]) ⟨rfl,rfl,rfl,trivial⟩))<|aa (aa ?_);refine cC rfl<|ax rfl (by simpa using h)<|ae (cx (j:=0) [.nil] rfl ⟨λS v h=>by simp only[aR]at h;subst h;simp only[aR],trivial⟩)<|ae (ar (H':=[(c,.cells 25 [.nil]),(b5,.cells 49 Fa)]) rfl)<|aa (aJ.iP xr (vE.run (gs:=[]) (hs:=[.at 1]) rfl ⟨rfl,trivial⟩ (vE.cons (W:=[]) [4] ?_ rfl rfl (vE.cons (W:=[]) [5,18] ?_ rfl rfl (vE.run (gs:=[]) (hs:=[]) rfl trivial vE.nil)))) zw (bh ?_))
 ·exact aZ (i:=0) rfl rfl rfl rfl rfl rfl (b1 1) ⟨rfl,rfl,rfl⟩
 ·exact aZ (i:=1) rfl rfl rfl rfl rfl rfl (b1 26) ⟨rfl,rfl,rfl⟩
 refine show aJ _ _ _ _ _ _ _ _ from ?_;refine ae (aj (cx (j:=0) [strs []] rfl ⟨gN 1,trivial⟩) (cx (j:=1) kz.enc rfl ?_)) ?_
 ·repeat' first|exact aU _|exact Fe|exact trivial|apply az
 exact ab ⟨.inr rfl,_,rfl,.many zq (show fN (ja ap _ _) [.cell 4 25,.cell 5 49,.tmp 6] [strs [],.agg kz.enc,I e]from
  ⟨.dw (n:=none) (i:=0) (cs:=[strs []]) rfl rfl zw rfl,.dw (n:=some 26) (i:=1) (cs:=kz.enc) rfl rfl zw rfl,.tmp rfl rfl,trivial⟩)⟩
theorem JA {a:cE}(w:a.wf){l:List Wd}(hl:l.length<=1000000):Ev ap 10 [.agg a.enc,strs l] (.bZ [strs (kS a l).1,.agg (kS a l).2.1.enc,I (kS a l).2.2]):=by grind [kS,dB,tr,lX,Jv,EF]
theorem Zr {a:cE}(ok:a.OK)(c:List Wd){s:Wd}(b:Nat){e:Int}(h:gC a s= .inl e):yg ap 44 [.po b 0,bg s] [ck b a (strs c)] (λ_=>.bZ [bg [],I e]) (λ_=>[ck b a (strs c)]):=
 (QY ok c s b).mono λr Ho d=>by unfold Fp at d;rw[h]at d;exact⟨0,d.1,d.2⟩
theorem aaw {a:cE}(ok:a.OK)(c:List Wd){s:Wd}(b:Nat){x:cE×Wd}(h:gC a s= .inr x):yg ap 44 [.po b 0,bg s] [ck b a (strs c)] (λ_=>.bZ [bg x.2,I 0]) (λ_=>[ck b x.1 (strs (aV 32 s))]):=
 (QY ok c s b).mono λr Ho d=>by unfold Fp at d;rw[h]at d;exact⟨0,d.1,d.2⟩
theorem zero_sub:fN ez Fa kz.enc:=by repeat' first|exact aU _|exact Fe|exact trivial|apply az
theorem PD {a:cE}(w:a.wf)(s:Wd):Ev ap 30 [.agg a.enc,bg s] (.bZ [.agg (Po a s).1.enc,bg (Po a s).2.1,I (Po a s).2.2]):=by
 unfold Po;refine ak S30.ok<|dY<|ep [(4,[.fz 2,.sh])] [] ?_;repeat' first|apply aP|apply aO|apply aN|apply aw|apply az|(intro c;(try simp only[nL]at c);(try contradiction))
 all_goals try exact fi _
 revert c;intro d;refine⟨?_⟩;refine ae (aj (ar (H':=[(d,.cells 49 Fa)]) rfl) (cx (j:=0) kz.enc rfl zero_sub)) ?_;by_cases h:dB a []=0
 ·rw[if_neg zz];have ok:a.OK:=rj w (by unfold dB at h;split at h<;>omega);refine dY<|ep [(10,[.b 0 (Bb w (l:=[]) zq h)])] [] ?_;repeat' first|apply aP|apply aO|apply aN|apply aw|apply az|(intro c;(try simp only[nL]at c);(try contradiction))
  all_goals try first|exact fo _|exact⟨gN 1⟩|exact fi _
  revert c;intro b;refine⟨?_⟩;refine ae (aj (ar (H':=[ck b a (strs []),(d,.cells 49 kz.enc)]) rfl) (ao (l:=[(1,bg s),(4,.po d 0),(5,bg []),(6,I 0),(7,.po b 0)]) ⟨rfl,rfl,rfl,rfl,rfl,trivial⟩)) ?_;cases hc:gC a s with
  |inl e=>
   have he:=(zR ok s);rw[hc]at he;refine ep [(20,[.b 0 (Zr ok [] b hc)]),(15,[.i (.at 1)]),(25,[.i (.at 1)]),(10004,[.i (.gI 1)])] [] ?_;repeat' first|exact absurd (show e=0 from zy) he.1|apply aP|apply aO|apply aN|apply aw|apply az|(intro c;(try simp only[nL]at c);(try contradiction))
   all_goals first|exact trivial|(refine Mn.mk ?_;kernel_rfl)|exact .inr rfl|exact⟨_,rfl,.many zq ⟨.dw (n:=some 26) (i:=1) (cs:=kz.enc) rfl rfl zw rfl,.tmp rfl rfl,.tmp rfl rfl,trivial⟩⟩|exact⟨gN 1⟩|(refine Ob.mk ?_;exact pf _)
  |inr x=>
   refine ep [(20,[.b 0 (aaw ok [] b hc)]),(15,[.i (.at 1)]),(30,[.i (.at 0)]),(10004,[.i (.gI 1)])] [] ?_;repeat' first|apply aP|apply aO|apply aN|apply aw|apply az|(intro c;(try simp only[nL]at c);(try contradiction))
   all_goals first|exact trivial|(refine Mn.mk ?_;kernel_rfl)|exact .inr rfl|exact⟨_,rfl,.many zq ⟨.dw (n:=some 26) (i:=1) (cs:=x.1.enc) rfl rfl zw rfl,.tmp rfl rfl,.tmp rfl rfl,trivial⟩⟩|exact⟨gN 1⟩|(refine Ob.mk ?_;exact pf _)
 ·rw[if_pos h];have f:=HO w (l:=[]) zq h;generalize dB a []=e at h f;refine ep [(10,[.ev f]),(15,[.i (.at 0)]),(10004,[.i (.gI 0)])] [] ?_;repeat' first|exact absurd (show e=0 from zy) h|apply aP|apply aO|apply aN|apply aw|apply az|(intro c;(try simp only[nL]at c);(try contradiction))
  all_goals first|exact trivial|(refine Mn.mk ?_;kernel_rfl)|exact .inr rfl|exact⟨_,rfl,.many zq ⟨.dw (n:=some 26) (i:=0) (cs:=kz.enc) rfl rfl zw rfl,.tmp rfl rfl,.tmp rfl rfl,trivial⟩⟩|exact⟨gN 1⟩|(refine Ob.mk ?_;exact pf _)
end Go.Px
