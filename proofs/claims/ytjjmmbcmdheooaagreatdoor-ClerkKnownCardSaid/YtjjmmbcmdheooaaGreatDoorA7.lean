/- Part 7 of the proof of a statement of this seat (a logic of pure contracts; the functions; their contracts). No conditions. -/
import Derived.Test.YtjjmmbcmdheooaaGreatDoorA6
import Derived.Lib.UnsafeStr
open Array renaming ext'->hM
open Decidable renaming not_not->eT
open Go.Addr renaming add_lit->hD
open Go.Builtin renaming zeroCells->az,append_->be,nextslicecap->cR
open Go.Deferred renaming ofValue->hQ
open Go.Fence renaming wide->hO
open Go.Instr renaming getLoop->cB,endRound->er
open Go.IntKind renaming i64->dl
open Go.Lib renaming strCells->c8
open Go.Question renaming forced->fD
open Go.Result renaming andThen_ok->e8
open Go.RowKit.Below renaming refl->hP
open Go.Sem renaming run->e9,run_bind->hI,run_pure->hJ
open Go.Value renaming func->ej,oneCell'->hB,int->hC
open List renaming replicate->an,length_append->ap,length_take->bk,mem_append->bs,mem_of_mem_take->bt,flatten_append->bx,length_flatten->bA,map_append->bI,getElem?_take->cb,take_of_length_le->cc,length_replicate->cA,map_cons->cD,mem_of_mem_drop->c7,mem_or_eq_of_mem_set->dk,append_assoc->dn,length_drop->ea,take_append->ec,nil_append->ek,drop_take->et,mem_cons_of_mem->eu,mem_cons_self->eM,mem_replicate->eP,set_cons_zero->eS,ext_getElem?->eU,flatten_cons->e3,getElem?_map->e4,getElem?_set->e5,map_nil->e6,all_eq_true->fb,cons_append->fe,map_toArray->ff,mem_flatten->fj,perm_middle->fk,length_nil->fu,length_set->fv,nodup_cons->fx,take_left->gx,take_zero->hp,mem_map->hE
open Nat renaming mul_le_mul_right->bm,zero_add->cr,lt_of_lt_of_le->de,add_mul->ds,mul_eq_zero->en,mul_one->ew,lt_irrefl->ey,le_trans->e7,le_refl->fs,min_eq_left->fy,add_zero->hF,le_of_eq->hG
open Option.some renaming injEq->bn
open Prod.mk renaming injEq->bi
namespace Go.Px
variable {i:Nat}{args:List AV}{ob:Prop}{hs':List Hint}{env':Env}{gs:List (Nat×Bool)}{ls:List aH}{W:List (Nat×AV)}{H' Hin:Heap}{f:FuncId}
section
variable {P:Program}{r:Option Nat}{N:Nat}{env:Env}{H:Heap}{D:List Nat}{Q:cI}
theorem aT.wU : ∀{l1 l2:List aH} {hs:List Hint} {env env':Env} {hs':List Hint} {ob:Prop},ld P gs H l1 hs env=(env',[],hs',ob)->ob->aT P r N l2 Q env' H D->aT P r N (l1++l2) Q env H D
 |[],l2,hs,env,env',hs',ob,h,o,k=>by
  simp only[ld,bi]at h
  obtain⟨rfl,_,rfl,rfl⟩:=h
  exact k
 |l::ls,l2,hs,env,env',hs',ob,h,o,k=>by
  simp only[ld]at h
  split at h
  ·rename_i W b a hx
   obtain⟨⟨e,rest,f,g⟩,d⟩: ∃q,ld P gs H ls b (dG env W)=q:=⟨_,rfl⟩
   rw[d]at h
   have h:(e,rest,f,Tz a g)=(env',[],hs',ob):=by cases a<;>exact h
   simp only[bi]at h
   obtain⟨rfl,rfl,rfl,rfl⟩:=h
   obtain⟨i,c⟩:=zM o
   exact aT.WB (vZ hx i).1 (aT.wU d c k)
  ·simp only[bi]at h
   obtain⟨_,h,_⟩:=h
   cases h
theorem bB.ofH (h:H=H'):bB env H D env H' D:=h▸bB.refl env H D
theorem aT.xn (n:Nat){a:List aH}{hs:List Hint}(h:ld P gs H (ls.take n) hs env=(env',[],hs',ob))(b:ls.drop n=a)(o:ob)(k:aT P r N a Q env' H D):aT P r N ls Q env H D:=by subst b;have:=aT.wU (l2:=ls.drop n) h o k;rwa [List.take_append_drop]at this
theorem il.mono {R c:AV->Heap->Prop}(h:il P f args Hin R)(k: ∀r Ho,R r Ho->c r Ho):il P f args Hin c:=
 ⟨h.1,λS w o i j l m h4=>(h.2 S w o i j l m h4).mono (by
   rintro e w' ⟨v,d,g,res,b,he,n,a⟩
   exact⟨v,d,g,res,b,he,k _ _ n,a⟩)⟩
theorem AU.xq {Hs:Bool->Heap}{q:Nat}{l:aH}{f:List Nat}{rest:List (aH×List Nat)}{a:List rM}{rC:List aH}(hs:List Hint){b:List Hint}{ob c:Option Prop}(hi:i≠q)
  (h:Ga P [] (Hs false) hs l (only (yf l) env)=some (W,hs',ob)) (d:Ga P [] (Hs true) hs l (only (yf l) env)=some (W,b,c)) (hk:Cq (bT W) (yf l)=true) (o:Lm ob) (e:Lm c)
  (k:AU P r N Hs q D (i+1) (dG env W) rest a rC env'):AU P r N Hs q D i env ((l,f)::rest) ((yf l,bT W,true,true)::a) rC env':=
 .cons (yf l) true true hi (λ_=>(vZ h o).1) (λ_=>(vZ d e).1) hk (vZ (r:=r) (N:=N) (D:=D) h o).2 k
end
variable {T ty:TypeId}{b cap:Nat}{es ys:List (List AV)}{x y:Operand}
section
variable {P:Program}{r:Option Nat}{N:Nat}{env:Env}{H:Heap}{D:List Nat}{dst:Option Nat}{K:Env->Heap->List Nat->Prop}{Q:cI}
theorem aF.LD {U E:TypeId}{t:Nat}(hx:bu env x= .so b es.length cap)(V:H[i]? =some (b,.arr t 1 cap es))(hy:bu env y= .sl 1 ys)
  (k:K (ct env dst (.v (.int .i64 (min ys.length es.length:Nat)))) (H.set i (b,.arr t 1 cap (ys.take (min ys.length es.length)++es.drop (min ys.length es.length)))) D):aF P r N (.copy T U ty x y E 1) dst env H D K:=by
 intro o A hd B C a w S L hN hs next Q q
 obtain⟨cur,p,c1,c2,c3,c4,c5,c6⟩:=(hs.at_ V).arr
 rw[ew]at c1 c5 c6
 have hv:=hs.cY x hx rfl
 simp only[aR]at hv
 have a3:=hs.cY y hy rfl
 generalize a5:(1:Nat)=one at B
 cases B with
 |copy I X hj=>
  rename_i j
  have O:(P.info? E).map (·.size)=some 1:=zx
  have fin: ∀(w':World),(Builtin.copy_ #[T,U] o.type #[a.eval x,a.eval y]).run P w= .ok (goInt (min ys.length es.length:Nat)) w'->
    (∃L',Sat C (ct env dst (.v (.int .i64 (min ys.length es.length:Nat)))) (H.set i (b,.arr t 1 cap (ys.take (min ys.length es.length)++es.drop (min ys.length es.length)))) D (a.put dst (goInt (min ys.length es.length:Nat))) w' S L')->o.wpIn (Fw r) 0 P a w next Q:=by
   rintro w' df ⟨L',a1⟩
   refine Oper.bO (.copy I X hj) zj (y:=goInt (min ys.length es.length:Nat)) (w':=w') ?_ (by rw[A];exact q _ _ _ _ _ _ _ k a1 (aE.Le.refl _))
   simp [execOp,I,resolve,invoke,builtin,df]
  have f: ∀zs:List (List AV),(∀e∈zs,e.length=1)-> ∀n,(zs.take n).flatten=zs.flatten.take n/\(zs.drop n).flatten=zs.flatten.drop n:=by
   intro zs
   induction zs with
   |nil=>intro _ n;simp
   |cons z zs ih=>
    intro hz n
    have h1:=hz z zj
    match z,h1 with
    |[c],_=>
     cases n with
     |zero=>simp
     |succ n=>
      obtain⟨i1,i2⟩:=ih (λe he=>hz e (by simp [he])) n
      simp [i1,i2]
  rcases Au hs.sin a3 with⟨⟨a6,s⟩,rfl⟩|⟨ad,cp,news,s,G,a0,Z,F,R⟩
  ·simp only[fu,Nat.zero_min,List.take_nil,List.drop_zero,ek]at fin
   have J:H.set i (b,.arr t 1 cap es)=H:=by
    apply eU
    intro n
    rw[e5]
    split
    ·rename_i e;subst e
     rw[V,if_pos (iD V)]
    ·rfl
   rw[J]at fin
   refine fin w ?_ ?_
   ·rw[hv,s]
    exact run_copy_none w T U o.type E _ _ es.length cap 0 0 X O zj
   ·exact hs.lA (dst:=dst) (λd e=>hN▸hd d e) rfl (by simp [aR,goInt])
  ·rw[ew]at G
   generalize Y:min ys.length es.length=m at fin
   have a7:m<=ys.length:=zz
   have a8:m<=es.length:=zz
   have hm:(news.take m).length=m:=by rw[bk,G];omega
   have M:=run_copy_row (P:=P) w T U o.type E b 0 es.length cap ad ys.length cp cur.toArray t (news.take m) X O p (by rw[hm,<-Y]) (λj u l=>by
    rw[cb]at l
    split at l
    ·exact Z j u l
    ·cases l) (by rw[hm,List.size_toArray];omega) (λu hu=>F u (bt hu))
   rw[hm]at M
   have a4:(cur.take es.length).length=es.length:=by rw[bk];omega
   have h:(ys.take m++es.drop m).length=es.length:=by simp;omega
   have a2:=hs.replace V (y:=.arr t 1 cap (ys.take m++es.drop m)) (w':=w.setRow b (cur.toArray.toList.take 0++news.take m++cur.toArray.toList.drop (0+m)).toArray)
    (setRow_heap w b _ _ _ _ p)
    (by
      refine⟨_,rfl,?_,by rw[h];exact c2,c3,?_,?_,?_⟩
      ·simp;omega
      ·intro e he
       rcases bs.1 he with he|he
       ·exact R e (bt he)
       ·exact c4 e (c7 he)
      ·rw[h,ew]
       have W:(([]:List Value)++news.take m++cur.drop m).take es.length=news.take m++(cur.take es.length).drop m:=by
        rw[ek,ec,hm,cc zz,et]
       simp only[hp,cr]
       rw[W,bx,(f ys R m).1,(f es c4 m).2]
       exact(a0.take m).append (c5.drop m)
      ·rw[h,ew]
       have W:(([]:List Value)++news.take m++cur.drop m).take es.length=news.take m++(cur.take es.length).drop m:=by
        rw[ek,ec,hm,cc zz,et]
       simp only[hp,cr]
       rw[W]
       intro c hc
       rcases bs.1 hc with hc|hc
       ·exact F c (bt hc)
       ·exact c6 c (c7 hc))
    (setRow_size _ _ _) (λg hg=>setRow_other w b g _ hg) rfl rfl rfl
   refine fin _ (by rw[hv,s];exact M) ?_
   exact a2.lA (dst:=dst) (λd e=>hN▸hd d e) rfl (by simp [aR,goInt])
end
variable {k kk m n off:Nat}{q:AV}{w:World}{S:aE}{P:Program}{H1:Heap}
theorem yR : ∀{es:List (List AV)} {m f:Nat} {e q:List AV},(∀e∈es,e.length=kk)->es[m]? =some e->f+q.length<=kk->(es.set m (bK e f q)).flatten=bK es.flatten (m*kk+f) q
 |[],m,f,e,q,_,h,_=>by simp at h
 |e0::es,0,f,e,q,hk,h,b=>by
  simp only[List.getElem?_cons_zero,bn]at h
  subst h
  have a:=hk e0 zj
  simp only[eS,e3,Nat.zero_mul,cr,bK]
  rw[List.take_append_of_le_length zz,List.drop_append_of_le_length zz]
  simp [dn]
 |e0::es,m+1,f,e,q,hk,h,b=>by
  simp only[List.getElem?_cons_succ]at h
  have a:=hk e0 zj
  have d:=yR (es:=es) (m:=m) (f:=f) (e:=e) (q:=q) (λe he=>hk e (by simp [he])) h b
  simp only[List.set_cons_succ,e3]
  rw[d]
  simp only[bK]
  have c:(m+1)*kk+f=e0.length+(m*kk+f):=by rw[ds,a];omega
  rw[c,List.take_length_add_append,Nat.add_assoc e0.length,List.drop_length_add_append]
  simp [dn]
theorem Ct {e q:List AV}{f:Nat}(h:f+q.length<=e.length):(bK e f q).length=e.length:=by simp only[bK,ap,bk,ea];omega
section
variable {r:Option Nat}{N:Nat}{env:Env}{H:Heap}{D:List Nat}{dst:Option Nat}{K:Env->Heap->List Nat->Prop}{Q:cI}
theorem aF.Yr {J:TypeId}{f:Nat}{e:List AV}(hx:bu env x= .po b off)(hH:H[i]? =some (b,.arr J kk cap es))(E:off=m*kk+f)(he:es[m]? =some e)
  (hy:bu env y=q) (hq:q.cj=true) (G:(bQ q).length=n) (V:(bQ q).all AV.dW=true) (a0:f+n<=kk)
  (k:K (ct env dst .any) (H.set i (b,.arr J kk cap (es.set m (bK e f (bQ q))))) D):aF P r N (.store T x y n) dst env H D K:=by
 intro o B hd R C a w S L hN hs next Q v
 obtain⟨cur,u,a2,A,M,hk,hr,Z⟩:=(hs.at_ hH).arr
 have hv:=hs.cY x hx rfl
 simp only[aR]at hv
 have X:aR S q (a.eval y):=hs.cY y hy (by cases q<;>simp_all [AV.cj,AV.dW,AV.bC])
 have h:=X.cells hq
 have t:=h.tc V
 have s:(a.eval y).cells.toList.length=n:=by rw[h.length,G]
 have U:=iD he
 have a1:m*kk+kk<=es.length*kk:=by rw[<-Nat.succ_mul];exact bm kk U
 have a3:es.length*kk<=cap*kk:=bm kk A
 have z:=run_storeCells_at P b off J (a.eval y).cells.toList 0 cur.toArray w u zx t
 simp only[hF]at z
 have O:e.length=kk:=hk e (List.mem_of_getElem? he)
 have I:=hs.replace hH (y:=.arr J kk cap (es.set m (bK e f (bQ q)))) (w':=w.setRow b (cur.take off++(a.eval y).cells.toList++cur.drop (off+(a.eval y).cells.toList.length)).toArray)
  (setRow_heap w b _ _ _ _ u)
  (by
    have l:(cur.take off++(a.eval y).cells.toList++cur.drop (off+(a.eval y).cells.toList.length)).take (es.length*kk)=(cur.take (es.length*kk)).take off++(a.eval y).cells.toList++(cur.take (es.length*kk)).drop (off+n):=by
     rw[s,ec,cc (by simp only[ap,bk];omega),List.take_take,fy zz]
     congr 1
     simp only[ap,bk]
     rw[et]
     congr 1
     omega
    refine⟨_,rfl,?_,?_,M,?_,?_,?_⟩
    ·simp only[ap,bk,ea];omega
    ·simpa using A
    ·intro x hx
     rcases dk hx with hx|rfl
     ·exact hk x hx
     ·rw[Ct zz,O]
    ·rw[fv,l,yR hk he zz,<-E]
     unfold bK
     rw[G]
     exact((hr.take off).append h).append (hr.drop (off+n))
    ·rw[fv,l]
     intro c hc
     simp only[bs]at hc
     rcases hc with (hc|hc)|hc
     ·exact Z c (bt hc)
     ·exact t c hc
     ·exact Z c (c7 hc))
  (setRow_size _ _ _) (λg hg=>setRow_other w b g _ hg) rfl rfl rfl
 obtain⟨L',hs'⟩:=I.lA (dst:=dst) (λd e=>hN▸hd d e) (p:=.any) (y:=undef) rfl (by simp [aR])
 generalize hW:w.setRow b (cur.take off++(a.eval y).cells.toList++cur.drop (off+(a.eval y).cells.toList.length)).toArray=W at z I hs'
 cases R with
 |store F hj=>
  rename_i j
  refine Oper.wpIn_skip (.store F hj) zj (w':=W) ?_ (by rw[B];exact v _ _ _ _ _ _ _ k hs' (aE.Le.refl _))
  have Y:(a.eval y).cells.size=j.size:=by simpa using s
  simp [execOp,F,Instr.storeAt,Instr.sureAddr,hv,storeVar,sizeOf,typeInfo,hj,Y,z]
abbrev HR:=Option (List (Nat×AV)×Heap×List Hint×Option Prop)
def Ml (H:Heap)(hs:List Hint)(dst:Option Nat)(x y:Operand)(n:Nat)(env:Env):HR:=match hs,dst with
 | .gI i::hs',none=>match bu env x,H[i]? with
  | .po b off,some (a,.cells T cs)=>some ([],H.set i (a,.cells T (bK cs off (bQ (bu env y)))),hs',some (a=b/\(bu env y).cj=true/\(bQ (bu env y)).length=n/\(bQ (bu env y)).all AV.dW=true/\off+n<=cs.length))
  |_,_=>none
 | .stE i m f e::hs',none=>match bu env x,H[i]? with
  | .po b off,some (a,.arr T kk cap es)=>some ([],H.set i (a,.arr T kk cap (es.set m (bK e f (bQ (bu env y))))),hs',
   some (a=b/\off=m*kk+f/\es[m]? =some e/\(bu env y).cj=true/\(bQ (bu env y)).length=n/\(bQ (bu env y)).all AV.dW=true/\f+n<=kk))
  |_,_=>none
 |_,_=>none
def PU (P:Program)(gs:Nat->Option Bool)(H:Heap)(hs:List Hint)(dst:Option Nat)(op:jM)(env:Env):HR:=match N2 P gs H hs dst op env with
 |some (W,hs',ob)=>some (W,H,hs',ob)
 |none=>match op with
  | .store _ x y n=>Ml H hs dst x y n env
  |_=>none
theorem Fu {gs:Nat->Option Bool}{hs:List Hint}{op:jM}{ob:Option Prop}(h:PU P gs H hs dst op env=some (W,H1,hs',ob))(o:Lm ob):O3 P r N op dst env H H1 D W:=by
 unfold PU at h;split at h
 ·rename_i u a t hx;simp only[bn,bi]at h;obtain⟨rfl,rfl,rfl,rfl⟩:=h;exact(zU hx o).1
 ·split at h
  ·rename_i T x y n;unfold Ml at h;split at h
   ·rename_i i a;split at h
    ·rename_i b off p l cs hx c;simp only[bn,bi]at h;obtain⟨rfl,rfl,rfl,rfl⟩:=h;obtain⟨rfl,d,g,j,k⟩:=o;exact aF.Er hx c rfl d g j k ⟨rfl,rfl,rfl⟩
    ·cases h
   ·rename_i i m f e a;split at h
    ·rename_i b off p l kk cap es hx c;simp only[bn,bi]at h;obtain⟨rfl,rfl,rfl,rfl⟩:=h;obtain⟨rfl,q,d,g,j,k,s⟩:=o;exact aF.Yr hx c q d rfl g j k s ⟨rfl,rfl,rfl⟩
    ·cases h
   ·cases h
  ·cases h
def CR (P:Program)(gs:List (Nat×Bool))(H:Heap)(hs:List Hint)(l:aH)(env:Env):HR:=match l.guard with
 |none=>PU P (rI gs) H hs l.dst l.op env
 |some (t,b)=>match rI gs t,env t with
  |some c,.v (.bool e)=>match c,b with
   |true,true|false,false=>(match PU P (rI gs) H hs l.dst l.op env with
    |some (W,H1,hs',none)=>some (W,H1,hs',some (e=c))
    |some (W,H1,hs',some q)=>some (W,H1,hs',some (e=c/\q))
    |none=>none)
   |_,_=>match l.dst with
    |some d=>some ([(d,.v undef)],H,hs,some (e=c))
    |none=>none
  |_,.v (.tuple _)=>match l.dst with
   |some d=>some ([(d,.v undef)],H,hs,none)
   |none=>none
  |_,_=>none
def LJ (P:Program)(r:Option Nat)(N:Nat)(l:aH)(env:Env)(H H1:Heap)(D:List Nat)(W:List (Nat×AV)):Prop:=match l.guard with
 |none=>O3 P r N l.op l.dst env H H1 D W
 |some (t,b)=>(∃c:Bool,env t= .v (.bool c)/\((c=b/\O3 P r N l.op l.dst env H H1 D W)\/(c≠b/\H1=H/\ ∃d,l.dst=some d/\W=[(d,.v undef)])))\/
  ((∃cs,env t= .v (.tuple cs))/\H1=H/\ ∃d,l.dst=some d/\W=[(d,.v undef)])
theorem wh {hs:List Hint}{l:aH}{ob:Option Prop}(h:CR P gs H hs l env=some (W,H1,hs',ob))(o:Lm ob):LJ P r N l env H H1 D W:=by
 unfold CR at h
 unfold LJ
 split at h
 ·rename_i hg
  first|rw[hg]|skip
  exact Fu h o
 ·rename_i t b hg
  first|rw[hg]|skip
  split at h
  ·rename_i c e hc he
   have f:c=b->(match PU P (rI gs) H hs l.dst l.op env with
     |some (W,H1,hs',none)=>some (W,H1,hs',some (e=c))
     |some (W,H1,hs',some q)=>some (W,H1,hs',some (e=c/\q))
     |none=>none)=some (W,H1,hs',ob)-> ∃c:Bool,env t= .v (.bool c)/\((c=b/\O3 P r N l.op l.dst env H H1 D W)\/(c≠b/\H1=H/\ ∃d,l.dst=some d/\W=[(d,.v undef)])):=by
    intro a h
    split at h
    ·rename_i i H0 g hx
     simp only[bn,bi]at h
     obtain⟨rfl,rfl,rfl,rfl⟩:=h
     exact⟨e,he,.inl ⟨by rw[o,a],Fu hx trivial⟩⟩
    ·rename_i i H0 g m hx
     simp only[bn,bi]at h
     obtain⟨rfl,rfl,rfl,rfl⟩:=h
     obtain⟨j,k⟩:=o
     exact⟨e,he,.inl ⟨by rw[j,a],Fu hx k⟩⟩
    ·cases h
   have neg:c≠b->(match l.dst with
     |some d=>some ([(d,AV.v undef)],H,hs,some (e=c))
     |none=>none)=some (W,H1,hs',ob)-> ∃c:Bool,env t= .v (.bool c)/\((c=b/\O3 P r N l.op l.dst env H H1 D W)\/(c≠b/\H1=H/\ ∃d,l.dst=some d/\W=[(d,.v undef)])):=by
    intro a h
    split at h
    ·rename_i d hd
     simp only[bn,bi]at h
     obtain⟨rfl,rfl,rfl,rfl⟩:=h
     exact⟨e,he,.inr ⟨by rw[o];exact a,rfl,d,hd,rfl⟩⟩
    ·cases h
   cases c<;>cases b
   ·exact .inl (f rfl h)
   ·exact .inl (neg zj h)
   ·exact .inl (neg zj h)
   ·exact .inl (f rfl h)
  ·grind
  ·cases h
def df (P:Program)(gs:List (Nat×Bool)):List aH->List Hint->Env->Heap->Env×Heap×List aH×List Hint×Prop
 |[],hs,env,H=>(env,H,[],hs,True)
 |l::ls,hs,env,H=>match CR P gs H hs l env with
  |some (W,H1,hs',ob)=>match df P gs ls hs' (dG env W) H1,ob with
   |(e,a,rest,h,o),none=>(e,a,rest,h,o)
   |(e,a,rest,h,o),some p=>(e,a,rest,h,p/\o)
  |none=>(env,H,l::ls,hs,True)
theorem aT.sV {l:aH}(h:LJ P r N l env H H1 D W)(k:aT P r N ls Q (dG env W) H1 D):aT P r N (l::ls) Q env H D:=by
 obtain⟨dst,g,op⟩:=l;unfold LJ at h;cases g with
 |none=>exact aT.cons (aF.mono h zx)
 |some f=>
  obtain⟨t,b⟩:=f;rcases h with⟨c,hc,h⟩|⟨⟨cs,hc⟩,rfl,d,hd,rfl⟩
  ·rcases h with⟨a,h⟩|⟨a,rfl,d,hd,rfl⟩
   ·subst a;exact aT.yes hc (aF.mono h (by rintro e h d ⟨rfl,rfl,rfl⟩;exact k))
   ·simp only at hd;subst hd;exact aT.no hc a k
  ·simp only at hd;subst hd;exact aT.nop hc k
theorem aT.hAppend : ∀{l1 l2:List aH} {hs:List Hint} {env env':Env} {H H':Heap} {hs':List Hint} {ob:Prop},df P gs l1 hs env H=(env',H',[],hs',ob)->ob->aT P r N l2 Q env' H' D->aT P r N (l1++l2) Q env H D
 |[],l2,hs,env,env',H,H',hs',ob,h,o,k=>by
  simp only[df,bi]at h
  obtain⟨rfl,rfl,_,rfl,rfl⟩:=h
  exact k
 |l::ls,l2,hs,env,env',H,H',hs',ob,h,o,k=>by
  simp only[df]at h
  split at h
  ·rename_i W H1 b a hx
   obtain⟨⟨e,f,rest,g,i⟩,d⟩: ∃q,df P gs ls b (dG env W) H1=q:=⟨_,rfl⟩
   rw[d]at h
   have h:(e,f,rest,g,Tz a i)=(env',H',[],hs',ob):=by cases a<;>exact h
   simp only[bi]at h
   obtain⟨rfl,rfl,rfl,rfl,rfl⟩:=h
   obtain⟨j,c⟩:=zM o
   exact aT.sV (wh hx j) (aT.hAppend d c k)
  ·simp only[bi]at h
   obtain⟨_,_,h,_⟩:=h
   cases h
theorem aT.hd {hs:List Hint}(h:df P gs ls hs env H=(env',H',[],hs',ob))(o:ob)(k:Q .normal env' H' D):aT P r N ls Q env H D:=by have:=aT.hAppend (P:=P) (r:=r) (N:=N) (l2:=[]) h o (aT.nil k);rwa [List.append_nil]at this
theorem aJ.hx {hs:List Hint}(h:df P gs ls hs env H=(env',H',[],hs',ob))(o:ob)(k:Q .normal env' H' D):aJ P r N (.ops ls) Q env H D:=aJ.ops (aT.hd h o k)
theorem aJ.shx {y:bN}{hs:List Hint}(h:df P gs ls hs env H=(env',H',[],hs',ob))(o:ob)(k:aJ P r N y Q env' H' D):aJ P r N (.seq (.ops ls) y) Q env H D:=aJ.seq (aJ.hx h o k)
end
theorem Own.frozen {A:Nat->Prop}(l:S.In w){T:Nat}(h:Own A S w b (.arr T k cap es)):
  ∃d:aE,S.Le d/\d.In w/\(∀g,d.has g->S.has g\/g=b)/\es.length<=cap/\cap<=maxLen/\gE d k es b 0:=by
 obtain⟨cur,a,n,f,i,hk,o,m⟩:=h.arr
 refine⟨S.mV b cur,aE.gL h.apart,aE.C5 l a,λg hg=>aE.qK hg,f,i,?_⟩
 refine mB (aS.mono (aE.gL h.apart) _ _ o) hk m ?_
 intro j c e
 show (if b=b then cur[0+j]? else S.cell b (0+j))=some c
 rw[if_pos rfl,cr]
 rw[cb]at e
 split at e
 ·exact e
 ·cases e
theorem Ev.freeze {T:Nat}(h:Ev P f args (.aI T k es)):Ev P f args (.sl k es):=by
 refine⟨h.1,λS w y l m d=>(h.2 S w y l m d).mono ?_⟩;rintro e w' ⟨v,p,g,rfl,i,c,j,a,o⟩;simp only[bF]at o;rcases o with⟨hy,he,_⟩|⟨b,cap,z,hy,n⟩
 ·exact⟨v,p,none,rfl,i,c,j,a,bF.dC rfl (by simp only[aR];exact .inl ⟨⟨_,hy⟩,he⟩)⟩
 ·obtain⟨q,r,s,t,h4,u,x⟩:=n.frozen c;refine⟨v,q,none,rfl,i.trans r,s,λg hg=>?_,a,bF.dC rfl (by simp only[aR];exact .inr ⟨b,0,cap,hy,h4,u,x⟩)⟩;rcases t g hg with h|rfl
  ·grind
  ·exact .inr n.base
variable {t:Nat}
def ez (p q:AV):Prop:= ∀S v,aR S p v->aR S q v
theorem ez.refl (p:AV):ez p p:=λ_ _ h=>h
theorem ez.nil (k:Nat):ez .nil (.sl k []):=λS v h=>by simp only[aR]at h ⊢;exact .inl ⟨⟨_,h⟩,trivial⟩
theorem fC : ∀{l m:List AV} {cs:List Value},fN ez l m->aS S l cs->aS S m cs
 |[],[],cs,_,h=>by simp only[aS]at h ⊢;exact h
 |a::l,b::m,cs,hs,h=>by
  simp only[aS]at h ⊢
  obtain⟨c,d,e,f,g⟩:=h
  exact⟨c,d,e,hs.1 S c f,fC hs.2 g⟩
 |[],_::_,_,h,_=>h.elim
 |_::_,[],_,h,_=>h.elim
section
variable {env:Env}{H:Heap}{D:List Nat}
end
theorem isB {a b:Bool}(h:a=b):a=b:=h
variable {j:Nat}{cs:List AV}
section
variable {C:Ctx}{env:Env}{H:Heap}{D:List Nat}{a:Act}{L:Nat->Option Nat}
theorem Sat.QT (hs:Sat C env H D a w S L){x y:cP}(i:H[j]? =some (b,x))(h: ∀o,Holds S x o->Holds S y o):Sat C env (H.set j (b,y)) D a w S L:=by
 have hk:(H.set j (b,y)).map (·.1)=H.map (·.1):=by
  apply eU;intro k;rw[e4,e4,e5];by_cases e:j=k
  ·grind
  ·rw[if_neg e]
 refine {hs with heap:=?_,nodup:=?_,aI:=?_}
 ·intro e he;rcases dk he with he|rfl
  ·exact hs.heap e he
  ·have c:=hs.at_ i;obtain⟨o,d,f⟩:=c.holds;exact⟨c.base,c.apart,o,d,h o f⟩
 ·rw[bI,hk,<-bI];exact hs.nodup
 ·intro t g e;rw[bI,hk,<-bI];exact hs.aI t g e
end
def O0 (b n cap kk:Nat)(es:List (List AV))(p q:AV):Prop:=p=q\/(p= .so b n cap/\q= .sl kk es)
theorem Gx (h: ∀y,aR S (.so b n cap) y->aR S (.sl kk es) y): ∀{cs a:List AV} {l:List Value},fN (O0 b n cap kk es) cs a->aS S cs l->aS S a l
 |[],[],l,_,f=>by simp only[aS]at f ⊢;exact f
 |p::cs,q::a,l,d,f=>by
  simp only[aS]at f ⊢
  obtain⟨c,i,e,g,h4⟩:=f
  refine⟨c,i,e,?_,Gx h d.2 h4⟩
  rcases d.1 with rfl|⟨rfl,rfl⟩
  ·exact g
  ·exact h c g
 |[],_::_,_,d,_=>d.elim
 |_::_,[],_,d,_=>d.elim
section
variable {env:Env}{H:Heap}{D:List Nat}
theorem bB.mF {T bo To:Nat}(e:List AV)(g:H[i]? =some (b,.arr T kk cap es))(d:(H.eraseIdx i)[j]? =some (bo,.cells To cs))(h:fN (O0 b es.length cap kk es) cs e):
  bB env H D env ((H.eraseIdx i).set j (bo,.cells To e)) D:=by
 intro C a w S L hs
 obtain⟨cur,f,s,k,m,hk,t,p⟩:=(hs.at_ g).arr
 have n:=hs.freeze g f
 refine⟨_,L,aE.gL (hs.at_ g).apart,n.QT d ?_⟩
 rintro o ⟨l,rfl,q,r⟩
 refine⟨l,rfl,Gx ?_ h q,r⟩
 intro y hy
 simp only[aR]at hy ⊢
 refine .inr ⟨b,0,cap,hy,k,m,mB (l:=cur.take (es.length*kk)) (aS.mono (aE.gL (hs.at_ g).apart) _ _ t) hk p (λj c d=>?_)⟩
 rw[cb]at d
 split at d
 ·simp [aE.mV,d]
 ·cases d
theorem bB.vF {bo To:Nat}(b:List AV)(e:H[j]? =some (bo,.cells To cs))(h:fN ez cs b):bB env H D env (H.set j (bo,.cells To b)) D:=by intro C a w S L hs;refine⟨S,L,aE.Le.refl S,hs.QT e ?_⟩;rintro o ⟨l,rfl,c,d⟩;exact⟨l,rfl,fC h c,d⟩
end
variable {d:Nat}
section
variable {r:Option Nat}{N:Nat}{env:Env}{H:Heap}{D:List Nat}{dst:Option Nat}{K:Env->Heap->List Nat->Prop}
theorem aF.Vn {T E bytes:Nat}{l c:Operand}{Y kc:IntKind}{z:List Value}(n cp:Nat){nl Z:Int}(hl:bu env l= .v (.int Y nl))(hc:bu env c= .v (.int kc Z))(I:nl=n)(G:Z=cp)(a1:n<=cp)
  (hb:bytes*cp<=281474976710656) (a0:cp<=9223372036854775807) (R:z.all hB=true)
  (k: ∀b,K (dK env d (.so b (an n (z.map AV.v)).length cp)) ((b,.arr E kk cp (an n (z.map AV.v)))::H) D):aF P r N (.gR T l c E kk bytes z) (some d) env H D K:=by
 intro o s hd F C a w S L hN hs next Q q
 cases F with
 |gR u V W X f=>
  rename_i j
  simp only[not_or]at f
  obtain⟨h0,U⟩:=f
  have m:z.length=j.size:=eT.1 U
  obtain⟨i,v,hi,B,hv⟩:=jx X
  have A:i=j:=zx
  subst A
  have O:v.cells.size=i.size:=zx
  have df:=run_make (P:=P) w T E i v V W B Y kc (n:Int) (cp:Int) zz zz zx zz
  simp only[Int.toNat_natCast]at df
  have g:(madeCells v.cells (cp*i.size)).toList=(an cp z).flatten:=by
   rw[<-O,oA v.cells zz,hv]
  have t:(madeCells v.cells (cp*i.size)).toList.length=cp*i.size:=by
   rw[g];simp [bA,m]
  have h:(madeCells v.cells (cp*i.size)).toList.take (n*i.size)=(an n z).flatten:=by
   rw[g]
   have e:an cp z=an n z++an (cp-n) z:=by rw[List.replicate_append_replicate];congr 1;omega
   rw[e,bx]
   have e2:(an n z).flatten.length=n*i.size:=by simp [bA,m]
   rw[<-e2,List.take_left']
   rfl
  have J:=hs.alloc (x:=.arr E i.size cp (an n (z.map AV.v))) (o:=.cells (madeCells v.cells (cp*i.size)) E (0,0))
   ⟨(madeCells v.cells (cp*i.size)).toList,zx,hG t.symm,zx,by unfold maxLen;omega,zx,by
     rw[cA,h]
     exact iU S z n,by
     intro x hx
     rw[cA,h]at hx
     simp only[fj,eP]at hx
     obtain⟨l,⟨_,rfl⟩,hx⟩:=hx
     exact fb.1 R x hx⟩
  have M:=J.put (d:=d) (de (hN▸hd d rfl) hs.size) (p:=.so w.heap.size (an n (z.map AV.v)).length cp) (y:=.slice (some ⟨w.heap.size,0,none⟩) n cp) rfl (by simp [aR])
  subst I G
  refine Oper.bO (.gR u V W X zx) zj (y:=.slice (some ⟨w.heap.size,0,none⟩) n cp) (w':=w.alloc (.cells (madeCells v.cells (cp*i.size)) E (0,0))) ?_
   (by rw[s];exact q _ _ _ _ _ _ _ (k _) M (aE.Le.refl _))
  simp [execOp,u,hs.int hl,hs.int hc,df]
end
variable {X:Type}{N:Nat}{H0:Heap}
inductive J where
 |go
 |ret
 |exit (id:Nat)
 deriving DecidableEq
def J.code:J->Option Code
 | .go=>none
 | .ret=>some .ret
 | .exit id=>some (.exit id)
def J.ex:J->Exit
 | .go=>.normal
 | .ret=>.ret
 | .exit id=>.exit id
def J.on:J->Bool
 | .go=>true
 |_=>false
def J.st:J->LoopState
 | .go=>.ready
 |_=>.done
section
theorem zX.aab {l:Nat}{fn:FuncId}{env0:Env}{ps:Array Nat}{assign body:Code}{iV:Nat}{RB:J->Heap->Prop}{la lb:bN}(ha:Lc P N assign la)(W:Lc P N body lb)(I:args.length=ps.size)
  (Z: ∀t∈ps.toList,t<N)
  (h:aJ P (some l) N la (λe env' H' D'=>e= .normal/\aJ P (some l) N lb (λe Q H' a6=> ∃j r,e=J.ex j/\RB j r/\r.Sublist H') env' H' D') (ri ps.toList args env0) H1 []):
  zX P l args ((l,.fR .ready none fn N env0 ps assign body iV)::H1) (λres Ho=> ∃j r,RB j r/\res=B j.on/\Ho=(l,.fR j.st j.code fn N env0 ps assign body iV)::r):=by
 intro S w vs v z k i Y
 have m:=i _ (eM ..)
 obtain⟨o,K,tmps,rfl,hN,L⟩:=m.holds
 refine⟨_,K,by simp only;rw[<-I,k.length],?_⟩
 rw[DR]
 obtain⟨O,a⟩:=xo (N:=N) k hN L Z
 generalize (ps.toList.zip vs).foldl (λtmps (x:Nat×Value)=>tmps.setIfInBounds x.1 x.2) tmps=E at O a
 simp only[cD,fx]at Y
 let Hin:Heap:=(l,.fR .ready none fn N env0 ps assign body iV)::H1
 let C:Ctx:={A:=AH w Hin,w0:=w,S0:=S,F:=[(l,.fR .ready none fn N env0 ps assign body iV)],N:=N,hA:=λ_ h=>.inl h,hg:=v,Pm:=v.apart z i,TH:=λb W=>z.lt (v.1 b W)}
 have nl: ∀{S:aE} {p:AV} {y:Value},aR S p y->p.bC=false:=λh=>h.jP
 have hs:Sat C (ri ps.toList args env0) H1 [] {tmps:=E,defers:=[]} w S (λ_=>none):=by
  refine
   {size:=O,uj:=rfl,le:=aE.Le.refl S,sin:=z,ka:=λ_ h=>.inl h,below:=eI.refl _ _,env:=λt=>bF.dC (nl (a t)) (a t),heap:=?_,frame:=?_,nodup:=?_,aI:=zj,gk:=by simp}
  ·intro e he
   exact(i e (eu _ he)).gn (λ_=>.inr (hE.2 ⟨e,eu _ he,rfl⟩))
  ·intro e he
   simp only[C,List.mem_singleton]at he
   subst he
   exact m.gn (λ_=>.inr (hE.2 ⟨_,eM ..,rfl⟩))
  ·grind
 have g: ∀(G:aE) (w':World) (st:LoopState),Own C.A G w' l (.fR st none fn N env0 ps assign body iV)->
   ∃tmps,w'.heap[l]? =some (.loop {state:=st,pending:=none,fn:=fn,tmps:=tmps,params:=ps,assign:=assign,body:=body,defers:=iV})/\N<=tmps.size/\ ∀t,aR G (env0 t) (tmps.getD t undef):=by
  intro G w' st K
  obtain⟨o,K,tmps,rfl,h1,h2⟩:=K.holds
  exact⟨tmps,K,h1,h2⟩
 refine roundIn_of_wpIn trivial<|wpIn_mono (h assign ha C _ w S _ rfl hs) ?_
 rintro e a₁ w₁ ⟨env',H',D',G,L',M,rfl,u⟩
 obtain⟨q,X,T,a0⟩:=g G w₁ .ready (M.frame (l,.fR .ready none fn N env0 ps assign body iV) (by simp [C]))
 have a2:=M.wV (l:=l) (x:=.fR .ready none fn N env0 ps assign body iV) rfl (y:=.fR .busy none fn N env0 ps assign body iV)
  (o:=.loop {state:=.busy,pending:=none,fn:=fn,tmps:=q,params:=ps,assign:=assign,body:=body,defers:=iV}) ⟨q,rfl,T,a0⟩
 refine⟨_,?_,wpIn_mono (u body W _ a₁ _ G L' rfl a2) ?_⟩
 ·simp [Instr.beginRound,cB,getObj,setObj,e9,X]
 rintro e a₂ w₂ ⟨R,a4,a3,H,a5,s,j,r,rfl,V,n⟩
 obtain⟨d,D,U,a1⟩:=g H w₂ .busy (s.frame (l,.fR .busy none fn N env0 ps assign body iV) zj)
 have c:=s.wV (l:=l) (x:=.fR .busy none fn N env0 ps assign body iV) rfl (y:=.fR j.st j.code fn N env0 ps assign body iV)
  (o:=.loop {state:=j.st,pending:=j.code,fn:=fn,tmps:=d,params:=ps,assign:=assign,body:=body,defers:=iV}) ⟨d,rfl,U,a1⟩
 have fin:IY S w Hin (λres Ho=> ∃j r,RB j r/\res=B j.on/\Ho=(l,.fR j.st j.code fn N env0 ps assign body iV)::r) (.returned (.bool j.on))
   {w₂ with heap:=w₂.heap.setIfInBounds l (.loop {state:=j.st,pending:=j.code,fn:=fn,tmps:=d,params:=ps,assign:=assign,body:=body,defers:=iV})}:=by
  refine⟨.bool j.on,H,none,B j.on,_,rfl,⟨j,r,V,rfl,rfl⟩,c.le,c.sin,c.ka,c.below,bF.dC rfl (by simp [aR]),?_,?_,λ_ e=>by cases e⟩
  ·intro e he
   rcases List.mem_cons.1 he with rfl|he
   ·exact c.frame (l,.fR j.st j.code fn N env0 ps assign body iV) zj
   ·exact c.heap e (n.subset he)
  ·have f:=c.nodup
   simp only[bI,cD,e6]at f
   rw[List.nodup_append]at f
   simp only[cD,fx]
   refine⟨λhm=>?_,kB n f.1⟩
   exact f.2.2 l ((n.map _).subset hm) l zj rfl
 cases j with
 |go=>exact⟨.bool true,_,by simp [er,cB,getObj,setObj,e9,D,J.st,J.code],fin⟩
 |ret=>exact⟨.bool false,_,by simp [er,cB,getObj,setObj,e9,D,J.st,J.code],fin⟩
 |exit id=>exact⟨.bool false,_,by simp [er,cB,getObj,setObj,e9,D,J.st,J.code],fin⟩
variable {env:Env}{H:Heap}{D:List Nat}{Q:cI}
theorem aJ.CD {f:Operand}{ps:List Nat}{la lb:bN}{g:FuncId}{first m:List AV}(HS:X->Heap)(x0:X)(Fin:J->X->Prop)(Y:X->List AV->Prop)(Z:X->List AV->J->X->Prop)(env0:Env)
  (hx:bu env f= .fn (.func g) first m) (hH:H=HS x0++H0) (h0: ∀t,env0 t= .any\/(env0 t=env t/\(env t).bC=false)) (b5: ∀t∈ps,t<N)
  (u: ∀l x args,Y x args->args.length=ps.length/\
    aJ P (some l) N la (λe env' H' D'=>e= .normal/\aJ P (some l) N lb (λe _ H' _=> ∃j b,e=J.ex j/\Z x args j b/\(HS b).Sublist H') env' H' D') (ri ps args env0) (HS x) [])
  (z: ∀(l:Nat) (lo:J->cP),(∀x args,Y x args->zX P l args ((l,lo .go)::HS x) (λres Ho=> ∃j b,Z x args j b/\res=B j.on/\Ho=(l,lo j)::HS b))->
    il P g (first++[.fn (.yield l) [] []]++m) ((l,lo .go)::HS x0) (λ_ Ho=> ∃j b,Fin j b/\Ho=(l,lo j)::HS b))
  (k: ∀j b rD,Fin j b->Q j.ex env ((rD,.iV)::(HS b++H0)) (rD::D)):aJ P none N (.wP f ps la lb) Q env H D:=by
 subst hH
 intro c hc C a w S L hN hs
 cases hc with
 |wP ha hb=>
  rename_i i ca q
  refine wpIn_rangeFunc (λfn _=>?_)
  have a5:=hs.cY f hx rfl
  simp only[aR]at a5
  obtain⟨I,cs,c1,a8,a7⟩:=a5
  have b6:=hs.alloc (x:=.iV) (o:=.deferred (some [])) rfl
  have A: ∀t,aR S (env0 t) (a.tmps.getD t undef):=by
   intro t
   rcases h0 t with e|⟨e,hl⟩
   ·rw[e];simp [aR]
   ·rw[e];exact hs.rep rfl hl
  have b':N<=a.tmps.size:=hN▸hs.size
  have n:=b6.alloc (x:=.fR .ready none fn N env0 i ca q w.heap.size)
   (o:=.loop {state:=.ready,pending:=none,fn:=fn,tmps:=a.tmps,params:=i,assign:=ca,body:=q,defers:=w.heap.size}) ⟨a.tmps,rfl,b',A⟩
  generalize hl:(w.alloc (.deferred (some []))).heap.size=l at n
  generalize c0:(w.alloc (.deferred (some []))).alloc (.loop {state:=.ready,pending:=none,fn:=fn,tmps:=a.tmps,params:=i,assign:=ca,body:=q,defers:=w.heap.size})=w2 at n
  let lo:J->cP:=λj=>.fR j.st j.code fn N env0 i ca q w.heap.size
  have M:({a with defers:=[lq w.heap.size]++a.defers}:Act).defers=(w.heap.size::D).map lq++C.base:=by
   show [lq w.heap.size]++a.defers=_
   rw[n.uj]
   rfl
  have b7:Sat C env ((l,lo .go)::(w.heap.size,.iV)::(HS x0++H0)) (w.heap.size::D) {a with defers:=[lq w.heap.size]++a.defers} w2 S L:=
   {n with uj:=M,size:=n.size}
  have p:=b7.DG (H':=((l,lo .go)::HS x0)++((w.heap.size,.iV)::H0)) (by
   rw[fe]
   exact(fk).symm.cons _)
  have hy: ∀x args,Y x args->zX P l args ((l,lo .go)::HS x) (λres Ho=> ∃j b,Z x args j b/\res=B j.on/\Ho=(l,lo j)::HS b):=by
   intro x args hY
   obtain⟨h1,h2⟩:=u l x args hY
   have h3:=zX.aab (RB:=λj H2=> ∃b,Z x args j b/\H2=HS b) (fn:=fn) (env0:=env0) (iV:=w.heap.size) ha hb (by rw[h1];simp) b5 (by
    refine aJ.mono h2 ?_
    rintro e env' H' D' ⟨rfl,h⟩
    refine⟨rfl,aJ.mono h ?_⟩
    rintro e a6 c3 c2 ⟨j,b,rfl,hz,W⟩
    exact⟨j,HS b,rfl,⟨b,hz,rfl⟩,W⟩)
   intro S w vs a0 a1 a2 a3 a4
   obtain⟨lp,b1,b2,b3⟩:=h3 S w vs a0 a1 a2 a3 a4
   refine⟨lp,b1,b2,b3.mono ?_⟩
   rintro e w' ⟨v,G,g,res,F,rfl,⟨j,H2,⟨b,hz,rfl⟩,rfl,rfl⟩,rest⟩
   exact⟨v,G,g,_,_,rfl,⟨j,b,hz,rfl,rfl⟩,rest⟩
  have O:=z l lo hy
  have s:aS S (first++[.fn (.yield l) [] []]++m) (I++[ej (.yield l) #[] #[]]++cs):=
   (a8.append (by simp only[aS,aR];exact⟨_,[],rfl,⟨[],[],rfl,rfl,rfl⟩,rfl⟩)).append a7
  refine⟨l,[lq w.heap.size],w2,{target:=.fn (.func g) cs.toArray,args:=(I++[ej (.yield l) #[] #[]]).toArray},w2,g,(I++[ej (.yield l) #[] #[]]++cs).toArray,w2,?_,?_,λ_ _=>trivial,?_,λhd=>by simp [Fw,hO]at hd,?_⟩
  ·rw[<-hl,<-c0]
   simp [Instr.enterLoop,newObj,e9,Fw,hO,lq]
  ·have e1:a.eval (.const (.func (.yield l) #[] #[]))= .func (.yield l) #[] #[]:=rfl
   simp [resolve,hQ,c1,e1]
  ·have e:(I++[ej (.yield l) #[] #[]]).toArray++cs.toArray=(I++[ej (.yield l) #[] #[]]++cs).toArray:=by
    apply Array.toList_inj.1;simp
   simp only[invoke,e,dI O.1]
  ·refine sz ((O.2 S w2 _ p.gl p.sin s p.kX.1 p.kX.2).mono ?_) none
   rintro e w' ⟨v,G,gg,res,F,rfl,⟨j,b,R,rfl⟩,a',a9,T,K,hr,ho,b4,hg⟩
   obtain⟨L',V⟩:=p.tG (dst:=none) (λd e=>by cases e) a' a9 T K hr ho b4 hg
   have hi:((l,lo j)::HS b++((w.heap.size,cP.iV)::H0))[0]? =some (l,lo j):=rfl
   have U:=V.at_ hi
   obtain⟨o,r,tmps,rfl,c4,c5⟩:=U.holds
   have b0:l<w'.heap.size:=(Array.getElem?_eq_some_iff.1 r).1
   have b8:=V.replace hi (y:=.raw (.loop {state:=.exhausted,pending:=j.code,fn:=fn,tmps:=tmps,params:=i,assign:=ca,body:=q,defers:=w.heap.size}))
    (w':={w' with heap:=w'.heap.setIfInBounds l (.loop {state:=.exhausted,pending:=j.code,fn:=fn,tmps:=tmps,params:=i,assign:=ca,body:=q,defers:=w.heap.size})})
    (o:=.loop {state:=.exhausted,pending:=j.code,fn:=fn,tmps:=tmps,params:=i,assign:=ca,body:=q,defers:=w.heap.size})
    (by simp [b0]) rfl zj (λg hg=>by
      show (w'.heap.setIfInBounds l _)[g]? =w'.heap[g]?
      rw[Array.getElem?_setIfInBounds,if_neg (λe=>hg e.symm)]) rfl rfl rfl
   have b9:=b8.drop 0
   have E:=b9.DG (H':=(w.heap.size,.iV)::(HS b++H0)) (by
    simp only[fe,eS,List.eraseIdx_cons_zero]
    exact fk)
   have hk:=k j b w.heap.size R
   refine⟨j.code,{w' with heap:=w'.heap.setIfInBounds l (.loop {state:=.exhausted,pending:=j.code,fn:=fn,tmps:=tmps,params:=i,assign:=ca,body:=q,defers:=w.heap.size})},?_,?_⟩
   ·cases j<;>simp [Instr.endLoop,cB,getObj,setObj,e9,r,J.st,J.code]
   ·cases j with
    |go=>exact⟨env,_,_,G,L',E,hk⟩
    |ret=>exact wpIn_ret ⟨env,_,_,G,L',E,hk⟩
    |exit id=>exact wpIn_exit ⟨env,_,_,G,L',E,hk⟩
end
variable {kd:IntKind}
section
variable {r:Option Nat}{env:Env}{H:Heap}{D:List Nat}{dst:Option Nat}{K:Env->Heap->List Nat->Prop}
variable {C:Ctx}{a:Act}{L:Nat->Option Nat}
theorem Sat.appendCore {E:Nat}{i:TypeInfo}{v:Value}(hs:Sat C env H D a w S L)(ht:env t= .aI E i.size es)(G:d<a.tmps.size)(a3:v.cells.size=i.size)
  {news:List Value} (r:news.length=ys.length*i.size) (N:aS S ys.flatten news) (M: ∀u∈news,u.oneCell'=true) (Q: ∀e∈ys,e.length=i.size)
  (hn:es.length+ys.length<=9223372036854775807) {run:Sem Value}
  (r0:a.tmps.getD t undef= .slice none 0 0->ys.length=0->run.run P w= .ok (.slice none 0 0) w)
  (r1:a.tmps.getD t undef= .slice none 0 0->es=[]->0<ys.length->run.run P w= .ok (.slice (some ⟨w.heap.size,0,none⟩) ys.length (grownCap w ys.length 0 E)) (w.drew.alloc (.cells (news.toArray++az v.cells (grownCap w ys.length 0 E-ys.length)) E)))
  (r2: ∀(g cap:Nat) (cur:List Value),a.tmps.getD t undef= .slice (some ⟨g,0,none⟩) es.length cap->w.heap[g]? =some (.cells cur.toArray E (0,0))->cap*i.size<=cur.length->es.length+ys.length<=cap->es.length*i.size+news.length<=cur.length->
    run.run P w= .ok (.slice (some ⟨g,0,none⟩) (es.length+ys.length) cap) (w.setRow g (cur.take (es.length*i.size)++news++cur.drop (es.length*i.size+news.length)).toArray))
  (r3: ∀(g cap:Nat) (cur:List Value),a.tmps.getD t undef= .slice (some ⟨g,0,none⟩) es.length cap->cap<es.length+ys.length->(cur.take (es.length*i.size)).length=es.length*i.size->
    (∀j u,(cur.take (es.length*i.size))[j]? =some u->w.cell? ((⟨g,0,none⟩:Addr).add j)=some u)->
    run.run P w= .ok (.slice (some ⟨w.heap.size,0,none⟩) (es.length+ys.length) (grownCap w (es.length+ys.length) cap E))
     (w.drew.alloc (.cells ((cur.take (es.length*i.size)).toArray++news.toArray++az v.cells (grownCap w (es.length+ys.length) cap E-(es.length+ys.length))) E))):
  ∃v' w' A,run.run P w= .ok v' w'/\Sat C (dK (dK env t .any) d (.aI E i.size (es++ys))) H D (a.put (some d) v') w' S A:=by
 have s:=hs.env t
 rw[ht]at s
 have U:=hs.oW (t:=t) (p:=.any) rfl (by simp [aR])
 simp only[bF]at s
 have f: ∀h,es.length+ys.length<=grownCap w (es.length+ys.length) h E/\grownCap w (es.length+ys.length) h E<=maxLen:=
  λh=>⟨grownCap_ge _ _ _ _,grownCap_le_maxLen _ _ _ _ (by unfold maxLen;omega)⟩
 have m: ∀(xs:List Value) (h:Nat),xs.length=es.length*i.size->aS S es.flatten xs->(∀e∈es,e.length=i.size)->(∀c∈xs,c.oneCell'=true)->
   ∃A,Sat C (dK (dK env t .any) d (.aI E i.size (es++ys))) H D (a.put (some d) (.slice (some ⟨w.heap.size,0,none⟩) (es.length+ys.length) (grownCap w (es.length+ys.length) h E)))
    (w.drew.alloc (.cells (xs.toArray++news.toArray++az v.cells (grownCap w (es.length+ys.length) h E-(es.length+ys.length))) E)) S A:=by
  intro xs h o a1 X a0
  have W:Sat C (dK env t .any) H D a w.drew S (gV L t none):=U.world ⟨rfl,rfl,rfl,fs _,λ_ _ _=>rfl⟩ (λ_ _=>rfl) (λ_ _=>rfl) (λ_ _ _=>rfl)
  have B:=W.grow (w':=w.drew.alloc (.cells (xs.toArray++news.toArray++az v.cells (grownCap w (es.length+ys.length) h E-(es.length+ys.length))) E))
   ((hP _ _).alloc (fs _) _)
  refine⟨_,B.lP (d:=d) (g:=some w.heap.size) G ?_ ?_⟩
  ·simp
   refine .inr ⟨w.heap.size,grownCap w (es.length+ys.length) h E,rfl,by rw[ap],?_⟩
   refine Own.Ec (cur:=xs++news++(az v.cells (grownCap w (es.length+ys.length) h E-(es.length+ys.length))).toList) (hs.fresh (fs _)) (λhh=>absurd (hs.sin.lt hh) (ey _))
    ((heap_alloc_new w.drew _).trans zj) ?_ (by rw[ap];exact(f h).1) (f h).2 (by
      intro e he
      rcases bs.1 he with he|he
      ·exact X e he
      ·exact Q e he) (xs:=xs++news) ?_ (by rw[bx];exact a1.append N) (by
      intro c hc
      rcases bs.1 hc with hc|hc
      ·exact a0 c hc
      ·exact M c hc)
   ·have:=(f h).1
    refine hG (Eq.symm ?_)
    simp only[ap,o,r,Array.length_toList,size_zeroCells,a3,<-ds]
    congr 1;omega
   ·rw[ap,ds,<-o,<-r,<-ap]
    exact gx
  ·intro b e
   cases e
   refine⟨λhm=>absurd (hs.qk hm) (ey _),λu _ l=>?_⟩
   simp only[gV]at l
   split at l
   ·cases l
   ·exact absurd (hs.FA l) (ey _)
 rcases s with⟨s,rfl,J⟩|⟨g,cap,J,s,O⟩
 ·by_cases hm:ys.length=0
  ·have a2:ys=[]:=List.eq_nil_of_length_eq_zero hm
   subst a2
   exact⟨.slice none 0 0,w,_,r0 s hm,U.lP (d:=d) (y:=.slice none 0 0) (g:=none) G (by simp [bF]) (λ_ e=>by cases e)⟩
  ·obtain⟨A,q⟩:=m [] 0 zj (by simp [aS]) zj zj
   simp only[fu,cr]at q
   exact⟨_,_,A,by rw[r1 s rfl zz];simp,q⟩
 ·obtain⟨cur,n,R,h2,h3,h4,h5,h6⟩:=O.arr
  by_cases k:es.length+ys.length<=cap
  ·have K:es.length*i.size+news.length<=cur.length:=by
    rw[r,<-ds];exact e7 (bm _ k) R
   have T: ∀b,b≠g->(w.setRow g ((cur.take (es.length*i.size)++news++cur.drop (es.length*i.size+news.length)).toArray)).heap[b]? =w.heap[b]? :=λb V=>setRow_other w g b _ V
   have Y: ∀b,b∈(H++C.F).map (·.1)->b≠g:=λb I e=>hs.aI t g J (e▸I)
   have B:=U.world (w':=w.setRow g ((cur.take (es.length*i.size)++news++cur.drop (es.length*i.size+news.length)).toArray))
    ⟨rfl,rfl,rfl,zj,λb I hA=>T b (λe=>hA (e▸O.base))⟩ (λb I=>T b (λe=>O.apart (e▸I))) (λb I=>T b (Y b I)) (λu b l=>T b (λe=>by
      simp only[gV]at l
      split at l
      ·cases l
      ·rename_i z;exact z (hs.gk u t g (e▸l) J)))
   refine⟨_,_,_,r2 g cap cur s n R k K,B.lP (d:=d) (g:=some g) G ?_ ?_⟩
   ·simp only[bF]
    refine .inr ⟨g,cap,rfl,by rw[ap],?_⟩
    refine Own.Ec O.base O.apart (setRow_heap w g _ _ E (0,0) n) ?_ (by rw[ap];exact k) h3 (by
     intro e he
     rcases bs.1 he with he|he
     ·exact h4 e he
     ·exact Q e he) (xs:=cur.take (es.length*i.size)++news) ?_ (by rw[bx];exact h5.append N) (by
     intro x hx
     rcases bs.1 hx with hx|hx
     ·exact h6 x hx
     ·exact M x hx)
    ·simp only[ap,bk,ea]
     omega
    ·have a4:es.length*i.size<=cur.length:=e7 (bm _ h2) R
     have Z:(cur.take (es.length*i.size)).length=es.length*i.size:=by rw[bk];omega
     have hl:(cur.take (es.length*i.size)++news).length=(es++ys).length*i.size:=by
      rw[ap,Z,r,ap,ds]
     rw[<-hl]
     exact gx
   ·intro b e
    cases e
    refine⟨hs.aI t g J,λu _ l=>?_⟩
    simp only[gV]at l
    split at l
    ·cases l
    ·rename_i z;exact z (hs.gk u t g l J)
  ·have o:(cur.take (es.length*i.size)).length=es.length*i.size:=by rw[bk];exact fy (e7 (bm _ h2) R)
   have holds: ∀j u,(cur.take (es.length*i.size))[j]? =some u->w.cell? ((⟨g,0,none⟩:Addr).add j)=some u:=by
    intro j u z
    rw[addr_add,cr,cell_of_row w g j _ _ _ n]
    rw[cb]at z
    split at z
    ·simpa using z
    ·cases z
   obtain⟨A,q⟩:=m (cur.take (es.length*i.size)) cap o h5 h4 h6
   exact⟨_,_,A,r3 g cap cur s zz o holds,q⟩
abbrev sD (s:ByteArray):List (List AV):=s.data.toList.map λc=>[U c.toNat]
theorem uI (s:ByteArray):(sD s).length=s.size:=by simp_all
theorem Jj (S:aE)(s:ByteArray):aS S (sD s).flatten (c8 s):=by
 unfold sD c8;induction s.data.toList with
 |nil=>simp [aS]
 |cons c l a=>show aS S (U c.toNat::(l.map λc=>[U c.toNat]).flatten) (hC .u8 c.toNat::l.map λc=>hC .u8 c.toNat);exact⟨_,_,rfl,by rw[aR],a⟩
theorem aF.kQ {T q ty E bytes:Nat}{z:List Value}{s:ByteArray}(ht:env t= .aI E 1 es)(hy:bu env y= .v (.string s))
  (hb:(es.length+s.size)*bytes<=140737488355328) (hn:es.length+s.size<=9223372036854775807)
  (k:K (dK (dK env t .any) d (.aI E 1 (es++sD s))) H D):aF P r N (.kQ T q ty (.tmp t) y E 1 bytes z) (some d) env H D K:=by
 intro o A hd G C a w S L hN hs next Q n
 have X:d<a.tmps.size:=de (hN▸hd d rfl) hs.size
 have h:a.eval y= .string s:=hs.int hy
 generalize W:1=kk at G
 cases G with
 |kQ I u x hj hz e=>
  rename_i j
  simp only[not_or]at e
  obtain⟨a0,a2⟩:=e
  obtain⟨i,v,hi,B,a1⟩:=jx hz
  have V:i=j:=zx
  subst V
  have Z:v.cells.size=i.size:=zx
  have p:i.size=1:=W.symm
  have f:=uI s
  have F:=Lib.strCells_length s
  have U:(es.length+s.size)*i.bytes<=140737488355328:=hb
  obtain⟨v',w',L',df,M⟩:=Sat.appendCore (P:=P) (t:=t) (d:=d) (E:=E) (es:=es) (ys:=sD s) (i:=i) (v:=v) hs zx X (by rw[Z,p]) (news:=c8 s) zx (Jj S s) (Lib.strCells_oneCell s)
   zx zx (run:=be #[T,q] o.type #[a.tmps.getD t undef,a.eval y])
   (by
     intro m hm
     rw[f]at hm
     have hf:=Lib.run_firstCells_string (P:=P) w 1 s
     rw[hm]at hf
     rw[m,h]
     simp [be,run_underlying u,run_underlying x,sizeOf,typeInfo,hi,p,Builtin.lenOf,hm,hf])
   (by
     intro m _ hm
     rw[f]at hm ⊢
     rw[m,h]
     have O:=run_append_nil_string (P:=P) w T q o.type E i v u x hi B s hm zz (by
      have:s.size*i.bytes<=(es.length+s.size)*i.bytes:=bm _ zz
      omega)
     have R:(s.data.map λb=>hC .u8 b.toNat)=(c8 s).toArray:=by
      apply hM
      simp [c8]
     rw[R]at O
     exact O)
   (by
     intro g cap cur m J hc c l
     rw[f]at c ⊢
     rw[m,h]
     have O:=Lib.run_append_room_string (P:=P) w T q o.type E i u x hi p g es.length cap cur.toArray J s c (by rw[F,p]at l;simpa using l)
     rw[O,p,F];simp)
   (by
     intro g cap cur m c Y holds
     rw[f]at c ⊢
     rw[m,h]
     exact Lib.run_append_grow_string (P:=P) w T q o.type E i v u x hi B ⟨g,0,none⟩ es.length cap _ Y holds s zz zz (growslice_fits zz U))
  rw[p]at M
  refine Oper.bO (.kQ I u x hj hz zx) zj (y:=v') (w':=w') ?_ (by rw[A];exact n _ _ _ _ _ _ _ k M (aE.Le.refl _))
  have R:a.eval (.tmp t)=a.tmps.getD t undef:=rfl
  simp only[execOp,I,resolve,invoke,builtin,hI,hJ,e8,ff,cD,e6,R,df]
theorem vi (z:Value){i:TypeInfo}(a:z.cells.size=i.size)(b:i.size≠0)(n:Nat):(az z.cells n).toList=(an n z.cells.toList).flatten:=oA z.cells zz n
theorem rR (w:World)(t u E e:TypeId)(i:TypeInfo)(z:Value){D:IntKind}(v:P.underlying t=some (.slice e))(x:P.underlying u=some (.int D))(hi:P.info? e=some i)(y:i.zero=some z)(m:z.cells.size=i.size)(r:i.size≠0)
  (g a d n:Nat) (cur:Array Value) (hg:w.heap[g]? =some (.cells cur e (0,0))) (A: ∀c∈(an n z.cells.toList).flatten,c.oneCell'=true) (C:n<=9223372036854775807) (B:n*i.bytes<=281474976710656)
  (b:a+n<=d) (s:a*i.size+n*i.size<=cur.size):
  (be #[t,u] E #[.slice (some ⟨g,0,none⟩) a d,.int kd n]).run P w=
    .ok (.slice (some ⟨g,0,none⟩) (a+n) d) (w.setRow g (cur.toList.take (a*i.size)++(an n z.cells.toList).flatten++cur.toList.drop (a*i.size+n*i.size)).toArray):=by
 have q:((an n z.cells.toList).flatten).length=n*i.size:=by simp [bA,m]
 have f:=run_storeCells_at P g (a*i.size) e (an n z.cells.toList).flatten 0 cur w hg zx A
 simp only[hF,q]at f
 have p:=vi z m r n
 have o:dl.wrap (n:Int)=n:=gi zz zz
 have l: ¬((n:Int)<0):=zz
 have j: ¬(281474976710656<(n:Int)*i.bytes):=zx
 by_cases k:n=0
 ·subst k
  have o:dl.wrap 0=0:=gi zz zz
  simp [be,run_underlying v,run_underlying x,sizeOf,typeInfo,zeroValue,hi,y,asInt,asIntOf,o,hD]at f b ⊢
  simp [b,f]
 ·have hm: ¬(n*i.size=0):=by
   intro h
   rcases en.1 h with h|h
   ·exact k h
   ·exact r h
  simp [be,run_underlying v,run_underlying x,sizeOf,typeInfo,zeroValue,hi,y,asInt,asIntOf,o,l,j,b,hm,p,hD,f]
theorem uo (w:World)(t u y e:TypeId)(i:TypeInfo)(z:Value){x:IntKind}(q:P.underlying t=some (.slice e))(r:P.underlying u=some (.int x))(hi:P.info? e=some i)(v:i.zero=some z)(k:z.cells.size=i.size)(l:i.size≠0)
  (n:Nat) (p:0<n) (o:n<=9223372036854775807) (m:n*i.bytes<=281474976710656):
  (be #[t,u] y #[.slice none 0 0,.int kd n]).run P w=
    .ok (.slice (some ⟨w.heap.size,0,none⟩) n (grownCap w n 0 e)) (w.drew.alloc (.cells ((an n z.cells.toList).flatten.toArray++az z.cells (grownCap w n 0 e-n)) e)):=by
 have j:=vi z k l n
 have s:dl.wrap (n:Int)=n:=gi zz zz
 have f: ¬((n:Int)<0):=zz
 have b: ¬(281474976710656<(n:Int)*i.bytes):=zx
 have d:n≠0:=zz
 have c: ¬(9223372036854775807<(n:Int)):=zz
 have a: ¬(281474976710656<cR n 0*i.bytes):=by rw[nextslicecap_zero p];omega
 have hm: ¬(n*i.size=0):=by
  intro h
  rcases en.1 h with h|h
  ·exact d h
  ·exact l h
 have g:az z.cells n=(an n z.cells.toList).flatten.toArray:=by rw[<-j]
 simp [be,run_underlying q,run_underlying r,sizeOf,typeInfo,zeroValue,hi,v,asInt,asIntOf,s,f,b,hm,d,c,a,fD,run_firstCells_none,newRow,grownCap]
 rw[g]
theorem rS (w:World)(t u I e:TypeId)(i:TypeInfo)(z:Value){H:IntKind}(D:P.underlying t=some (.slice e))(E:P.underlying u=some (.int H))(hi:P.info? e=some i)(G:i.zero=some z)(s:z.cells.size=i.size)(x:i.size≠0)
  (b:Addr) (a c n:Nat) (d:List Value) (p:d.length=a*i.size) (holds: ∀j v,d[j]? =some v->w.cell? (b.add j)=some v) (hg:c<a+n) (q:n≠0) (B:a+n<=9223372036854775807) (A:n*i.bytes<=281474976710656)
  (y:cR (a+n) c*i.bytes<=281474976710656):
  (be #[t,u] I #[.slice (some b) a c,.int kd n]).run P w=
    .ok (.slice (some ⟨w.heap.size,0,none⟩) (a+n) (grownCap w (a+n) c e))
     (w.drew.alloc (.cells (d.toArray++(an n z.cells.toList).flatten.toArray++az z.cells (grownCap w (a+n) c e-(a+n))) e)):=by
 have r:=vi z s x n
 have F:dl.wrap (n:Int)=n:=gi zz zz
 have l: ¬((n:Int)<0):=zz
 have g: ¬(281474976710656<(n:Int)*i.bytes):=zx
 have C: ¬(a+n<=c):=zz
 have k: ¬(9223372036854775807<((a:Int)+(n:Int))):=zz
 have f: ¬(281474976710656<cR (a+n) c*i.bytes):=zz
 have hm: ¬(n*i.size=0):=by
  intro h
  rcases en.1 h with h|h
  ·exact q h
  ·exact x h
 have m:az z.cells n=(an n z.cells.toList).flatten.toArray:=by rw[<-r]
 have o:=run_firstCells_some (P:=P) w.drew i.size a b a c d p (by simpa using holds)
 simp [be,run_underlying D,run_underlying E,sizeOf,typeInfo,zeroValue,hi,G,asInt,asIntOf,F,l,g,hm,C,k,f,fD,o,newRow,grownCap]
 rw[m]
 congr 2
 apply hM
 simp [dn]
theorem Kh (S:aE)(z:List Value)(n:Nat):aS S (an n (z.map AV.v)).flatten (an n z).flatten:=iU S z n
theorem aF.mn {T I ty E bytes:Nat}{z:List Value}{nn:Int}(n:Nat)(ht:env t= .aI E kk es)(hy:bu env y= .v (.int kd nn))(a0:nn=n)
  (hb:(es.length+n)*bytes<=140737488355328) (hn:es.length+n<=9223372036854775807) (a5:z.all hB=true)
  (k:K (dK (dK env t .any) d (.aI E kk (es++an n (z.map AV.v)))) H D):aF P r N (.mn T I ty (.tmp t) y E kk bytes z) (some d) env H D K:=by
 subst a0
 intro o O hd Y C a w S L hN hs next Q G
 have a2:d<a.tmps.size:=de (hN▸hd d rfl) hs.size
 have q:a.eval y= .int kd n:=hs.int hy
 cases Y with
 |mn R J M hj hz e=>
  rename_i j ku
  simp only[not_or]at e
  obtain⟨B,a6⟩:=e
  obtain⟨i,v,hi,A,a3⟩:=jx hz
  have X:i=j:=zx
  subst X
  have s:v.cells.size=i.size:=zx
  have p:v.cells.toList=z:=by rw[a3]
  have V:z.length=i.size:=eT.1 a6
  have F:(an n z).flatten.length=n*i.size:=by simp [bA,V]
  have f:(an n (z.map AV.v)).length=n:=cA
  have h1: ∀c∈(an n z).flatten,c.oneCell'=true:=by
   intro x hx
   simp only[fj,eP]at hx
   obtain⟨l,⟨_,rfl⟩,hx⟩:=hx
   exact fb.1 a5 x hx
  have W:(es.length+n)*i.bytes<=140737488355328:=hb
  have a8:n*i.bytes<=(es.length+n)*i.bytes:=bm _ zz
  obtain⟨v',w',L',df,a1⟩:=Sat.appendCore (P:=P) (t:=t) (d:=d) (E:=E) (es:=es) (ys:=an n (z.map AV.v)) (i:=i) (v:=v) hs ht a2 s (news:=(an n z).flatten) (by rw[F,f]) (Kh S z n) h1
   zx zx (run:=be #[T,I] o.type #[a.tmps.getD t undef,a.eval y])
   (by
     intro m hm
     rw[f]at hm
     subst hm
     have hw:dl.wrap 0=0:=gi zz zz
     rw[m,q]
     simp [be,run_underlying J,run_underlying M,sizeOf,typeInfo,hi,asInt,asIntOf,hw])
   (by
     intro m _ hm
     rw[f]at hm ⊢
     rw[m,q]
     have:=uo (P:=P) w T I o.type E i v (kd:=kd) J M hi A s B n hm zz zz
     rw[p]at this
     exact this)
   (by
     intro g cap cur m U hc b u
     rw[f]at b ⊢
     rw[m,q]
     have:=rR (P:=P) w T I o.type E i v (kd:=kd) J M hi A s B g es.length cap n cur.toArray U (by rw[p];exact h1) zz zz b (by rw[F]at u;simpa using u)
     rw[p]at this
     rw[this,F])
   (by
     intro g cap cur m b a4 holds
     rw[f]at b ⊢
     rw[m,q]
     by_cases Z:n=0
     ·exfalso
      have:=hs.env t
      rw[ht]at this
      simp only[bF]at this
      rcases this with⟨h,_⟩|⟨g',a7,hL,h,ho⟩
      ·rw[m]at h;cases h
      ·rw[m]at h
       cases h
       obtain⟨_,_,_,h2,_⟩:=ho.arr
       omega
     have:=rS (P:=P) w T I o.type E i v (kd:=kd) J M hi A s B ⟨g,0,none⟩ es.length cap n _ a4 holds zz Z zz zz (growslice_fits zz W)
     rw[p]at this
     exact this)
  refine Oper.bO (.mn R J M hj hz zx) zj (y:=v') (w':=w') ?_ (by rw[O];exact G _ _ _ _ _ _ _ k a1 (aE.Le.refl _))
  have e1:a.eval (.tmp t)=a.tmps.getD t undef:=rfl
  simp only[execOp,R,resolve,invoke,builtin,hI,hJ,e8,ff,cD,e6,e1,df]
end
end Go.Px
