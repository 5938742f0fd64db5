/- Part 2 of the proof of a statement of this seat (a logic of pure contracts; the functions; their contracts). No conditions. -/
import Derived.Test.YtjjmmbcmdheooaaGreatDoorA1
open Array renaming toList_map->ds
open BitVec renaming toNat_ofNat->a6,ofInt->be,ofNat->bi,toNat_and->ea
open Bool renaming and_eq_true->bt,false_eq_true->cr
open Function renaming comp_def->e5
open Go.Act renaming put->e4
open Go.Builtin renaming len_->eM
open Go.Instr renaming sureAddr->ad,indexAt->b1,loadAt->b6,build->eU,field->e0,fill->e3
open Go.IntKind renaming i64->cb,bits->eP
open Go.Op renaming intArith->en,stringOp->e1,intDiv->e7,shift->e8
open Go.Program renaming cellsOf->et
open Go.Result renaming andThen_ok->bn
open Go.Sem renaming run_pure->dn
open Go.Value renaming oneCell'->ew,cells->e2
open Int renaming toNat_natCast->cD
open List renaming getElem?_eq_getElem->ap,mem_cons->a7,mem_of_getElem?->a8,mem_append->bx,getElem?_take->bA,flatten_cons->bI,all_eq_true->b3,length_take->b4,mem_map->b7,map_append->b8,eraseIdx_sublist->b9,map_cons->cc,getElem?_drop->cA,ext_getElem?->c7,getElem?_inj->c8,getElem?_set->de,nodup_append->dk,cons_append->ec,length_drop->ej,replicate->eu
open List.Sublist renaming refl->cR
open Nat renaming mod_eq_of_lt->az,min_eq_left->bk,le_of_ble_eq_true->bs,add_mul->b0,lt_of_lt_of_le->cB,add_zero->dl,and_le_left->er,le_of_lt->eS,succ_mul->eT,ble->e6
open Option renaming map_eq_some_iff->bm,getD_some->ek
open Option.some renaming injEq->an
open Pure renaming pure->ey
namespace Go.Px
variable {p:AV}{S:aE}
def AV.dW:AV->Bool
 | .v x=>x.oneCell'
 | .any| .agg _| .bZ _| .aI _ _ _| .dO _ _| .jr _ _ _ _ _| .lmap _ _=>false
 |_=>true
theorem aR.Li {y:Value}(h:aR S p y)(a:p.dW=true):y.oneCell'=true:=by
 cases p<;>simp only[AV.dW,cr]at a<;>simp only[aR]at h;case v x=>subst h;exact a
 case nil=>subst h;rfl
 case sl=>rcases h with⟨⟨_,rfl⟩,_⟩|⟨_,_,_,rfl,_⟩<;>rfl
 case pi=>obtain⟨_,_,rfl,_⟩:=h;rfl
 case po=>subst h;rfl
 case so=>subst h;rfl
 case mi=>obtain⟨_,_,_,rfl,_⟩:=h;rfl
 case mo=>subst h;rfl
 case fn=>obtain⟨_,_,rfl,_⟩:=h;rfl
 case Vq=>obtain⟨_,rfl,_⟩:=h;rfl
def bQ:AV->List AV
 | .agg l=>l
 |p=>[p]
def AV.cj:AV->Bool
 | .agg _=>true
 |p=>p.dW
theorem Value.FC {y:Value}(h:y.oneCell'=true):y.cells= #[y]:=by cases y<;>simp_all [e2,ew]
theorem aR.cells {y:Value}(h:aR S p y)(a:p.cj=true):aS S (bQ p) y.cells.toList:=by
 cases p;case agg l=>simp only[aR]at h;obtain⟨cs,rfl,h⟩:=h;simpa [e2,bQ]using h
 all_goals
  simp only[AV.cj]at a
  have b:=h.Li a
  rw[Value.FC b]
  simp
  exact⟨y,[],rfl,h,rfl⟩
theorem aS.tc : ∀{l:List AV} {cs:List Value},aS S l cs->l.all AV.dW=true-> ∀c∈cs,c.oneCell'=true
 |[],cs,h,_,c,hc=>by simp only[aS]at h;subst h;simp at hc
 |a::l,cs,h,hl,c,hc=>by
  simp only[aS]at h
  obtain⟨c0,b,rfl,d,e⟩:=h
  simp only[List.all_cons,bt]at hl
  rcases a7.1 hc with rfl|hc
  ·exact d.Li hl.1
  ·exact e.tc hl.2 c hc
def pt (cs:List AV)(off:Nat):List AV->List AV
 |[]=>cs
 |c::l=>pt (cs.set off c) (off+1) l
def gH (cs:List AV):List (Nat×Nat×AV)->Option (List AV)
 |[]=>some cs
 |(off,size,p)::rest=>
  if p.cj&&(bQ p).length==size&&e6 (off+(bQ p).length) cs.length then gH (pt cs off (bQ p)) rest else none
theorem BT : ∀(l:List AV) (d:List Value) (cs:List AV) (b:List Value) (off j:Nat),aS S l d->aS S cs b->
  aS S (pt cs (off+j) l) ((d.zipIdx j).foldl (λcs (c,j)=>cs.set (off+j) c) b)
 |[],d,cs,b,off,j,h,k=>by simp only[aS]at h;subst h;simpa [pt]using k
 |a::l,d,cs,b,off,j,h,k=>by
  simp only[aS]at h
  obtain⟨c,e,rfl,f,g⟩:=h
  simp
  exact BT l e _ _ off (j+1) g (k.set (off+j) f)
theorem ui (l:List (Value×Nat))(off:Nat): ∀(cs:Array Value),(l.foldl (λcs (x:Value×Nat)=>cs.setIfInBounds (off+x.2) x.1) cs).toList=l.foldl (λcs (x:Value×Nat)=>cs.set (off+x.2) x.1) cs.toList:=by
 induction l with
 |nil=>intro cs;rfl
 |cons x l a=>grind
def fN {α β:Type}(R:α->β->Prop):List α->List β->Prop
 |[],[]=>True
 |a::l,b::m=>R a b/\fN R l m
 |_,_=>False
theorem wE {place:Nat->Option (Nat×Nat)}: ∀(ps:List (Nat×Value)) (j:List (Nat×Nat×AV)) (cs:List AV) (a:Array Value) (r:List AV),
  (fN (λp q=>place p.1=some (q.1,q.2.1)/\aR S q.2.2 p.2) ps j)->aS S cs a.toList->gH cs j=some r->
  ∃es:Array Value,e3 place a ps=some es/\aS S r es.toList
 |[],[],cs,a,r,_,k,e=>by simp only[gH,an]at e;subst e;exact⟨a,rfl,k⟩
 |(i,v)::ps,(off,size,p)::j,cs,a,r,h,k,e=>by
  obtain⟨⟨o,s⟩,t⟩:=h
  simp only at o s
  simp only[gH]at e
  split at e
  ·rename_i hc
   simp only[bt,beq_iff_eq,Nat.ble_eq]at hc
   obtain⟨⟨l,d⟩,u⟩:=hc
   have f:=s.cells l
   have g:v.cells.size=size:=by rw[<-d,<-f.length];simp
   have c:a.size=cs.length:=by rw[<-k.length];simp
   have hx:=BT (bQ p) v.cells.toList cs a.toList off 0 f k
   simp only[dl]at hx
   have b:(v.cells.zipIdx.foldl (λcs (x:Value×Nat)=>cs.setIfInBounds (off+x.2) x.1) a).toList=(v.cells.toList.zipIdx 0).foldl (λcs (x:Value×Nat)=>cs.set (off+x.2) x.1) a.toList:=by
    rw[<-Array.foldl_toList,ui];simp
   obtain⟨es,m,n⟩:=wE ps j _ (v.cells.zipIdx.foldl (λcs (x:Value×Nat)=>cs.setIfInBounds (off+x.2) x.1) a) r t (by rw[b];exact hx) e
   refine⟨es,?_,n⟩
   simp only[e3,o]
   rw[if_neg]
   ·exact m
   ·simp only[g,ne_eq,not_true_eq_false,decide_false,Bool.false_or,decide_eq_true_eq,c]
    rw[<-d];omega
  ·cases e
 |[],_::_,_,_,_,h,_,_=>h.elim
 |_::_,[],_,_,_,h,_,_=>h.elim
def eX (n:Option Nat)(cs:List AV):Option AV:=match n with
 |none=>cs.head?
 |some m=>if e6 m cs.length then some (.agg (cs.take m))else none
def jO (n:Option Nat)(off:Nat)(l:List AV):Option AV:=match n with
 |none=>l[off]?
 |some m=>if e6 (off+m) l.length then some (.agg ((l.drop off).take m))else none
def jJ (l:jM)(env:Env):Option AV:=
 match l with
 | .rF x=>match bu env x with
  | .any=>some .any
  | .v x=>some (.v x)
  | .nil=>some .nil
  | .agg l=>some (.agg l)
  | .bZ l=>some (.bZ l)
  | .sl k es=>some (.sl k es)
  | .pi cs=>some (.pi cs)
  | .po b o=>some (.po b o)
  | .so b n c=>some (.so b n c)
  | .aI _ _ _=>none
  | .dO _ _=>none
  | .jr _ _ _ _ _=>none
  | .lmap _ _=>none
  | .mi es=>some (.mi es)
  | .mo b=>some (.mo b)
  | .fn f a c=>some (.fn f a c)
  | .Vq t x=>some (.Vq t x)
 | .bin op _ x y=>match bu env x,bu env y with
  | .v (.int k a),.v (.int g b)=>if k=g then(match op with
   | .eql=>some (.v (.bool (a==b)))
   | .neq=>some (.v (.bool (a !=b)))
   | .lss=>some (.v (.bool (decide (a<b))))
   | .leq=>some (.v (.bool (decide (a<=b))))
   | .gtr=>some (.v (.bool (decide (a>b))))
   | .geq=>some (.v (.bool (decide (a>=b))))
   |_=>none)else none
  | .v (.string a),.v (.string b)=>(match op with
   | .eql=>some (.v (.bool (a.toList==b.toList)))
   | .neq=>some (.v (.bool !(a.toList==b.toList)))
   | .lss=>some (.v (.bool (Op.bytesLess a.toList b.toList)))
   |_=>none)
  |_,_=>none
 | .un .not x=>match bu env x with
  | .v (.bool b)=>some (.v (.bool !b))
  |_=>none
 | .extract x i=>match bu env x with
  | .bZ l=>l[i]?
  |_=>none
 | .oN _ x _ off=>match bu env x with
  | .pi cs=>some (.pi (cs.drop off))
  | .po b o=>some (.po b (o+off))
  |_=>none
 | .load _ x n=>match bu env x with
  | .pi cs=>eX n cs
  |_=>none
 | .field _ x _ off n=>match bu env x with
  | .agg l=>jO n off l
  |_=>none
 | .vv f first d=>if (first.map (bu env)).all (λp=> !p.bC)&&(d.map (bu env)).all (λp=> !p.bC)then some (.fn f (first.map (bu env)) (d.map (bu env)))else none
 | .uM x=>match bu env x with
  | .pi cs=>some (.pi cs)
  | .po b o=>some (.po b o)
  |_=>none
 | .len e _ _ x=>match bu env x,e with
  | .sl _ es,false=>some (.v (.int .i64 es.length))
  | .so _ n _,false=>some (.v (.int .i64 n))
  | .nil,false=>some (.v (.int .i64 0))
  | .v (.slice _ n _),false=>some (.v (.int .i64 n))
  | .v (.string s),true=>some (.v (.int .i64 s.size))
  |_,_=>none
 | .build _ _ z h=>(gH (z.map .v) (h.map λq=>(q.1,q.2.1,bu env q.2.2))).map .agg
 |_=>none
variable {T ty:TypeId}{b off:Nat}{cs:List AV}{x:Operand}
section
variable {P:Program}{env:Env}{H:Heap}{D:List Nat}{C:Ctx}{a:Act}{w:World}{L:Nat->Option Nat}{o:Oper}
theorem eO.aaX {o:Nat}(h:eO S cs b o)(e:cs.head? =some p): ∃c,S.cell b o=some c/\c.oneCell'=true/\aR S p c:=by
 cases cs with
 |nil=>simp at e
 |cons x l=>simp at e;subst e;simp only[eO]at h;exact h.1
theorem Nb (hs:Sat C env H D a w S L){n:Option Nat}(q:Lo P o (.load T x n))(hx:bu env x= .pi cs)
  (f:eX n cs=some p):
  ∃y,(execOp a.eval o).run P w= .ok (.value y) w/\aR S p y:=by
 cases q with
 |load i s=>
  have t:=hs.cY x hx rfl
  simp only[aR]at t
  obtain⟨b,off,u,hc⟩:=t
  cases n with
  |none=>
   simp only[eX]at f
   obtain⟨c,d,_,r⟩:=hc.aaX f
   refine⟨c,?_,r⟩
   have:=pd (P:=P) (w:=w) s (b:=b) (o:=off) (l:=[c]) rfl (by
    intro j g
    have:j=0:=by simp at g;exact g
    subst this
    simpa using hs.sin.cell _ _ _ d)
   simp [execOp,i,b6,ad,u,this]
  |some m=>
   simp only[eX]at f
   split at f
   ·rename_i hm
    cases f
    obtain⟨l,v,_,hi⟩:=hc.cells m (bs hm)
    have h:l.length=m:=by rw[v.length,b4];exact bk (bs hm)
    refine⟨.agg l.toArray,?_,by simp only[aR];exact⟨l,rfl,v⟩⟩
    have:=pd (P:=P) (w:=w) s (b:=b) (o:=off) (l:=l) (by simpa using h) (by
     intro j g
     simp only[ek]at g
     have e:=hi j g
     have k:j<l.length:=zz
     rw[ap k]at e ⊢
     exact hs.sin.cell _ _ _ e)
    simp [execOp,i,b6,ad,u,this]
   ·cases f
theorem B6 {f:Nat}(c:Lo P o (.oN T x f off)){q:Nat}(i:a.eval x= .pointer (some ⟨b,q,none⟩)):
  (execOp a.eval o).run P w= .ok (.value (.pointer (some ⟨b,q+off,none⟩))) w:=by
 cases c with
 |oN d g h hi e=>
  simp [execOp,d,Instr.fieldAt,underlying,g,h,ad,i,fieldPlace,sizeOf,typeInfo,hi,e,addr_add]
theorem wm {n:Option Nat}(a:ya P T=some n){cs:Array Value}{y:Value}
  (h:match n with|none=>cs[off]? =some y|some m=>y= .agg (cs.extract off (off+m))):(part T cs off).run P w= .ok y w:=by
 unfold ya at a
 cases hi:P.info? T with
 |none=>grind
 |some i=>
  cases b:P.underlying T with
  |none=>grind
  |some d=>
   rw[hi,b]at a
   simp only at a
   cases ha:G9 P T with
   |true=>
    rw[ha]at a
    simp only[if_true,an]at a
    subst a
    simp only at h
    subst h
    simp [part,tQ b,ha,sizeOf,typeInfo,hi]
   |false=>
    rw[ha]at a
    simp only[cr,if_false]at a
    split at a
    ·simp only[an]at a
     subst a
     simp only at h
     simp [part,tQ b,ha,h]
    ·cases a
theorem KZ (hs:Sat C env H D a w S L){f:Nat}{n:Option Nat}(i:Lo P o (.field T x f off n)){l:List AV}(hx:bu env x= .agg l)
  (b:jO n off l=some p):
  ∃y,(execOp a.eval o).run P w= .ok (.value y) w/\aR S p y:=by
 cases i with
 |field d j k q=>
  have r:=hs.cY x hx rfl
  simp only[aR]at r
  obtain⟨cs,s,hc⟩:=r
  cases n with
  |none=>
   simp only[jO]at b
   obtain⟨c,g,h⟩:=hc.get b
   refine⟨c,?_,h⟩
   have:=wm (P:=P) (w:=w) q (cs:=cs.toArray) (y:=c) (by simpa using g)
   simp [execOp,d,e0,underlying,j,k,s,asAgg,this]
  |some m=>
   simp only[jO]at b
   split at b
   ·cases b
    rename_i t e _
    refine⟨.agg ((cs.drop e.offset).take m).toArray,?_,by simp only[aR];exact⟨_,rfl,(hc.drop _).take m⟩⟩
    have:=wm (P:=P) (w:=w) q (cs:=cs.toArray) (off:=e.offset) (y:=.agg ((cs.drop e.offset).take m).toArray) (by simp [List.extract_toArray,List.extract_eq_take_drop])
    simp [execOp,d,e0,underlying,j,k,s,asAgg,this]
   ·cases b
theorem pM {e:Bool}(g:Lo P o (.len e T ty x)):
  (∀{b n c},a.eval x= .slice b n c->e=false->(execOp a.eval o).run P w= .ok (.value (.int .i64 n)) w)/\
  (∀{s},a.eval x= .string s->e=true->(execOp a.eval o).run P w= .ok (.value (.int .i64 s.size)) w):=by
 cases g with
 |aat d f=>
  constructor
  ·grind
  ·intro s h _
   simp [execOp,d,resolve,invoke,builtin,eM,underlying,f,h,goInt]
 |Z1 d f=>
  constructor
  ·intro b n c h _
   simp [execOp,d,resolve,invoke,builtin,eM,underlying,f,h,goInt]
  ·grind
end
variable {y:Operand}{P:Program}{k:Nat}
section
variable {env:Env}{H:Heap}{D:List Nat}{C:Ctx}{a:Act}{w:World}{L:Nat->Option Nat}{o:Oper}
theorem Sat.int (hs:Sat C env H D a w S L){v:Value}(e:bu env x= .v v):a.eval x=v:=by have:=hs.cY x e rfl;simpa only[aR]using this
theorem mM {op:BinOp}(b:Lo P o (.bin op T x y)){k:IntKind}{m n:Int}(hx:a.eval x= .int k m)(hy:a.eval y= .int k n):
  (execOp a.eval o).run P w=((binOp op T (.int k m) (.int k n)).run P w).andThen λv w'=>.ok (.value v) w':=by
 cases b with
 |bin c d _=>
  cases op<;>simp [execOp,c,hx,hy,eqGuard]
theorem yL {op:BinOp}(b:Lo P o (.bin op T x y)){m n:ByteArray}(hx:a.eval x= .string m)(hy:a.eval y= .string n):
  (execOp a.eval o).run P w=((e1 op m n).run P w).andThen λv w'=>.ok (.value v) w':=by
 cases b with
 |bin c d _=>
  cases op<;>simp [execOp,c,hx,hy,eqGuard,binOp]
theorem Bg {g:Array Field}: ∀(ps:List (Nat×Operand)) (d:List (Nat×Nat×Operand)),kD P g ps=some d->
  ∀{b:Array (Nat×Nat)},(∀(f:Nat) (c:Field) (i:TypeInfo),g[f]? =some c->P.info? c.type=some i->b[f]? =some (c.offset,i.size))->
  ∀(_:Sat C env H D a w S L),(∀q∈d,(bu env q.2.2).bC=false)->
  fN (λ(p:Nat×Value) (q:Nat×Nat×AV)=>b[p.1]? =some (q.1,q.2.1)/\aR S q.2.2 p.2) (ps.map λp=>(p.1,a.eval p.2)) (d.map λq=>(q.1,q.2.1,bu env q.2.2))
 |[],d,e,_,_,_,_=>by simp only[kD,an]at e;subst e;simp [fN]
 |(f,x)::l,d,e,b,h,hs,hl=>by
  simp only[kD]at e
  split at e
  ·rename_i c r k o
   simp only[bm]at e
   obtain⟨j,m,rfl⟩:=e
   simp
   refine⟨⟨h f c j k m,hs.cY x rfl (hl _ (a7.2 (.inl rfl)))⟩,?_⟩
   exact Bg l r o h hs (λq n=>hl q (a7.2 (.inr n)))
  ·cases e
theorem mT {cs:List AV}: ∀{a:List (Nat×Nat×AV)} {r:List AV},gH cs a=some r-> ∀q∈a,q.2.2.bC=false
 |[],_,_,q,h=>by cases h
 |(off,size,p)::rest,r,e,q,h=>by
  simp only[gH]at e
  split at e
  ·rename_i hc
   simp only[bt]at hc
   rcases a7.1 h with rfl|h
   ·cases p<;>simp_all [AV.bC,AV.cj,AV.dW]
   ·exact mT e q h
  ·cases e
theorem jz {z:List Value}(h:zeroOf P T=some z): ∃v,(zeroValue T).run P w= .ok v w/\v.cells=z.toArray:=by
 unfold zeroOf at h;cases hi:P.info? T with
 |none=>grind
 |some i=>rw[hi]at h;simp only[bm]at h;obtain⟨v,a,rfl⟩:=h;exact⟨v,by simp [zeroValue,typeInfo,hi,a],zj⟩
theorem uC {α β:Type}{f:α->Sem β}{g:α->β}: ∀(l:List α),(∀x∈l,(f x).run P w= .ok (g x) w)->(l.mapM f).run P w= .ok (l.map g) w
 |[],_=>zj
 |x::l,h=>by
  rw[List.mapM_cons]
  simp [h x zj,uC l (λy hy=>h y (by simp [hy]))]
theorem AX {α β:Type}{f:α->Sem β}{g:α->β}(l:Array α)(h: ∀x∈l.toList,(f x).run P w= .ok (g x) w):(l.mapM f).run P w= .ok (l.map g) w:=by rw[Array.mapM_eq_mapM_toList];simp only[Sem.run_map,uC l.toList h,bn];congr 1;apply Array.toList_inj.1;simp
theorem run_places {b:Array Field}(c:b.toList.all (λf=>(P.info? f.type).isSome)=true):
  ∃a:Array (Nat×Nat),(b.mapM (λf=>Prod.mk f.offset<$>sizeOf f.type:Field->Sem (Nat×Nat))).run P w= .ok a w/\
   ∀(f:Nat) (d:Field) (i:TypeInfo),b[f]? =some d->P.info? d.type=some i->a[f]? =some (d.offset,i.size):=by
 refine⟨b.map (λf=>(f.offset,P.cellsOf f.type)),AX b ?_,?_⟩
 ·intro f e
  have:=b3.1 c f e
  obtain⟨i,hi⟩:=Option.isSome_iff_exists.1 this
  simp [sizeOf,typeInfo,hi,et]
 ·intro f d i e hi
  simp [e,et,hi]
theorem tg : ∀(ps:List (Nat×Operand)) (_:Sat C env H D a w S L),(∀p∈ps,(bu env p.2).bC=false)->
  fN (λ(p:Nat×Value) (q:Nat×Nat×AV)=>(λi=>some (i*k,k)) p.1=some (q.1,q.2.1)/\aR S q.2.2 p.2) (ps.map λp=>(p.1,a.eval p.2)) (ps.map λp=>(p.1*k,k,bu env p.2))
 |[],_,_=>by simp [fN]
 |(f,x)::l,hs,hl=>by
  simp only[cc,fN]
  exact⟨⟨zj,hs.cY x rfl (hl (f,x) zj)⟩,tg l hs (λq b=>hl q (by simp [b]))⟩
theorem Jw (hs:Sat C env H D a w S L){ps:List (Nat×Operand)}{z:List Value}{F:List (Nat×Nat×Operand)}(t:Lo P o (.build T ps z F)){r:List AV}
  (l:gH (z.map .v) (F.map λq=>(q.1,q.2.1,bu env q.2.2))=some r): ∃y,(execOp a.eval o).run P w= .ok (.value y) w/\aR S (.agg r) y:=by
 have h:=mT l
 cases t with
 |Pv d B s g A=>
  obtain⟨v,e,f⟩:=jz (P:=P) (w:=w) B
  obtain⟨m,u,x⟩:=run_places (P:=P) (w:=w) g
  obtain⟨es,b,c⟩:=wE (S:=S) _ _ _ (z.toArray) r (Bg _ _ A x hs (λq J=>h (q.1,q.2.1,bu env q.2.2) (b7.2 ⟨q,J,rfl⟩))) (by simpa using qx S z) l
  refine⟨.agg es,?_,by simp only[aR];exact⟨es.toList,zj,c⟩⟩
  simp [execOp,d,eU,e,f,underlying,s,u,b]
 |PA d B s I=>
  obtain⟨v,e,f⟩:=jz (P:=P) (w:=w) B
  rename_i ps n E j
  simp only[List.map_map,e5]at l
  have G:=tg (k:=j.size) ps.toList hs (λp K=>h (p.1*j.size,j.size,bu env p.2) zx)
  obtain⟨es,b,c⟩:=wE (S:=S) (place:=λi=>some (i*j.size,j.size)) _ _ _ (z.toArray) r G (by simpa using qx S z) l
  refine⟨.agg es,?_,by simp only[aR];exact⟨es.toList,zj,c⟩⟩
  simp [execOp,d,eU,e,f,underlying,s,sizeOf,typeInfo,I,b]
end
variable {Q:cI}{dst r:Option Nat}{N:Nat}{K:Env->Heap->List Nat->Prop}
section
variable {env:Env}{H:Heap}{D:List Nat}{C:Ctx}{a:Act}{w:World}{L:Nat->Option Nat}{o:Oper}
theorem Ft (b:Lo P o (.rF x)):(execOp a.eval o).run P w= .ok (.value (a.eval x)) w:=by
 cases b with
 |rF h=>rcases h with h|h<;>simp [execOp,h]
theorem SL (hs:Sat C env H D a w S L)(b:Lo P o (.rF x))(hx:bu env x=p)(c:p.bC=false):
 ∃y,(execOp a.eval o).run P w= .ok (.value y) w/\aR S p y:=⟨_,Ft b,hs.cY x hx c⟩
theorem Rc (hs:Sat C env H D a w S L){op:BinOp}(b:Lo P o (.bin op T x y))(h:jJ (.bin op T x y) env=some p):
  ∃y,(execOp a.eval o).run P w= .ok (.value y) w/\aR S p y:=by
 simp only[jJ]at h
 split at h
 ·rename_i k m d n hx hy
  split at h
  ·rename_i hk
   subst hk
   have c:=mM (P:=P) (w:=w) b (hs.int hx) (hs.int hy)
   cases op<;>simp only at h<;>cases h<;>exact⟨_,by rw[c];simp [binOp,Op.intCmp];rfl,by simp [aR]⟩
  ·cases h
 ·rename_i m n hx hy
  have c:=yL (P:=P) (w:=w) b (hs.int hx) (hs.int hy)
  cases op<;>simp only at h<;>cases h<;>exact⟨_,by rw[c];simp [e1];rfl,by simp [aR]⟩
 ·cases h
theorem Q2 (hs:Sat C env H D a w S L){l:jM}(d:Lo P o l)(h:jJ l env=some p):
  ∃y,(execOp a.eval o).run P w= .ok (.value y) w/\aR S p y:=by
 cases l
 case rF x=>
  simp only[jJ]at h
  split at h
  all_goals first
   |cases h;done
   |(rename_i hx;cases h;exact SL hs d hx rfl)
 case bin=>exact Rc hs d h
 case un op x=>
  cases op<;>simp only[jJ]at h<;>first|cases h;done|skip
  split at h
  ·rename_i b hx
   cases h
   cases d with
   |un g=>exact⟨_,by simp [execOp,g,hs.int hx,Op.unary];rfl,by simp [aR]⟩
  ·cases h
 case extract x i=>
  simp only[jJ]at h
  split at h
  ·rename_i l hx
   have e:=hs.cY x hx rfl
   simp only[aR]at e
   obtain⟨cs,m,hc⟩:=e
   obtain⟨c,t,u⟩:=hc.get h
   cases d with
   |extract g=>exact⟨c,by simp [execOp,g,m,Instr.extract,t],u⟩
  ·cases h
 case oN T x f off=>
  simp only[jJ]at h
  split at h
  ·rename_i cs hx
   cases h
   have e:=hs.cY x hx rfl
   simp only[aR]at e
   obtain⟨b,q,m,hc⟩:=e
   exact⟨_,B6 d m,by simp only[aR];exact⟨b,q+off,rfl,hc.drop off⟩⟩
  ·rename_i b q hx
   cases h
   have e:=hs.cY x hx rfl
   simp only[aR]at e
   exact⟨_,B6 d e,by simp [aR]⟩
  ·cases h
 case load T x n=>
  simp only[jJ]at h
  split at h
  ·rename_i cs hx;exact Nb hs d hx h
  ·cases h
 case field T x f off n=>
  simp only[jJ]at h
  split at h
  ·rename_i l hx;exact KZ hs d hx h
  ·cases h
 case vv f first v=>
  simp only[jJ]at h
  split at h
  ·rename_i hc
   cases h
   simp only[bt,b3,Bool.not_eq_true']at hc
   cases d with
   |vv g=>
    rename_i fa ca
    refine⟨_,by simp [execOp,g,Instr.makeFunc];rfl,?_⟩
    simp only[aR]
    exact⟨fa.toList.map a.eval,ca.toList.map a.eval,by simp [<-ds],hs.sj fa.toList rfl hc.1,hs.sj ca.toList rfl hc.2⟩
  ·cases h
 case uM x=>
  simp only[jJ]at h
  split at h
  ·rename_i cs hx
   cases h
   have e:=hs.cY x hx rfl
   have j:=e
   simp only[aR]at j
   obtain⟨b,q,m,_⟩:=j
   cases d with
   |uM g=>exact⟨a.eval x,by simp [execOp,g,m],e⟩
  ·rename_i b q hx
   cases h
   have e:=hs.cY x hx rfl
   have j:=e
   simp only[aR]at j
   cases d with
   |uM g=>exact⟨a.eval x,by simp [execOp,g,j],e⟩
  ·cases h
 case len A T F x=>
  simp only[jJ]at h
  split at h
  ·rename_i k es hx
   cases h
   have e:=hs.cY x hx rfl
   simp only[aR]at e
   rcases e with⟨⟨_,m⟩,he⟩|⟨b,q,cap,m,_⟩
   ·subst he;exact⟨_,(pM d).1 m rfl,by simp [aR]⟩
   ·exact⟨_,(pM d).1 m rfl,by simp [aR]⟩
  ·rename_i b n cap hx
   cases h
   have e:=hs.cY x hx rfl
   simp only[aR]at e
   exact⟨_,(pM d).1 e rfl,by simp [aR]⟩
  ·rename_i hx
   cases h
   have e:=hs.cY x hx rfl
   simp only[aR]at e
   exact⟨_,(pM d).1 e rfl,by simp [aR]⟩
  ·rename_i B n c hx
   cases h
   exact⟨_,(pM d).1 (hs.int hx) rfl,by simp [aR]⟩
  ·rename_i s hx
   cases h
   exact⟨_,(pM d).2 (hs.int hx) rfl,by simp [aR]⟩
  ·cases h
 case build T ps z E=>
  simp only[jJ,bm]at h
  obtain⟨r,e,rfl⟩:=h
  exact Jw hs d e
 all_goals (simp only[jJ]at h;cases h)
theorem zo {l:jM}(h:jJ l env=some p): ∀op,l≠.other op:=by rintro op rfl;simp [jJ]at h
theorem aF.plain {l:jM}(h:jJ l env=some p)(b:p.bC=false)
  (k:K (ct env dst p) H D):aF P r N l dst env H D K:=
 aF.pure b (zo h) (λ_ a _ _ _ _ _ hs=>Q2 hs a h) k
end
variable {cap kk m:Nat}{kd:IntKind}{es:List (List AV)}
section
variable {env:Env}{H:Heap}{D:List Nat}
theorem gi {n:Int}(a: -9223372036854775808<=n)(b:n<=9223372036854775807):cb.wrap n=n:=by have:=IntWalk.i64_in n ⟨a,b⟩;exact this
theorem aF.add {a b:Int}(hx:bu env x= .v (.int .i64 a))(hy:bu env y= .v (.int .i64 b))(d: -9223372036854775808<=a+b)(e:a+b<=9223372036854775807)
  (k:K (ct env dst (.v (.int .i64 (a+b)))) H D):aF P r N (.bin .add T x y) dst env H D K:=
 aF.pure rfl zj (λo c C f w S L hs=>⟨_,by
  rw[mM c (hs.int hx) (hs.int hy)]
  simp only[binOp,en,ne_eq,not_true_eq_false,if_false,dn,bn,gi d e];rfl,by simp [aR]⟩) k
theorem aF.sub {a b:Int}(hx:bu env x= .v (.int .i64 a))(hy:bu env y= .v (.int .i64 b))(d: -9223372036854775808<=a-b)(e:a-b<=9223372036854775807)
  (k:K (ct env dst (.v (.int .i64 (a-b)))) H D):aF P r N (.bin .sub T x y) dst env H D K:=
 aF.pure rfl zj (λo c C f w S L hs=>⟨_,by
  rw[mM c (hs.int hx) (hs.int hy)]
  simp only[binOp,en,ne_eq,not_true_eq_false,if_false,dn,bn,gi d e];rfl,by simp [aR]⟩) k
theorem aF.mul {a b:Int}(hx:bu env x= .v (.int .i64 a))(hy:bu env y= .v (.int .i64 b))(d: -9223372036854775808<=a*b)(e:a*b<=9223372036854775807)
  (k:K (ct env dst (.v (.int .i64 (a*b)))) H D):aF P r N (.bin .mul T x y) dst env H D K:=
 aF.pure rfl zj (λo c C f w S L hs=>⟨_,by
  rw[mM c (hs.int hx) (hs.int hy)]
  simp only[binOp,en,ne_eq,not_true_eq_false,if_false,dn,bn,gi d e];rfl,by simp [aR]⟩) k
theorem aF.I8 {op:BinOp}{a b:Int}{v:Value}(hx:bu env x= .v (.int kd a))(hy:bu env y= .v (.int kd b))
  (h: ∀w:World,(binOp op T (.int kd a) (.int kd b)).run P w= .ok v w) (k:K (ct env dst (.v v)) H D):aF P r N (.bin op T x y) dst env H D K:=
 aF.pure rfl zj (λo c C d w S L hs=>⟨v,by rw[mM c (hs.int hx) (hs.int hy),h];rfl,by simp [aR]⟩) k
theorem aF.quo {a:Nat}(hx:bu env x= .v (.int .i64 a))(hy:bu env y= .v (.int .i64 b))(d:(a:Int)<=9223372036854775807)(e:0<b)
  (k:K (ct env dst (.v (.int .i64 ((a/b:Nat):Int)))) H D):aF P r N (.bin .quo T x y) dst env H D K:=
 aF.I8 hx hy (λw=>by
  have c: ¬(b:Int)=0:=zz
  have hd:(a/b:Nat)<=a:=Nat.div_le_self _ _
  simp only[binOp,e7,ne_eq,not_true_eq_false,if_false,c]
  rw[show (a:Int).tdiv (b:Int)=((a/b:Nat):Int)from rfl]
  generalize a/b=q at hd ⊢
  rw[gi zz zz]
  rfl) k
theorem aF.rem {a:Nat}(hx:bu env x= .v (.int kd a))(hy:bu env y= .v (.int kd b))(d:0<b)
  (k:K (ct env dst (.v (.int kd ((a%b:Nat):Int)))) H D):aF P r N (.bin .rem T x y) dst env H D K:=
 aF.I8 hx hy (λw=>by
  have c: ¬(b:Int)=0:=zz
  simp only[binOp,e7,ne_eq,not_true_eq_false,if_false,c]
  rfl) k
theorem nO (a:Nat):be 64 (a:Int)=bi 64 a:=zj
theorem aF.and {a:Nat}(hx:bu env x= .v (.int .i64 a))(hy:bu env y= .v (.int .i64 b))(c:a<9223372036854775808)(d:b<9223372036854775808)
  (k:K (ct env dst (.v (.int .i64 ((a &&& b:Nat):Int)))) H D):aF P r N (.bin .and T x y) dst env H D K:=
 aF.I8 hx hy (λw=>by
  have e:a &&& b<=a:=er
  show ((ey (.int .i64 (cb.wrap ((be 64 (a:Int) &&& be 64 (b:Int)).toNat:Int))):Sem Value)).run P w=_
  rw[nO,nO,ea,a6,a6,az (show a<2^64 from zz),az (show b<2^64 from zz),gi zz zz]
  rfl) k
theorem aF.or {a:Nat}(hx:bu env x= .v (.int .i64 a))(hy:bu env y= .v (.int .i64 b))(c:a<2^63)(d:b<2^63)
  (k:K (ct env dst (.v (.int .i64 ((a ||| b:Nat):Int)))) H D):aF P r N (.bin .or T x y) dst env H D K:=
 aF.I8 hx hy (λw=>by
  have e:a ||| b<2^63:=Nat.or_lt_two_pow c d
  show ((ey (.int .i64 (cb.wrap ((be 64 (a:Int) ||| be 64 (b:Int)).toNat:Int))):Sem Value)).run P w=_
  rw[nO,nO,BitVec.toNat_or,a6,a6,az (show a<2^64 from zz),az (show b<2^64 from zz),gi zz zz]
  rfl) k
theorem aF.andNot {a:Nat}(hx:bu env x= .v (.int .i64 a))(hy:bu env y= .v (.int .i64 b))(d:a<9223372036854775808)
  (k:K (ct env dst (.v (.int .i64 (((bi 64 a &&& ~~~ bi 64 b).toNat:Nat):Int)))) H D):aF P r N (.bin .andNot T x y) dst env H D K:=
 aF.I8 hx hy (λw=>by
  have c:(bi 64 a &&& ~~~ bi 64 b).toNat<=a:=by
   rw[ea,a6,az (show a<2^64 from zz)]
   exact er
  show ((ey (.int .i64 (cb.wrap ((be 64 (a:Int) &&& ~~~ be 64 (b:Int)).toNat:Int))):Sem Value)).run P w=_
  rw[nO,nO]
  generalize (bi 64 a &&& ~~~ bi 64 b).toNat=q at c ⊢
  rw[gi zz zz]
  rfl) k
theorem aF.shl {a:Nat}(hx:bu env x= .v (.int .i64 a))(hy:bu env y= .v (.int .i64 b))(d:b<64)(e:a*2^b<9223372036854775808)
  (k:K (ct env dst (.v (.int .i64 ((a*2^b:Nat):Int)))) H D):aF P r N (.bin .shl T x y) dst env H D K:=
 aF.I8 hx hy (λw=>by
  have c: ¬(b:Int)<0:=zz
  simp only[binOp,e8,c,if_false,eP,cD,bk (eS d)]
  rw[show (a:Int)*2^b=((a*2^b:Nat):Int)from zj,gi zz zz]
  rfl) k
theorem aF.shr {a:Nat}(hx:bu env x= .v (.int .i64 a))(hy:bu env y= .v (.int .i64 b))(d:b<64)
  (k:K (ct env dst (.v (.int .i64 ((a/2^b:Nat):Int)))) H D):aF P r N (.bin .shr T x y) dst env H D K:=
 aF.I8 hx hy (λw=>by
  have c: ¬(b:Int)<0:=zz
  simp only[binOp,e8,c,if_false,eP,cD,bk (eS d)]
  rw[show (2:Int)^b=((2^b:Nat):Int)from zj,Int.fdiv_eq_ediv_of_nonneg _ (Int.natCast_nonneg _)]
  rfl) k
theorem aF.SM {c:Operand}{b:Bool}(hc:bu env c= .v (.bool b))(f:b=true)(hx:bu env x=p)(e:p.bC=false)(k:K (ct env dst p) H D):
  aF P r N (.pick c x y) dst env H D K:=
 aF.pure e zj (λo a C g w S L hs=>⟨_,by
  cases a with
  |pick d=>simp [execOp,d,hs.int hc,f,asBool],hs.cY x hx e⟩) k
theorem aF.aan {c:Operand}{b:Bool}(hc:bu env c= .v (.bool b))(f:b=false)(hx:bu env y=p)(e:p.bC=false)(k:K (ct env dst p) H D):
  aF P r N (.pick c x y) dst env H D K:=
 aF.pure e zj (λo a C g w S L hs=>⟨_,by
  cases a with
  |pick d=>simp [execOp,d,hs.int hc,f,asBool],hs.cY y hx e⟩) k
theorem aF.toInt {e:IntKind}{src:TypeId}{n m:Int}(hx:bu env x= .v (.int e n))(hm:kd.wrap n=m)(k:K (ct env dst (.v (.int kd m))) H D):
  aF P r N (.toInt kd src T x) dst env H D K:=
 aF.pure rfl zj (λo a C f w S L hs=>⟨.int kd m,by
  cases a with
  |toInt b c d=>simp [execOp,b,hs.int hx,convert,underlying,c,d,Conv.intToInt,hm],by simp [aR]⟩) k
theorem gE.get : ∀{es:List (List AV)} {b o:Nat},gE S kk es b o-> ∀{m:Nat} {e:List AV},es[m]? =some e->eO S e b (o+m*kk)/\e.length=kk
 |[],_,_,_,m,e,h=>by simp at h
 |l::es,b,o,a,m,e,h=>by
  simp only[gE]at a
  cases m with
  |zero=>simp at h;subst h;simpa using ⟨a.2.1,a.1⟩
  |succ m=>
   have:=a.2.2.get (m:=m) (e:=e) (by simpa using h)
   rw[show o+(m+1)*kk=o+kk+m*kk by rw[b0];omega]
   exact this
theorem iD {α:Type}{l:List α}{e:α}(h:l[m]? =some e):m<l.length:=(List.getElem?_eq_some_iff.1 h).1
theorem aF.ni {i:Operand}{n:Int}(m:Nat){e:List AV}(hx:bu env x= .sl kk es)(hi:bu env i= .v (.int kd n))(l:n=m)
  (he:es[m]? =some e) (k:K (ct env dst (.pi e)) H D):aF P r N (.ni T x i kk) dst env H D K:=
 aF.pure rfl zj (λo a C q w S L hs=>by
  have f:=hs.cY x hx rfl
  simp only[aR]at f
  rcases f with⟨_,s⟩|⟨b,off,cap,p,_,_,g⟩
  ·grind
  ·have c:=iD he
   refine⟨.pointer (some ⟨b,off+m*kk,none⟩),?_,by simp only[aR];exact⟨b,_,rfl,(g.get he).1⟩⟩
   cases a with
   |ni d h j=>
    subst l
    simp [execOp,d,b1,hs.int hi,asIntOf,underlying,h,p,c,sizeOf,typeInfo,j,addr_add]) k
theorem aF.kq {i:Operand}{len:Nat}{n:Int}(m:Nat)(hx:bu env x= .pi cs)(hi:bu env i= .v (.int kd n))(h:n=m)(hm:m<len)
  (k:K (ct env dst (.pi (cs.drop (m*kk)))) H D):aF P r N (.kq T x i len kk) dst env H D K:=
 aF.pure rfl zj (λo a C l w S L hs=>by
  have d:=hs.cY x hx rfl
  simp only[aR]at d
  obtain⟨b,off,j,e⟩:=d
  refine⟨.pointer (some ⟨b,off+m*kk,none⟩),?_,by simp only[aR];exact⟨b,_,rfl,e.drop _⟩⟩
  cases a with
  |kq c f p g=>
   subst h
   simp [execOp,c,b1,hs.int hi,asIntOf,underlying,f,j,ad,hm,sizeOf,typeInfo,g,addr_add]) k
theorem aF.VV {i:Operand}{len:Nat}{n:Int}(m:Nat)(hx:bu env x= .po b off)(hi:bu env i= .v (.int kd n))(g:n=m)(hm:m<len)
  (k:K (ct env dst (.po b (off+m*kk))) H D):aF P r N (.kq T x i len kk) dst env H D K:=
 aF.pure rfl zj (λo a C h w S L hs=>by
  have d:=hs.cY x hx rfl
  simp only[aR]at d
  refine⟨.pointer (some ⟨b,off+m*kk,none⟩),?_,by simp [aR]⟩
  cases a with
  |kq c e j f=>
   subst g
   simp [execOp,c,b1,hs.int hi,asIntOf,underlying,e,d,ad,hm,sizeOf,typeInfo,f,addr_add]) k
theorem aF.Yq {i:Operand}{len:Nat}{n:Int}(m:Nat)(hx:bu env x= .so b len cap)(hi:bu env i= .v (.int kd n))(g:n=m)(hm:m<len)
  (k:K (ct env dst (.po b (m*kk))) H D):aF P r N (.ni T x i kk) dst env H D K:=
 aF.pure rfl zj (λo a C h w S L hs=>by
  have d:=hs.cY x hx rfl
  simp only[aR]at d
  refine⟨.pointer (some ⟨b,m*kk,none⟩),?_,by simp [aR]⟩
  cases a with
  |ni c e f=>
   subst g
   simp [execOp,c,b1,hs.int hi,asIntOf,underlying,e,d,hm,sizeOf,typeInfo,f,addr_add]) k
theorem aF.og {i:Operand}{s:ByteArray}{n:Int}(m:Nat){c:UInt8}(hx:bu env x= .v (.string s))(hi:bu env i= .v (.int kd n))(h:n=m)
  (hc:s.data.toList[m]? =some c) (k:K (ct env dst (.v (.int .u8 c.toNat))) H D):aF P r N (.og T x i) dst env H D K:=
 aF.pure rfl zj (λo a C j w S L hs=>⟨.int .u8 c.toNat,by
  cases a with
  |og b g=>
   have d:s[m]? =some c:=by
    have e:m<s.size:=by
     have:=iD hc
     simpa using this
    have f:s.data.toList[m]? =some s[m]:=by
     rw[ap (by simpa using e)];rfl
    rw[f]at hc
    rw[getElem?_pos s m e]
    exact hc
   have l:0<=n:=zz
   simp [execOp,b,Instr.index,hs.int hi,hs.int hx,asIntOf,underlying,g,h,d],by simp [aR]⟩) k
end
variable {i n:Nat}{q:AV}{w w':World}
def bK (cs:List AV)(off:Nat)(l:List AV):List AV:=cs.take off++l++cs.drop (off+l.length)
section
variable {C:Ctx}{env:Env}{H:Heap}{D:List Nat}{a:Act}{L:Nat->Option Nat}
theorem Sat.at_ (hs:Sat C env H D a w S L){x:cP}(h:H[i]? =some (b,x)):Own C.A S w b x:=hs.heap (b,x) (a8 h)
theorem Sat.replace (hs:Sat C env H D a w S L){x y:cP}(h:H[i]? =some (b,x)){o:Obj}(N:w'.heap[b]? =some o)(hy:Holds S y o)
  (v:w'.heap.size=w.heap.size) (c: ∀g,g≠b->w'.heap[g]? =w.heap[g]?) (u:w'.os=w.os) (z:w'.tape=w.tape) (q:w'.output=w.output):
  Sat C env (H.set i (b,y)) D a w' S L:=by
 have d:=hs.at_ h
 have K:i<H.length:=iD h
 have m:((H.set i (b,y))++C.F).map (·.1)=(H++C.F).map (·.1):=by
  simp
  congr 1
  apply c7
  intro n
  rw[de]
  have J:H[i]=(b,x):=zx
  split
  ·grind
  ·rfl
 have M:=hs.nodup
 have p:b∈(H++C.F).map (·.1):=zx
 have j: ∀n e,n≠i->H[n]? =some e->e.1≠b:=by
  intro n e l he I
  have s:(H.map (·.1)).Nodup:=zx
  have B:(H.map (·.1))[n]? =some b:=by simp [he,I]
  have E:(H.map (·.1))[i]? =some b:=by simp [h]
  exact l ((c8 (iD B) s).1 (B.trans E.symm))
 have G: ∀e∈C.F,e.1≠b:=zx
 have f:eI C.A w w':=⟨u,z,q,Nat.le_of_eq v.symm,λk hk hA=>c k (λe=>hA (e▸d.base))⟩
 refine
  {size:=hs.size,uj:=hs.uj,le:=hs.le,sin:=hs.sin.sA (λg hg=>c g (λe=>d.apart (e▸hg))),ka:=hs.ka,below:=hs.below.trans f,env:=?_,heap:=?_,frame:=?_,nodup:=zx,
   aI:=by rw[m];exact hs.aI,gk:=hs.gk}
 ·intro t
  exact(hs.env t).world (λg e=>c g (λeb=>hs.aI t g e (eb▸p)))
 ·intro e he
  obtain⟨n,l⟩:=List.mem_iff_getElem?.1 he
  rw[de]at l
  split at l
  ·simp only[an]at l;subst l
   exact⟨d.base,d.apart,o,N,hy⟩
  ·rename_i r
   exact(hs.heap e (a8 l)).world (c e.1 (j n e (λe=>r e.symm) l))
 ·intro e he
  exact(hs.frame e he).world (c e.1 (G e he))
theorem Own.row {B:Nat->Prop}{T:Nat}(h:Own B S w b (.cells T cs)): ∃l:List Value,w.heap[b]? =some (.cells l.toArray T (0,0))/\aS S cs l/\ ∀c∈l,c.oneCell'=true:=by obtain⟨o,e,l,rfl,d,a⟩:=h.holds;exact⟨l,e,d,a⟩
end
section
variable {env:Env}{H:Heap}{D:List Nat}
theorem qu {n:Option Nat}(k:ya P T=some n)(a:eX n cs=some p){l:List Value}(g:aS S cs l){o:Nat}
  (h: ∀j c,l[j]? =some c->w.cell? ⟨b,o+j,none⟩=some c): ∃y,(loadVar T ⟨b,o,none⟩).run P w= .ok y w/\aR S p y:=by
 cases n with
 |none=>
  simp only[eX]at a
  cases cs with
  |nil=>simp at a
  |cons x cs=>
   simp at a;subst a
   simp only[aS]at g
   obtain⟨c,s,rfl,q,r⟩:=g
   refine⟨c,?_,q⟩
   exact pd (P:=P) (w:=w) k (b:=b) (o:=o) (l:=[c]) rfl (by
    intro j d
    have:j=0:=by simp at d;exact d
    subst this
    simpa using h 0 c zj)
 |some m=>
  simp only[eX]at a
  split at a
  ·rename_i hm
   cases a
   have i:=bs hm
   have f:(l.take m).length=m:=by rw[b4,g.length];exact bk i
   refine⟨.agg (l.take m).toArray,?_,by simp only[aR];exact⟨l.take m,rfl,g.take m⟩⟩
   exact pd (P:=P) (w:=w) k (b:=b) (o:=o) (l:=l.take m) (by simpa using f) (by
    intro j d
    simp only[ek]at d
    have e:j<(l.take m).length:=zz
    rw[ap e]
    exact h j _ (by
     have:=ap e
     rw[bA]at this
     rwa [if_pos d]at this))
  ·cases a
theorem aF.TB {z:TypeId}{n:Option Nat}(hx:bu env x= .po b off)(A:H[i]? =some (b,.cells z cs))(F:eX n (cs.drop off)=some p)
  (k:K (ct env dst p) H D):aF P r N (.load T x n) dst env H D K:=by
 intro o h hd s C a w S L B hs next Q g
 obtain⟨l,q,G,J⟩:=(hs.at_ A).row
 have v:=hs.cY x hx rfl
 simp only[aR]at v
 cases s with
 |load m u=>
  obtain⟨y,hy,f⟩:=qu (P:=P) (w:=w) u F (G.drop off) (b:=b) (o:=off) (λj c E=>by
   rw[cell_of_row w b _ _ _ _ q]
   simpa using E)
  obtain⟨I,t⟩:=hs.lA (dst:=dst) (λd e=>B▸hd d e) f.jP f
  exact Oper.bO (.load m u) zj (y:=y) (w':=w) (by simp [execOp,m,b6,ad,v,hy]) (by rw[h];exact g _ _ _ _ _ _ _ k t (aE.Le.refl _))
theorem aS.za : ∀{es:List (List AV)} {l:List Value},aS S es.flatten l->(∀e∈es,e.length=kk)-> ∀{m:Nat} {e:List AV},es[m]? =some e->
  aS S e ((l.drop (m*kk)).take kk)
 |[],_,_,_,m,e,h=>by simp at h
 |x::es,l,c,hk,m,e,h=>by
  simp only[bI]at c
  obtain⟨c1,f,rfl,b,d⟩:=c.split
  have hx:x.length=kk:=hk x zj
  have a:c1.length=kk:=by rw[b.length,hx]
  cases m with
  |zero=>
   simp at h;subst h
   simp
   rw[List.take_append_of_le_length zz,List.take_of_length_le zz]
   exact b
  |succ m=>
   have:=aS.za d (λe he=>hk e (by simp [he])) (m:=m) (e:=e) (by simpa using h)
   rw[show (m+1)*kk=c1.length+m*kk by rw[a,b0];omega,List.drop_append,List.drop_eq_nil_of_le zz]
   simpa using this
theorem Own.arr {B:Nat->Prop}{T:Nat}(h:Own B S w b (.arr T kk cap es)): ∃cur:List Value,w.heap[b]? =some (.cells cur.toArray T (0,0))/\
  cap*kk<=cur.length/\es.length<=cap/\cap<=maxLen/\(∀e∈es,e.length=kk)/\aS S es.flatten (cur.take (es.length*kk))/\ ∀c∈cur.take (es.length*kk),c.oneCell'=true:=by
 obtain⟨o,e,cur,rfl,h⟩:=h.holds
 exact⟨cur,e,h⟩
theorem Cb {α:Type}{l:List α}(h:m+k<=n):((l.take n).drop m).take k=(l.drop m).take k:=by rw[List.drop_take,List.take_take,bk zz]
theorem aF.aaB {I:TypeId}{n:Option Nat}(m f:Nat){e:List AV}(hx:bu env x= .po b off)(J:H[i]? =some (b,.arr I kk cap es))
  (t:off=m*kk+f) (he:es[m]? =some e) (V:eX n (e.drop f)=some p) (k:K (ct env dst p) H D):aF P r N (.load T x n) dst env H D K:=by
 intro o l hd A C a w S L M hs next Q h
 obtain⟨cur,z,O,R,U,hk,W,Y⟩:=(hs.at_ J).arr
 have G:=hs.cY x hx rfl
 simp only[aR]at G
 have B:=iD he
 have v:=W.za hk he
 have s:m*kk+kk<=es.length*kk:=by rw[<-eT];exact Nat.mul_le_mul_right kk B
 rw[Cb s]at v
 cases A with
 |load u F=>
  obtain⟨y,hy,g⟩:=qu (P:=P) (w:=w) F V (v.drop f) (b:=b) (o:=off) (λj c q=>by
   rw[cell_of_row w b _ _ _ _ z]
   rw[cA,bA]at q
   split at q
   ·rw[cA]at q
    rw[t,show m*kk+f+j=m*kk+(f+j)from zz]
    simpa using q
   ·cases q)
  obtain⟨X,E⟩:=hs.lA (dst:=dst) (λd e=>M▸hd d e) g.jP g
  exact Oper.bO (.load u F) zj (y:=y) (w':=w) (by simp [execOp,u,b6,ad,G,hy]) (by rw[l];exact h _ _ _ _ _ _ _ k E (aE.Le.refl _))
theorem aF.Er {F:TypeId}(hx:bu env x= .po b off)(U:H[i]? =some (b,.cells F cs))(hy:bu env y=q)
  (hq:q.cj=true) (A:(bQ q).length=n) (I:(bQ q).all AV.dW=true) (V:off+n<=cs.length)
  (k:K (ct env dst .any) (H.set i (b,.cells F (bK cs off (bQ q)))) D):aF P r N (.store T x y n) dst env H D K:=by
 intro o u hd G C a w S L Z hs next Q s
 obtain⟨l,m,M,R⟩:=(hs.at_ U).row
 have Y:=hs.cY x hx rfl
 simp only[aR]at Y
 have J:aR S q (a.eval y):=hs.cY y hy (by cases q<;>simp_all [AV.cj,AV.dW,AV.bC])
 have f:=J.cells hq
 have h:=f.tc I
 have v:(a.eval y).cells.toList.length=n:=by rw[f.length,A]
 have t:=run_storeCells_at P b off F (a.eval y).cells.toList 0 l.toArray w m (by simp only[dl,List.size_toArray];rw[M.length];omega) h
 simp only[dl]at t
 have E:=hs.replace U (y:=.cells F (bK cs off (bQ q))) (w':=w.setRow b (l.take off++(a.eval y).cells.toList++l.drop (off+(a.eval y).cells.toList.length)).toArray)
  (setRow_heap w b _ _ _ _ m)
  (by
    refine⟨_,rfl,?_,?_⟩
    ·unfold bK
     rw[v,A]
     exact((M.take off).append f).append (M.drop (off+n))
    ·intro c hc
     simp only[bx]at hc
     rcases hc with (hc|hc)|hc
     ·exact R c (List.mem_of_mem_take hc)
     ·exact h c hc
     ·exact R c (List.mem_of_mem_drop hc))
  (setRow_size _ _ _) (λg hg=>setRow_other w b g _ hg) rfl rfl rfl
 obtain⟨L',B⟩:=E.lA (dst:=dst) (λd e=>Z▸hd d e) (p:=.any) (y:=undef) rfl (by simp [aR])
 generalize hW:w.setRow b (l.take off++(a.eval y).cells.toList++l.drop (off+(a.eval y).cells.toList.length)).toArray=W at t E B
 cases G with
 |store z X=>
  rename_i j
  refine Oper.wpIn_skip (.store z X) zj (w':=W) ?_ (by rw[u];exact s _ _ _ _ _ _ _ k B (aE.Le.refl _))
  have O:(a.eval y).cells.size=j.size:=zx
  simp [execOp,z,Instr.storeAt,ad,Y,storeVar,sizeOf,typeInfo,X,O,t]
end
variable {t:Nat}{H1:Heap}
def aE.mV (S:aE)(b:Nat)(l:List Value):aE:={S with cell:=λa o=>if a=b then l[o]? else S.cell a o}
theorem aE.gL {l:List Value}(h: ¬S.has b):S.Le (S.mV b l):=
 ⟨λa o v e=>by
   have:a≠b:=λeb=>h (eb▸.inl ⟨o,v,e⟩)
   simp only[aE.mV,if_neg this];exact e,λ_ _ e=>e⟩
theorem aE.qK {a:Nat}{l:List Value}(h:(S.mV b l).has a):S.has a\/a=b:=by
 by_cases e:a=b
 ·exact .inr e
 ·rcases h with⟨o,v,h⟩|⟨m,h⟩
  ·simp only[aE.mV,if_neg e]at h;exact .inl (.inl ⟨o,v,h⟩)
  ·exact .inl (.inr ⟨m,h⟩)
theorem aE.C5 {T:Nat}{l:List Value}(h:S.In w)(a:w.heap[b]? =some (.cells l.toArray T (0,0))):(S.mV b l).In w:=
 ⟨λc o v e=>by
   simp only[aE.mV]at e
   split at e
   ·rename_i eb;subst eb
    rw[cell_of_row w _ _ _ _ _ a];simpa using e
   ·exact h.cell _ _ _ e,λc m e=>h.map c m e⟩
theorem mO : ∀{cs:List AV} {l:List Value} {o:Nat},aS S cs l->(∀c∈l,c.oneCell'=true)->(∀j c,l[j]? =some c->S.cell b (o+j)=some c)->eO S cs b o
 |[],l,o,_,_,_=>by simp [eO]
 |a::cs,l,o,h,d,hc=>by
  simp only[aS]at h
  obtain⟨c,i,rfl,e,f⟩:=h
  simp only[eO]
  refine⟨⟨c,by simpa using hc 0 c zj,d c zj,e⟩,mO f (λx hx=>d x (by simp [hx])) (λj x g=>?_)⟩
  rw[show o+1+j=o+(j+1)from zz]
  exact hc (j+1) x (by simpa using g)
theorem mB : ∀{es:List (List AV)} {l:List Value} {o:Nat},aS S es.flatten l->(∀e∈es,e.length=kk)->(∀c∈l,c.oneCell'=true)->
  (∀j c,l[j]? =some c->S.cell b (o+j)=some c)->gE S kk es b o
 |[],l,o,_,_,_,_=>by simp [gE]
 |e::es,l,o,h,hk,f,hc=>by
  simp only[bI]at h
  obtain⟨c1,k,rfl,g,i⟩:=h.split
  have he:e.length=kk:=hk e zj
  have d:c1.length=kk:=by rw[g.length,he]
  simp only[gE]
  refine⟨he,mO g (λx hx=>f x (by simp [hx])) (λj x a=>hc j x (by rw[List.getElem?_append_left (iD a)];exact a)),
   mB i (λx hx=>hk x (by simp [hx])) (λx hx=>f x (by simp [hx])) (λj x a=>?_)⟩
  rw[show o+kk+j=o+(kk+j)from zz]
  exact hc (kk+j) x (by rw[List.getElem?_append_right zz];rw[d];simpa using a)
section
variable {C:Ctx}{env:Env}{H:Heap}{D:List Nat}{a:Act}{L:Nat->Option Nat}
theorem Sat.drop (hs:Sat C env H D a w S L)(i:Nat):Sat C env (H.eraseIdx i) D a w S L:=by
 have c:(H.eraseIdx i).Sublist H:=b9 H i
 exact {hs with
  heap:=λe he=>hs.heap e (c.subset he)
  nodup:=((c.append (cR C.F)).map _).nodup hs.nodup
  aI:=λt b e hm=>hs.aI t b e (((c.append (cR C.F)).map _).subset hm)}
theorem Sat.oM (hs:Sat C env H D a w S L){x:cP}(h:H[i]? =some (b,x)): ∀e∈H.eraseIdx i++C.F,e.1≠b:=by
 intro e he j;have c:=hs.nodup;rw[b8]at c;have g:(H.map (·.1))[i]? =some b:=by simp [h]
 rcases bx.1 he with he|he
 ·obtain⟨n,k,d⟩:=List.mem_eraseIdx_iff_getElem?.1 he;have f:(H.map (·.1))[n]? =some b:=by simp [d,j]
  exact k ((c8 (iD f) (dk.1 c).1).1 (f.trans g.symm))
 ·exact(dk.1 c).2.2 b (a8 g) e.1 (b7.2 ⟨e,he,rfl⟩) j.symm
theorem Sat.freeze (hs:Sat C env H D a w S L){T:Nat}{x:cP}(h:H[i]? =some (b,x)){l:List Value}(c:w.heap[b]? =some (.cells l.toArray T (0,0))):
  Sat C env (H.eraseIdx i) D a w (S.mV b l) L:=
 (hs.drop i).snap (aE.gL (hs.at_ h).apart) (aE.C5 hs.sin c)
   (λg hh=>(aE.qK hh).imp id (λh1=>by rw[h1];exact(hs.at_ h).base))
   (λe he hh=>by
     rcases aE.qK hh with h1|h1
     ·rcases bx.1 he with he'|he'
      ·exact(hs.heap e ((b9 H i).subset he')).apart h1
      ·exact(hs.frame e he').apart h1
     ·exact hs.oM h e he h1)
   (λt g e hh=>by
     rcases aE.qK hh with h1|h1
     ·exact hs.zP e h1
     ·exact hs.aI t g e (by
       simp only[b8,bx,b7]
       exact .inl ⟨(b,x),a8 h,h1.symm⟩))
theorem Sat.oW (hs:Sat C env H D a w S L)(g:p.bC=false)(h:aR S p (a.tmps.getD t undef)):Sat C (dK env t p) H D a w S (gV L t none) where
 size:=hs.size
 uj:=hs.uj
 le:=hs.le
 sin:=hs.sin
 ka:=hs.ka
 below:=hs.below
 env:=by
  intro u
  by_cases f:u=t
  ·subst f
   simp only[bw,gV,if_true]
   exact bF.dC g h
  ·simp only[eB env p f,gV,if_neg f]
   exact hs.env u
 heap:=hs.heap
 frame:=hs.frame
 nodup:=hs.nodup
 aI:=by
  intro u b e
  simp only[gV]at e
  split at e
  ·cases e
  ·exact hs.aI u b e
 gk:=by
  intro u v b c d
  simp only[gV]at c d
  split at c
  ·cases c
  ·split at d
   ·cases d
   ·exact hs.gk u v b c d
end
def bB (env:Env)(H:Heap)(D:List Nat)(env':Env)(H':Heap)(c:List Nat):Prop:=
 ∀(C:Ctx) (a:Act) (w:World) (S:aE) (L:Nat->Option Nat),Sat C env H D a w S L-> ∃b d,S.Le b/\Sat C env' H' c a w b d
theorem bB.refl (env:Env)(H:Heap)(D:List Nat):bB env H D env H D:=λ_ _ _ S L h=>⟨S,L,aE.Le.refl S,h⟩
theorem bB.trans {j l m:Env}{g i:Heap}{d e f:List Nat}(h:bB j H1 d l g e)(k:bB l g e m i f):bB j H1 d m i f:=
 λC a w S L hs=>by obtain⟨p,n,c,r⟩:=h C a w S L hs;obtain⟨q,o,b,s⟩:=k C a w p n r;exact⟨q,o,c.trans b,s⟩
section
variable {env:Env}{H:Heap}{D:List Nat}
theorem bB.iA {T:Nat}(t:Nat)(n:env t= .po b 0)(e:H[i]? =some (b,.cells T cs)):bB env H D (dK env t (.pi cs)) (H.eraseIdx i) D:=by intro C a w S L hs;obtain⟨l,d,m,h⟩:=(hs.at_ e).row;have g:=hs.rep n rfl;simp only[aR]at g;have f:=hs.freeze e d;refine⟨_,_,aE.gL (hs.at_ e).apart,f.oW (t:=t) (p:=.pi cs) rfl ?_⟩;simp only[aR];exact⟨b,0,g,mO (m.mono (aE.gL (hs.at_ e).apart) |> λx=>x) h (λj c k=>by simp [aE.mV,k])⟩
theorem bB.tF {T:Nat}(t:Nat)(r:env t= .so b es.length cap)(e:H[i]? =some (b,.arr T kk cap es)):bB env H D (dK env t (.sl kk es)) (H.eraseIdx i) D:=by
 intro C a w S L hs;obtain⟨cur,d,o,g,h,hk,q,n⟩:=(hs.at_ e).arr;have m:=hs.rep r rfl;simp only[aR]at m;have k:=hs.freeze e d;refine⟨_,_,aE.gL (hs.at_ e).apart,k.oW (t:=t) (p:=.sl kk es) rfl ?_⟩;simp only[aR];refine .inr ⟨b,0,cap,m,g,h,mB (l:=cur.take (es.length*kk)) (aS.mono (aE.gL (hs.at_ e).apart) _ _ q) hk n (λj c f=>?_)⟩;rw[bA]at f;split at f
 ·simp [aE.mV,f]
 ·cases f
theorem bB.Hv (i:Nat):bB env H D env (H.eraseIdx i) D:=λ_ _ _ _ _ hs=>⟨_,_,aE.Le.refl _,hs.drop i⟩
end
variable {d:Nat}{ls:List aH}{env':Env}{H':Heap}
section
variable {C:Ctx}{env:Env}{H:Heap}{D:List Nat}{a:Act}{L:Nat->Option Nat}
theorem Sat.lP (hs:Sat C env H D a w S L)(hd:d<a.tmps.size){y:Value}{g:Option Nat}(j:bF C.A S w g p y)
  (hg: ∀b,g=some b->b ∉ (H++C.F).map (·.1)/\ ∀t,t≠d->L t≠some b):Sat C (dK env d p) H D (a.put (some d) y) w S (gV L d g) where
 size:=by simp only[e4,Array.size_setIfInBounds];exact hs.size
 uj:=hs.uj
 le:=hs.le
 sin:=hs.sin
 ka:=hs.ka
 below:=hs.below
 env:=by
  intro t
  by_cases h:t=d
  ·subst h
   simp only[bw,e4,pA hd,gV,if_true]
   exact j
  ·simp only[eB env p h,e4,kT h,gV,if_neg h]
   exact hs.env t
 heap:=hs.heap
 frame:=hs.frame
 nodup:=hs.nodup
 aI:=by
  intro t b e
  simp only[gV]at e
  split at e
  ·grind
  ·exact hs.aI t b e
 gk:=by
  intro t u b c f
  simp only[gV]at c f
  split at c
  ·grind
  ·rename_i i
   split at f
   ·exact absurd c ((hg b f).2 t i)
   ·exact hs.gk t u b c f
theorem Sat.oB (hs:Sat C env H D a w S L){g:Option Nat}(i:bF C.A S w g p (a.tmps.getD t undef))
  (hg: ∀b,g=some b->b ∉ (H++C.F).map (·.1)/\ ∀u,u≠t->L u≠some b):Sat C (dK env t p) H D a w S (gV L t g) where
 size:=hs.size
 uj:=hs.uj
 le:=hs.le
 sin:=hs.sin
 ka:=hs.ka
 below:=hs.below
 env:=by
  intro u
  by_cases f:u=t
  ·subst f
   simp only[bw,gV,if_true]
   exact i
  ·simp only[eB env p f,gV,if_neg f]
   exact hs.env u
 heap:=hs.heap
 frame:=hs.frame
 nodup:=hs.nodup
 aI:=by
  intro u b e
  simp only[gV]at e
  split at e
  ·grind
  ·exact hs.aI u b e
 gk:=by
  intro u v b c d
  simp only[gV]at c d
  split at c
  ·grind
  ·rename_i h
   split at d
   ·exact absurd c ((hg b d).2 u h)
   ·exact hs.gk u v b c d
theorem Sat.share (hs:Sat C env H D a w S L){T:Nat}(j:env t= .aI T kk es):
  (es=[]/\Sat C (dK env t .nil) H D a w S (gV L t none))\/ ∃b cap,Sat C (dK env t (.so b es.length cap)) ((b,.arr T kk cap es)::H) D a w S (gV L t none):=by
 have f:=hs.env t
 rw[j]at f
 simp only[bF]at f
 rcases f with⟨hy,he,c⟩|⟨g,cap,c,hy,i⟩
 ·exact .inl ⟨he,hs.oW rfl (by simp only[aR];exact hy)⟩
 ·refine .inr ⟨g,cap,?_⟩
  have h:=hs.oW (t:=t) (p:=.so g es.length cap) rfl (by simp only[aR];exact hy)
  refine {h with heap:=?_,nodup:=?_,aI:=?_}
  ·intro e he
   rcases a7.1 he with rfl|he
   ·exact i
   ·exact hs.heap e he
  ·simp only[ec,cc,List.nodup_cons]
   exact⟨hs.aI t g c,hs.nodup⟩
  ·intro u b e
   simp only[ec,cc,a7,not_or]
   refine⟨λd=>?_,h.aI u b e⟩
   simp only[gV]at e
   split at e
   ·cases e
   ·rename_i k;subst d;exact k (hs.gk u t b e c)
theorem Sat.jT (hs:Sat C env H D a w S L){T:Nat}(f:env t= .so b es.length cap)(c:H[i]? =some (b,.arr T kk cap es)):
  Sat C (dK env t (.aI T kk es)) (H.eraseIdx i) D a w S (gV L t (some b)):=by
 have hy:=hs.rep f rfl
 simp only[aR]at hy
 refine(hs.drop i).oB ?_ ?_
 ·simp only[bF]
  exact .inr ⟨b,cap,rfl,hy,hs.at_ c⟩
 ·intro g e
  cases e
  refine⟨λhm=>?_,λu _ e=>hs.aI u b e ?_⟩
  ·obtain⟨e,he,d⟩:=b7.1 hm
   exact hs.oM c e he d
  ·grind
end
section
variable {env:Env}{H:Heap}{D:List Nat}
theorem bB.jT {T:Nat}(c:env t= .so b es.length cap)(a:H[i]? =some (b,.arr T kk cap es)):bB env H D (dK env t (.aI T kk es)) (H.eraseIdx i) D:=
 λ_ _ _ _ _ hs=>⟨_,_,aE.Le.refl _,hs.jT c a⟩
theorem dX (env:Env)(t:Nat)(p q:AV):dK (dK env t p) t q=dK env t q:=by
 funext i;by_cases h:i=t
 ·subst h;simp [bw]
 ·simp [eB _ _ h]
theorem bB.ga {T:Nat}(j:env t= .aI T kk es):bB env H D (dK env t (.sl kk es)) H D:=by
 intro C a w S L hs;rcases hs.share j with⟨he,h⟩|⟨b,cap,h⟩
 ·subst he;have e:=h.rep (t:=t) (bw _ _ _) rfl;simp only[aR]at e;have:=h.oW (t:=t) (p:=.sl kk []) rfl (by simp only[aR];exact .inl ⟨⟨_,e⟩,trivial⟩);rw[dX]at this;exact⟨_,_,aE.Le.refl _,this⟩
 ·obtain⟨g,f,c,d⟩:=bB.tF (H:=(b,.arr T kk cap es)::H) (D:=D) (i:=0) t (bw _ _ _) rfl C a w S _ h;rw[dX]at d;exact⟨g,f,c,d⟩
theorem bB.ln (T kk:Nat)(c:env t= .nil):bB env H D (dK env t (.aI T kk [])) H D:=by intro C a w S L hs;have b:=hs.rep c rfl;simp only[aR]at b;exact⟨_,_,aE.Le.refl _,hs.oB (t:=t) (p:=.aI T kk []) (g:=none) (by simp only[bF];exact .inl ⟨b,trivial,trivial⟩) (λ_ e=>by cases e)⟩
theorem bB.jD (kk:Nat)(c:env t= .nil):bB env H D (dK env t (.sl kk [])) H D:=by intro C a w S L hs;have b:=hs.rep c rfl;simp only[aR]at b;exact⟨_,_,aE.Le.refl _,hs.oW (t:=t) (p:=.sl kk []) rfl (by simp only[aR];exact .inl ⟨⟨_,b⟩,trivial⟩)⟩
theorem aT.lr {c:List Nat}(h:bB env H D env' H' c)(k:aT P r N ls Q env' H' c):aT P r N ls Q env H D:=
 λarr is hm C a w S L f hs=>by obtain⟨e,d,_,b⟩:=h C a w S L hs;exact k arr is hm C a w e d f b
theorem aT.share {T:Nat}(f:env t= .aI T kk es)
  (d:es=[]->aT P r N ls Q (dK env t .nil) H D) (e: ∀b cap,aT P r N ls Q (dK env t (.so b es.length cap)) ((b,.arr T kk cap es)::H) D):aT P r N ls Q env H D:=
 λarr is hm C a w S L c hs=>by
  rcases hs.share f with⟨he,h⟩|⟨b,cap,h⟩
  ·exact d he arr is hm C a w S _ c h
  ·exact e b cap arr is hm C a w S _ c h
theorem aF.lr {l:jM} 
  (h:aF P r N l dst env H D (λenv' H' q=> ∃b d c,bB env' H' q b d c/\K b d c)):aF P r N l dst env H D K:=
 λo f hd n C a w S L u hs next Q e=>h o f hd n C a w S L u hs next Q (λenv' H' q y w' t s hk p m=>by
  obtain⟨b,d,c,he,hk⟩:=hk
  obtain⟨k,j,g,i⟩:=he C _ w' t s p
  exact e b d c y w' k j hk i (m.trans g))
theorem aF.mono {l:jM}{j:Env->Heap->List Nat->Prop}(h:aF P r N l dst env H D K)(hk: ∀e h d,K e h d->j e h d):aF P r N l dst env H D j:=
 λo c hd g C a w S L q hs next Q b=>h o c hd g C a w S L q hs next Q (λenv' H' m y w' p n k i f=>b env' H' m y w' p n (hk _ _ _ k) i f)
end
section
variable {env:Env}{H:Heap}{D:List Nat}
theorem aF.box {T:Nat}(hx:bu env x=q)(t:q.cj=true)(j:(bQ q).all AV.dW=true)
  (k: ∀b,K (dK env d (.po b 0)) ((b,.cells T (bQ q))::H) D):aF P r N (.box T x) (some d) env H D K:=by
 intro o f hd i C a w S L s hs next Q e
 have l:aR S q (a.eval x):=hs.cY x hx (by cases q<;>simp_all [AV.cj,AV.dW,AV.bC])
 have c:=l.cells t
 have g:=c.tc j
 have m:=hs.alloc (x:=.cells T (bQ q)) (o:=.cells (a.eval x).cells T (0,0)) ⟨(a.eval x).cells.toList,zj,c,g⟩
 have n:=m.put (d:=d) (cB (s▸hd d rfl) hs.size) (p:=.po w.heap.size 0) (y:=.pointer (some ⟨w.heap.size,0,none⟩)) rfl (by simp [aR])
 cases i with
 |box h=>
  refine Oper.bO (.box h) zj (y:=.pointer (some ⟨w.heap.size,0,none⟩)) (w':=w.alloc (.cells (a.eval x).cells T (0,0))) ?_ (by rw[f];exact e _ _ _ _ _ _ _ (k _) n (aE.Le.refl _))
  simp [execOp,h,Instr.box,newVar,newRow]
theorem aF.alloc {T:Nat}{z:List Value}(s:z.all ew=true)(k: ∀b,K (dK env d (.po b 0)) ((b,.cells T (z.map .v))::H) D):aF P r N (.alloc T z) (some d) env H D K:=by
 intro o f hd i C a w S L q hs next Q e
 have j:=hs.alloc (x:=.cells T (z.map .v)) (o:=.cells z.toArray T (0,0)) ⟨z,rfl,qx S z,λc hc=>b3.1 s c hc⟩;have l:=j.put (d:=d) (cB (q▸hd d rfl) hs.size) (p:=.po w.heap.size 0) (y:=.pointer (some ⟨w.heap.size,0,none⟩)) rfl (by simp [aR]);cases i with
 |alloc g h=>obtain⟨v,m,n⟩:=jz (P:=P) (w:=w) h;refine Oper.bO (.alloc g h) zj (y:=.pointer (some ⟨w.heap.size,0,none⟩)) (w':=w.alloc (.cells z.toArray T (0,0))) ?_ (by rw[f];exact e _ _ _ _ _ _ _ (k _) l (aE.Le.refl _));simp [execOp,g,Instr.alloc,newVar,newRow,m,n]
theorem aF.abI {T:Nat}(hx:bu env x=q)(c:q.cj=true)(a:(bQ q).all AV.dW=true)
  (k:K (dK env d (.pi (bQ q))) H D):aF P r N (.box T x) (some d) env H D K:=
 aF.lr (aF.box hx c a (λb=>⟨_,_,_,bB.iA (i:=0) d (bw _ _ _) rfl,by rw[dX];exact k⟩))
def chunk (k:Nat):Nat->List AV->List (List AV)
 |0,_=>[]
 |n+1,l=>l.take k::chunk k n (l.drop k)
theorem uy : ∀{n:Nat} {l:List AV},l.length=n*k->(chunk k n l).flatten=l
 |0,l,h=>by simp at h;subst h;rfl
 |n+1,l,h=>by
  simp only[chunk,bI]
  rw[uy (by rw[ej,h,b0];omega),List.take_append_drop]
theorem fB : ∀{n:Nat} {l:List AV},(chunk k n l).length=n
 |0,_=>rfl
 |n+1,l=>by simp [chunk,fB]
theorem AF : ∀{n:Nat} {l:List AV},l.length=n*k-> ∀e∈chunk k n l,e.length=k
 |0,_,_,e,h=>by simp [chunk]at h
 |n+1,l,hl,e,h=>by
  simp only[chunk,a7]at h
  rcases h with rfl|h
  ·rw[b4,hl,b0];omega
  ·exact AF (by rw[ej,hl,b0];omega) e h
theorem BO : ∀{b:List (Nat×Nat×AV)} {r:List AV},gH cs b=some r->r.length=cs.length:=by
 have a: ∀(l:List AV) (cs:List AV) (off:Nat),(pt cs off l).length=cs.length:=by
  intro l;induction l with
  |nil=>intro cs off;rfl
  |cons c l d=>intro cs off;simp only[pt];rw[d];simp
 intro b;induction b generalizing cs with
 |nil=>intro r e;simp only[gH,an]at e;subst e;rfl
 |cons q b d=>
  obtain⟨off,size,p⟩:=q;intro r e;simp only[gH]at e;split at e
  ·rw[d e,a]
  ·cases e
def rep (n:Nat)(z:List AV):List AV:=(eu n z).flatten
theorem yK (z:Array Value)(a:z.size≠0): ∀n:Nat,((Array.range (n*z.size)).map (λi=>z[i%z.size]!)).toList=(eu n z.toList).flatten:=by
 intro n;rw[ds,Array.toList_range];induction n with
 |zero=>simp
 |succ n b=>
  rw[eT,List.range_add,b8,b,List.replicate_succ',List.flatten_append];congr 1;simp;apply c7;intro i;simp;by_cases hi:i<z.size
  ·simp [hi,az hi]
  ·simp [hi]
end
end Go.Px
