/- Part 1 of the proofs of the statements of this seat (a logic of pure contracts, the functions lowered, their contracts). No conditions. -/
import Derived.RangeFuncIn
import Derived.RangeFuncCalls
import Derived.Below
import Derived.Laws.AppendOwn
import Derived.Laws.MakeOwn
import Derived.Laws.CopyOwn
import Derived.WalkKit
import Derived.Laws.OwnMore
import Derived.RangeFuncLeaves
import Derived.OrdersIn
namespace Go.Px
structure Snap where
  cell : Nat → Nat → Option Value
  map : Nat → Option (Array MapEntry × Nat)
def Snap.empty : Snap := ⟨fun _ _ => none, fun _ => none⟩
def Snap.has (S : Snap) (b : Nat) : Prop := (∃ o v, S.cell b o = some v) ∨ ∃ m, S.map b = some m
structure Snap.Le (S T : Snap) : Prop where
  cell : ∀ b o v, S.cell b o = some v → T.cell b o = some v
  map : ∀ b m, S.map b = some m → T.map b = some m
structure Snap.In (S : Snap) (w : World) : Prop where
  cell : ∀ b o v, S.cell b o = some v → w.cell? ⟨b, o, none⟩ = some v
  map : ∀ b m, S.map b = some m → w.heap[b]? = some (.map m.1 m.2)
theorem Snap.Le.refl (S : Snap) : S.Le S := ⟨fun _ _ _ h => h, fun _ _ h => h⟩
theorem Snap.Le.trans {S T U : Snap} (h : S.Le T) (k : T.Le U) : S.Le U := ⟨fun b o v e => k.cell b o v (h.cell b o v e), fun b m e => k.map b m (h.map b m e)⟩
theorem Snap.Le.in {S T : Snap} (h : S.Le T) {w : World} (k : T.In w) : S.In w := ⟨fun b o v e => k.cell b o v (h.cell b o v e), fun b m e => k.map b m (h.map b m e)⟩
theorem Snap.Le.has {S T : Snap} (h : S.Le T) {b : Nat} (k : S.has b) : T.has b := by
  rcases k with ⟨o, v, e⟩ | ⟨m, e⟩
  · exact .inl ⟨o, v, h.cell _ _ _ e⟩
  · exact .inr ⟨m, h.map _ _ e⟩
theorem Snap.In.lt {S : Snap} {w : World} (h : S.In w) {b : Nat} (k : S.has b) : b < w.heap.size := by
  rcases k with ⟨o, v, e⟩ | ⟨m, e⟩
  · exact World.block_lt_of_cell? w ⟨b, o, none⟩ (h.cell _ _ _ e)
  · exact (Array.getElem?_eq_some_iff.1 (h.map _ _ e)).1
theorem Snap.In.of_agree {S : Snap} {w w' : World} (h : S.In w) (k : ∀ b, S.has b → w'.heap[b]? = w.heap[b]?) : S.In w' :=
  ⟨fun b o v e => (World.cell?_of_block (w := w) (a := ⟨b, o, none⟩) (k b (.inl ⟨o, v, e⟩))).trans (h.cell b o v e), fun b m e => (k b (.inr ⟨m, e⟩)).trans (h.map b m e)⟩
inductive AV where
  | any
  | v (x : Value)
  | nil
  | agg (l : List AV)
  | tup (l : List AV)
  | sl (k : Nat) (es : List (List AV))
  | pi (cs : List AV)
  | po (b off : Nat)
  | so (b n cap : Nat)
  | lin (T k : Nat) (es : List (List AV))
  | lbox (T : Nat) (cs : List AV)
  | linV (T k : Nat) (es : List (List AV)) (ad : Option Addr) (cap : Nat)
  | lmap (cs : List AV) (es : List (Value × AV))
  | mi (es : List (Value × AV))
  | mo (b : Nat)
  | fn (f : Fn) (first caps : List AV)
  | ifc (t : TypeId) (x : AV)
  deriving Inhabited
def Sq (ents : Array MapEntry) (clock : Nat) : Prop := clock = ents.size ∧ (∀ (j : Nat) (e : MapEntry), ents[j]? = some e → e.born = j) ∧ (ents.toList.map (·.key)).Nodup
mutual
def Rep (S : Snap) : AV → Value → Prop
  | .any, _ => True
  | .v x, y => y = x
  | .nil, y => y = .slice none 0 0
  | .agg l, y => ∃ cs : List Value, y = .agg cs.toArray ∧ RepL S l cs
  | .tup l, y => ∃ cs : List Value, y = .tuple cs.toArray ∧ RepL S l cs
  | .sl k es, y => ((∃ ad, y = .slice ad 0 0) ∧ es = []) ∨
      ∃ b off cap, y = .slice (some ⟨b, off, none⟩) es.length cap ∧ es.length ≤ cap ∧ cap ≤ maxLen ∧ RepE S k es b off
  | .pi cs, y => ∃ b off, y = .pointer (some ⟨b, off, none⟩) ∧ RepC S cs b off
  | .po b off, y => y = .pointer (some ⟨b, off, none⟩)
  | .so b n cap, y => y = .slice (some ⟨b, 0, none⟩) n cap
  | .lin _ _ _, _ => False
  | .lbox _ _, _ => False
  | .linV _ _ _ _ _, _ => False
  | .lmap _ _, _ => False
  | .mi es, y => ∃ r ents clock, y = .map (some r) ∧ S.map r = some (ents, clock) ∧ RepM S es ents.toList ∧ Sq ents clock
  | .mo b, y => y = .map (some b)
  | .fn f first caps, y => ∃ fs cs : List Value, y = .func f fs.toArray cs.toArray ∧ RepL S first fs ∧ RepL S caps cs
  | .ifc t x, y => ∃ c, y = .iface t c ∧ Rep S x c
def RepL (S : Snap) : List AV → List Value → Prop
  | [], cs => cs = []
  | a :: l, cs => ∃ c cs', cs = c :: cs' ∧ Rep S a c ∧ RepL S l cs'
def RepC (S : Snap) : List AV → Nat → Nat → Prop
  | [], _, _ => True
  | a :: l, b, o => (∃ c, S.cell b o = some c ∧ c.oneCell' = true ∧ Rep S a c) ∧ RepC S l b (o + 1)
def RepE (S : Snap) (k : Nat) : List (List AV) → Nat → Nat → Prop
  | [], _, _ => True
  | l :: es, b, o => l.length = k ∧ RepC S l b o ∧ RepE S k es b (o + k)
def RepM (S : Snap) : List (Value × AV) → List MapEntry → Prop
  | [], es => es = []
  | (key, a) :: l, es => ∃ e es', es = e :: es' ∧ e.key = key ∧ Rep S a e.val ∧ RepM S l es'
end
mutual
theorem Rep.mono {S T : Snap} (h : S.Le T) : ∀ (a : AV) (y : Value), Rep S a y → Rep T a y
  | .any, _, _ => by simp only [Rep]
  | .v x, y, r => by simp only [Rep] at r ⊢; exact r
  | .nil, y, r => by simp only [Rep] at r ⊢; exact r
  | .agg l, y, r => by simp only [Rep] at r ⊢; obtain ⟨cs, e, r⟩ := r; exact ⟨cs, e, RepL.mono h l cs r⟩
  | .tup l, y, r => by simp only [Rep] at r ⊢; obtain ⟨cs, e, r⟩ := r; exact ⟨cs, e, RepL.mono h l cs r⟩
  | .sl k es, y, r => by
    simp only [Rep] at r ⊢
    rcases r with r | ⟨b, off, cap, e, h1, h2, r⟩
    · exact .inl r
    · exact .inr ⟨b, off, cap, e, h1, h2, RepE.mono h k es b off r⟩
  | .pi cs, y, r => by simp only [Rep] at r ⊢; obtain ⟨b, off, e, r⟩ := r; exact ⟨b, off, e, RepC.mono h cs b off r⟩
  | .po b off, y, r => by simp only [Rep] at r ⊢; exact r
  | .so b n cap, y, r => by simp only [Rep] at r ⊢; exact r
  | .lin _ _ _, _, r => by simp only [Rep] at r
  | .lbox _ _, _, r => by simp only [Rep] at r
  | .linV _ _ _ _ _, _, r => by simp only [Rep] at r
  | .lmap _ _, _, r => by simp only [Rep] at r
  | .mi es, y, r => by
    simp only [Rep] at r ⊢
    obtain ⟨b, ents, clock, e, hm, r, hst⟩ := r
    exact ⟨b, ents, clock, e, h.map _ _ hm, RepM.mono h es _ r, hst⟩
  | .mo b, y, r => by simp only [Rep] at r ⊢; exact r
  | .fn f first caps, y, r => by
    simp only [Rep] at r ⊢
    obtain ⟨fs, cs, e, r1, r2⟩ := r
    exact ⟨fs, cs, e, RepL.mono h first fs r1, RepL.mono h caps cs r2⟩
  | .ifc t x, y, r => by simp only [Rep] at r ⊢; obtain ⟨c, e, r⟩ := r; exact ⟨c, e, Rep.mono h x c r⟩
theorem RepL.mono {S T : Snap} (h : S.Le T) : ∀ (l : List AV) (cs : List Value), RepL S l cs → RepL T l cs
  | [], cs, r => by simp only [RepL] at r ⊢; exact r
  | a :: l, cs, r => by
    simp only [RepL] at r ⊢
    obtain ⟨c, cs', e, r1, r2⟩ := r
    exact ⟨c, cs', e, Rep.mono h a c r1, RepL.mono h l cs' r2⟩
theorem RepC.mono {S T : Snap} (h : S.Le T) : ∀ (l : List AV) (b o : Nat), RepC S l b o → RepC T l b o
  | [], b, o, _ => by simp only [RepC]
  | a :: l, b, o, r => by
    simp only [RepC] at r ⊢
    obtain ⟨⟨c, e, h1, r1⟩, r2⟩ := r
    exact ⟨⟨c, h.cell _ _ _ e, h1, Rep.mono h a c r1⟩, RepC.mono h l b (o + 1) r2⟩
theorem RepE.mono {S T : Snap} (h : S.Le T) (k : Nat) : ∀ (es : List (List AV)) (b o : Nat), RepE S k es b o → RepE T k es b o
  | [], b, o, _ => by simp only [RepE]
  | l :: es, b, o, r => by
    simp only [RepE] at r ⊢
    exact ⟨r.1, RepC.mono h l b o r.2.1, RepE.mono h k es b (o + k) r.2.2⟩
theorem RepM.mono {S T : Snap} (h : S.Le T) : ∀ (es : List (Value × AV)) (ents : List MapEntry), RepM S es ents → RepM T es ents
  | [], ents, r => by simp only [RepM] at r ⊢; exact r
  | (key, a) :: l, ents, r => by
    simp only [RepM] at r ⊢
    obtain ⟨e, es', e1, e2, r1, r2⟩ := r
    exact ⟨e, es', e1, e2, Rep.mono h a e.val r1, RepM.mono h l es' r2⟩
end
end Go.Px

namespace Go.Px
abbrev Env := Nat → AV
inductive HObj where
  | cells (T : Nat) (cs : List AV)
  | arr (T k cap : Nat) (es : List (List AV))
  | map (es : List (Value × AV))
  | miter (m : Nat) (es : List (Value × AV)) (seen : List Nat)
  | dfr
  | loopA (st : LoopState) (pend : Option Code) (fn : FuncId) (N : Nat) (env0 : Env) (ps : Array Tmp) (assign body : Code) (dfr : Nat)
  | raw (o : Obj)
def RepB (S : Snap) (as : List AV) (cs : List Value) : Prop := RepL S as cs ∧ ∀ c ∈ cs, c.oneCell' = true
def Holds (S : Snap) : HObj → Obj → Prop
  | .cells T as, o => ∃ cs : List Value, o = .cells cs.toArray T (0, 0) ∧ RepB S as cs
  | .arr T k cap es, o => ∃ cur : List Value, o = .cells cur.toArray T (0, 0) ∧ cur.length = cap * k ∧ es.length ≤ cap ∧ cap ≤ maxLen ∧ (∀ e ∈ es, e.length = k) ∧
      RepL S es.flatten (cur.take (es.length * k)) ∧ ∀ c ∈ cur.take (es.length * k), c.oneCell' = true
  | .map es, o => ∃ (ents : Array MapEntry) (clock : Nat), o = .map ents clock ∧ RepM S es ents.toList ∧ Sq ents clock
  | .miter m es seen, o => ∃ (ents : Array MapEntry) (clock : Nat) (sn : Array Nat), o = .mapIter (some m) clock sn clock ∧ S.map m = some (ents, clock) ∧ RepM S es ents.toList ∧ Sq ents clock ∧ sn.toList = seen
  | .dfr, o => o = .deferred (some [])
  | .loopA st pend fn N env0 ps assign body dfr, o => ∃ tmps : Array Value, o = .loop { state := st, pending := pend, fn := fn, tmps := tmps, params := ps, assign := assign, body := body, defers := dfr } ∧ N ≤ tmps.size ∧ ∀ t, Rep S (env0 t) (tmps.getD t undef)
  | .raw x, o => o = x
theorem Holds.mono {S T : Snap} (h : S.Le T) {x : HObj} {o : Obj} (r : Holds S x o) : Holds T x o := by
  cases x with
  | cells t as => obtain ⟨cs, e, r1, r2⟩ := r; exact ⟨cs, e, RepL.mono h _ _ r1, r2⟩
  | arr t k cap es => obtain ⟨cur, e, h1, h2, h3, h4, r1, r2⟩ := r; exact ⟨cur, e, h1, h2, h3, h4, RepL.mono h _ _ r1, r2⟩
  | map es => obtain ⟨ents, clock, e, r, hst⟩ := r; exact ⟨ents, clock, e, RepM.mono h _ _ r, hst⟩
  | miter m es seen => obtain ⟨ents, clock, sn, e, hm, r, hst⟩ := r; exact ⟨ents, clock, sn, e, h.map _ _ hm, RepM.mono h _ _ r, hst⟩
  | dfr => exact r
  | loopA st pend fn N env0 ps assign body dfr => obtain ⟨tmps, e, h1, h2⟩ := r; exact ⟨tmps, e, h1, fun t => Rep.mono h _ _ (h2 t)⟩
  | raw x => exact r
structure Own (A : Nat → Prop) (S : Snap) (w : World) (b : Nat) (x : HObj) : Prop where
  base : A b
  apart : ¬ S.has b
  holds : ∃ o, w.heap[b]? = some o ∧ Holds S x o
theorem Own.lt {B : Nat → Prop} {S : Snap} {w : World} {b : Nat} {x : HObj} (h : Own B S w b x) : b < w.heap.size := by
  obtain ⟨o, e, _⟩ := h.holds
  exact (Array.getElem?_eq_some_iff.1 e).1
abbrev Heap := List (Nat × HObj)
structure BelowA (A : Nat → Prop) (w w' : World) : Prop where
  os : w'.os = w.os
  tape : w'.tape = w.tape
  output : w'.output = w.output
  size : w.heap.size ≤ w'.heap.size
  block : ∀ k, k < w.heap.size → ¬ A k → w'.heap[k]? = w.heap[k]?
theorem BelowA.refl (A : Nat → Prop) (w : World) : BelowA A w w := ⟨rfl, rfl, rfl, Nat.le_refl _, fun _ _ _ => rfl⟩
theorem BelowA.trans {A : Nat → Prop} {a b c : World} (h : BelowA A a b) (k : BelowA A b c) : BelowA A a c :=
  ⟨k.os.trans h.os, k.tape.trans h.tape, k.output.trans h.output, Nat.le_trans h.size k.size, fun i hi ha => (k.block i (Nat.lt_of_lt_of_le hi h.size) ha).trans (h.block i hi ha)⟩
theorem BelowA.mono {A A' : Nat → Prop} {a b : World} (h : BelowA A a b) (hA : ∀ k, k < a.heap.size → A k → A' k) : BelowA A' a b :=
  ⟨h.os, h.tape, h.output, h.size, fun i hi ha => h.block i hi (fun hh => ha (hA i hi hh))⟩
theorem BelowA.of_below {A : Nat → Prop} {w w' : World} (k : RowKit.Below w.heap.size w w') : BelowA A w w' := ⟨k.os, k.tape, k.output, k.size, fun i hi _ => k.block i hi⟩
structure Ctx where
  A : Nat → Prop
  w0 : World
  S0 : Snap
  F : Heap
  N : Nat
  hA : ∀ b, w0.heap.size ≤ b → A b
def AV.isLin : AV → Bool
  | .lin _ _ _ | .lbox _ _ | .linV _ _ _ _ _ | .lmap _ _ => true
  | _ => false
def RepLin (B : Nat → Prop) (S : Snap) (w : World) (b : Option Nat) (T k : Nat) (es : List (List AV)) (y : Value) : Prop :=
  (y = .slice none 0 0 ∧ es = [] ∧ b = none) ∨ ∃ g cap, b = some g ∧ y = .slice (some ⟨g, 0, none⟩) es.length cap ∧ Own B S w g (.arr T k cap es)
def RepT (B : Nat → Prop) (S : Snap) (w : World) (b : Option Nat) : AV → Value → Prop
  | .lin T k es, y => (y = .slice none 0 0 ∧ es = [] ∧ b = none) ∨ ∃ g cap, b = some g ∧ y = .slice (some ⟨g, 0, none⟩) es.length cap ∧ Own B S w g (.arr T k cap es)
  | .lbox T cs, y => ∃ g, b = some g ∧ y = .pointer (some ⟨g, 0, none⟩) ∧ Own B S w g (.cells T cs)
  | .linV T k es ad cap, y => y = .slice ad es.length cap ∧ RepLin B S w b T k es y
  | .lmap cs es, y => ∃ g bb off, b = some g ∧ y = .pointer (some ⟨bb, off, none⟩) ∧ RepC S (cs ++ [.mo g]) bb off ∧ Own B S w g (.map es)
  | a, y => b = none ∧ Rep S a y
def markOf (r : Nat) : Deferred := { target := .collected r, args := #[] }
structure Sat (C : Ctx) (env : Env) (H : Heap) (D : List Nat) (a : Act) (w : World) (S : Snap) (L : Nat → Option Nat) : Prop where
  size : C.N ≤ a.tmps.size
  dfs : a.defers = D.map markOf
  le : C.S0.Le S
  sin : S.In w
  snew : ∀ b, S.has b → C.S0.has b ∨ C.A b
  below : BelowA C.A C.w0 w
  env : ∀ t, RepT C.A S w (L t) (env t) (a.tmps.getD t undef)
  heap : ∀ e ∈ H, Own C.A S w e.1 e.2
  frame : ∀ e ∈ C.F, Own C.A S w e.1 e.2
  nodup : ((H ++ C.F).map (·.1)).Nodup
  lin : ∀ t b, L t = some b → b ∉ (H ++ C.F).map (·.1)
  linj : ∀ t u b, L t = some b → L u = some b → t = u
theorem Sat.fresh {C : Ctx} {env : Env} {H : Heap} {D : List Nat} {a : Act} {w : World} {S : Snap} {L : Nat → Option Nat} (h : Sat C env H D a w S L) {b : Nat} (hb : w.heap.size ≤ b) : C.A b :=
  C.hA b (Nat.le_trans h.below.size hb)
end Go.Px

namespace Go.Px
def upd (env : Env) (d : Nat) (p : AV) : Env := fun i => bif Nat.beq i d then p else env i
theorem upd_same (env : Env) (d : Nat) (p : AV) : upd env d p d = p := by simp [upd]
theorem upd_other (env : Env) {d i : Nat} (p : AV) (h : i ≠ d) : upd env d p i = env i := by
  have : Nat.beq i d = false := by
    cases hb : Nat.beq i d with
    | false => rfl
    | true => exact absurd (Nat.eq_of_beq_eq_true hb) h
  simp [upd, this]
theorem getD_set_same {a : Array Value} {d : Nat} {y : Value} (h : d < a.size) : (a.setIfInBounds d y).getD d undef = y := by
  simp [Array.getD, h]
theorem getD_set_other {a : Array Value} {d i : Nat} {y : Value} (h : i ≠ d) : (a.setIfInBounds d y).getD i undef = a.getD i undef := by
  simp only [Array.getD_eq_getD_getElem?, Array.getElem?_setIfInBounds]
  rw [if_neg (fun e => h e.symm)]
section sat
variable {C : Ctx} {env : Env} {H : Heap} {D : List Nat} {a : Act} {w : World} {S : Snap} {L : Nat → Option Nat}
theorem RepT.of_rep {B : Nat → Prop} {p : AV} {y : Value} (hp : p.isLin = false) (r : Rep S p y) : RepT B S w none p y := by
  cases p <;> simp_all [RepT, AV.isLin]
theorem RepT.rep {B : Nat → Prop} {b : Option Nat} {p : AV} {y : Value} (hp : p.isLin = false) (r : RepT B S w b p y) : b = none ∧ Rep S p y := by
  cases p <;> simp_all [RepT, AV.isLin]
theorem Sat.rep (h : Sat C env H D a w S L) {t : Nat} {p : AV} (e : env t = p) (hp : p.isLin = false) : Rep S p (a.tmps.getD t undef) := by
  have := h.env t
  rw [e] at this
  exact (this.rep hp).2
theorem Sat.L_own (h : Sat C env H D a w S L) {t b : Nat} (e : L t = some b) : ∃ x, Own C.A S w b x := by
  have := h.env t
  rw [e] at this
  cases hp : env t <;> rw [hp] at this <;> simp only [RepT] at this
  case lin T k es =>
    rcases this with ⟨_, _, hb⟩ | ⟨g, cap, hb, hy, ho⟩
    · cases hb
    · cases hb; exact ⟨_, ho⟩
  case lbox T cs =>
    obtain ⟨g, hb, hy, ho⟩ := this
    cases hb; exact ⟨_, ho⟩
  case linV T k es ad cap =>
    rcases this.2 with ⟨_, _, hb⟩ | ⟨g, cap, hb, hy, ho⟩
    · cases hb
    · cases hb; exact ⟨_, ho⟩
  case lmap cs es =>
    obtain ⟨g, bb, off, hb, hy, hc, ho⟩ := this
    cases hb; exact ⟨_, ho⟩
  all_goals (obtain ⟨hb, _⟩ := this; cases hb)
theorem Sat.L_lt (h : Sat C env H D a w S L) {t b : Nat} (e : L t = some b) : b < w.heap.size := (h.L_own e).elim fun _ o => o.lt
theorem Sat.L_apart (h : Sat C env H D a w S L) {t b : Nat} (e : L t = some b) : ¬ S.has b := (h.L_own e).elim fun _ o => o.apart
def Lset (L : Nat → Option Nat) (d : Nat) (b : Option Nat) : Nat → Option Nat := fun t => if t = d then b else L t
theorem Sat.put (h : Sat C env H D a w S L) {d : Nat} (hd : d < a.tmps.size) {p : AV} {y : Value} (hp : p.isLin = false) (r : Rep S p y) :
    Sat C (upd env d p) H D (a.put (some d) y) w S (Lset L d none) where
  size := by first | exact h.size | (simp only [Act.put, Array.size_setIfInBounds]; exact h.size)
  dfs := h.dfs
  le := h.le
  sin := h.sin
  snew := h.snew
  below := h.below
  env := by
    intro t
    by_cases ht : t = d
    · subst ht
      simp only [upd_same, Act.put, getD_set_same hd, Lset, if_true]
      exact RepT.of_rep hp r
    · simp only [upd_other env p ht, Act.put, getD_set_other ht, Lset, if_neg ht]
      exact h.env t
  heap := h.heap
  frame := h.frame
  nodup := h.nodup
  lin := by
    intro t b e
    simp only [Lset] at e
    split at e
    · cases e
    · exact h.lin t b e
  linj := by
    intro t u b e1 e2
    simp only [Lset] at e1 e2
    split at e1
    · cases e1
    · split at e2
      · cases e2
      · exact h.linj t u b e1 e2
theorem RepT.world {B : Nat → Prop} {S : Snap} {w w' : World} {b : Option Nat} {p : AV} {y : Value} (r : RepT B S w b p y) (k : ∀ g, b = some g → w'.heap[g]? = w.heap[g]?) : RepT B S w' b p y := by
  cases p
  case lin T k' es =>
    simp only [RepT] at r ⊢
    rcases r with r | ⟨g, cap, hb, hy, ho⟩
    · exact .inl r
    · exact .inr ⟨g, cap, hb, hy, ho.base, ho.apart, by rw [k g hb]; exact ho.holds⟩
  case lbox T cs =>
    simp only [RepT] at r ⊢
    obtain ⟨g, hb, hy, ho⟩ := r
    exact ⟨g, hb, hy, ho.base, ho.apart, by rw [k g hb]; exact ho.holds⟩
  case linV T k' es ad cap' =>
    simp only [RepT] at r ⊢
    obtain ⟨r1, r⟩ := r
    refine ⟨r1, ?_⟩
    rcases r with r | ⟨g, cap, hb, hy, ho⟩
    · exact .inl r
    · exact .inr ⟨g, cap, hb, hy, ho.base, ho.apart, by rw [k g hb]; exact ho.holds⟩
  case lmap cs es =>
    simp only [RepT] at r ⊢
    obtain ⟨g, bb, off, hb, hy, hc, ho⟩ := r
    exact ⟨g, bb, off, hb, hy, hc, ho.base, ho.apart, by rw [k g hb]; exact ho.holds⟩
  all_goals exact r
theorem Own.world {B : Nat → Prop} {S : Snap} {w w' : World} {b : Nat} {x : HObj} (h : Own B S w b x) (k : w'.heap[b]? = w.heap[b]?) : Own B S w' b x :=
  ⟨h.base, h.apart, by rw [k]; exact h.holds⟩
theorem Sat.world (h : Sat C env H D a w S L) {w' : World} (hb : BelowA C.A w w') (hs : ∀ b, S.has b → w'.heap[b]? = w.heap[b]?)
    (ho : ∀ b, b ∈ (H ++ C.F).map (·.1) → w'.heap[b]? = w.heap[b]?) (hl : ∀ t b, L t = some b → w'.heap[b]? = w.heap[b]?) : Sat C env H D a w' S L where
  size := by first | exact h.size | (simp only [Act.put, Array.size_setIfInBounds]; exact h.size)
  dfs := h.dfs
  le := h.le
  sin := h.sin.of_agree hs
  snew := h.snew
  below := h.below.trans hb
  env := fun t => (h.env t).world (fun g e => hl t g e)
  heap := fun e he => (h.heap e he).world (ho e.1 (by simp only [List.map_append, List.mem_append, List.mem_map]; exact .inl ⟨e, he, rfl⟩))
  frame := fun e he => (h.frame e he).world (ho e.1 (by simp only [List.map_append, List.mem_append, List.mem_map]; exact .inr ⟨e, he, rfl⟩))
  nodup := h.nodup
  lin := h.lin
  linj := h.linj
theorem Sat.own_lt (h : Sat C env H D a w S L) {b : Nat} (hb : b ∈ (H ++ C.F).map (·.1)) : b < w.heap.size := by
  simp only [List.map_append, List.mem_append, List.mem_map] at hb
  rcases hb with ⟨e, he, rfl⟩ | ⟨e, he, rfl⟩
  · exact (h.heap e he).lt
  · exact (h.frame e he).lt
theorem Sat.grow (h : Sat C env H D a w S L) {w' : World} (k : RowKit.Below w.heap.size w w') : Sat C env H D a w' S L :=
  h.world (BelowA.of_below k) (fun b hb => k.block b (h.sin.lt hb)) (fun b hb => k.block b (h.own_lt hb)) (fun _ _ e => k.block _ (h.L_lt e))
theorem Sat.snap (h : Sat C env H D a w S L) {T : Snap} (hle : S.Le T) (hin : T.In w) (hnew : ∀ b, T.has b → S.has b ∨ C.A b) (hh : ∀ e ∈ H ++ C.F, ¬ T.has e.1) (hl : ∀ t b, L t = some b → ¬ T.has b) : Sat C env H D a w T L where
  size := by first | exact h.size | (simp only [Act.put, Array.size_setIfInBounds]; exact h.size)
  dfs := h.dfs
  le := h.le.trans hle
  sin := hin
  snew := fun b hb => (hnew b hb).elim (h.snew b) .inr
  below := h.below
  env := by
    intro t
    have r := h.env t
    cases hp : env t
    case lin T' k es =>
      rw [hp] at r
      simp only [RepT] at r ⊢
      rcases r with r | ⟨g, cap, hb, hy, ho⟩
      · exact .inl r
      · obtain ⟨o, e, x⟩ := ho.holds
        exact .inr ⟨g, cap, hb, hy, ho.base, hl t g hb, o, e, x.mono hle⟩
    case lbox T' cs =>
      rw [hp] at r
      simp only [RepT] at r ⊢
      obtain ⟨g, hb, hy, ho⟩ := r
      obtain ⟨o, e, x⟩ := ho.holds
      exact ⟨g, hb, hy, ho.base, hl t g hb, o, e, x.mono hle⟩
    case linV T' k es ad cap' =>
      rw [hp] at r
      simp only [RepT] at r ⊢
      obtain ⟨r1, r⟩ := r
      refine ⟨r1, ?_⟩
      rcases r with r | ⟨g, cap, hb, hy, ho⟩
      · exact .inl r
      · obtain ⟨o, e, x⟩ := ho.holds
        exact .inr ⟨g, cap, hb, hy, ho.base, hl t g hb, o, e, x.mono hle⟩
    case lmap cs es =>
      rw [hp] at r
      simp only [RepT] at r ⊢
      obtain ⟨g, bb, off, hb, hy, hc, ho⟩ := r
      obtain ⟨o, e, x⟩ := ho.holds
      exact ⟨g, bb, off, hb, hy, RepC.mono hle _ _ _ hc, ho.base, hl t g hb, o, e, x.mono hle⟩
    all_goals
      rw [hp] at r
      have r' := RepT.rep (by simp [AV.isLin]) r
      rw [r'.1]
      exact RepT.of_rep (by simp [AV.isLin]) (Rep.mono hle _ _ r'.2)
  heap := fun e he => by
    obtain ⟨o, e1, x⟩ := (h.heap e he).holds
    exact ⟨(h.heap e he).base, hh e (List.mem_append.2 (.inl he)), o, e1, x.mono hle⟩
  frame := fun e he => by
    obtain ⟨o, e1, x⟩ := (h.frame e he).holds
    exact ⟨(h.frame e he).base, hh e (List.mem_append.2 (.inr he)), o, e1, x.mono hle⟩
  nodup := h.nodup
  lin := h.lin
  linj := h.linj
theorem Sat.alloc (h : Sat C env H D a w S L) {x : HObj} {o : Obj} (hx : Holds S x o) :
    Sat C env ((w.heap.size, x) :: H) D a (w.alloc o) S L := by
  have k : RowKit.Below w.heap.size w (w.alloc o) := (RowKit.Below.refl _ _).alloc (Nat.le_refl _) _
  have g := h.grow k
  have hnew : (w.alloc o).heap[w.heap.size]? = some o := heap_alloc_new w o
  refine { g with heap := ?_, nodup := ?_, lin := ?_ }
  · intro e he
    rcases List.mem_cons.1 he with rfl | he
    · exact ⟨h.fresh (Nat.le_refl _), fun hs => absurd (h.sin.lt hs) (Nat.lt_irrefl _), o, hnew, hx⟩
    · exact g.heap e he
  · simp only [List.cons_append, List.map_cons, List.nodup_cons]
    exact ⟨fun hm => absurd (h.own_lt hm) (Nat.lt_irrefl _), h.nodup⟩
  · intro t b e
    simp only [List.cons_append, List.map_cons, List.mem_cons, not_or]
    exact ⟨fun hb => absurd (h.L_lt e) (by omega), h.lin t b e⟩
end sat
end Go.Px

namespace Go.Px
inductive LOp where
  | mov (x : Operand)
  | pick (c x y : Operand)
  | bin (op : BinOp) (T : TypeId) (x y : Operand)
  | eqT (neg : Bool) (T : TypeId) (x y : Operand)
  | un (op : UnOp) (x : Operand)
  | toInt (k : IntKind) (src dst : TypeId) (x : Operand)
  | conv (src dst : TypeId) (x : Operand)
  | extract (x : Operand) (i : Nat)
  | faddr (T : TypeId) (x : Operand) (f off : Nat)
  | iaddr (T : TypeId) (x i : Operand) (k : Nat)
  | iaddrA (T : TypeId) (x i : Operand) (n k : Nat)
  | load (T : TypeId) (x : Operand) (n : Option Nat)
  | store (T : TypeId) (x y : Operand) (n : Nat)
  | field (T : TypeId) (x : Operand) (f off : Nat) (n : Option Nat)
  | indexS (T : TypeId) (x i : Operand)
  | indexA (T : TypeId) (x i : Operand) (n k : Nat) (g : Option Nat)
  | build (T : TypeId) (ps : List (Nat × Operand)) (zero : List Value) (places : List (Nat × Nat × Operand))
  | bslice (T : TypeId) (len : Nat) (ps : List (Nat × Operand)) (E k : Nat) (zero : List Value)
  | alloc (T : TypeId) (zero : List Value)
  | box (T : TypeId) (x : Operand)
  | mkfn (f : Fn) (first caps : List Operand)
  | nilck (x : Operand)
  | len (str : Bool) (T : TypeId) (ty : TypeId) (x : Operand)
  | lenM (T : TypeId) (ty : TypeId) (x : Operand)
  | append (T : TypeId) (ty : TypeId) (x y : Operand) (E k bytes : Nat) (zero : List Value)
  | appendS (T U : TypeId) (ty : TypeId) (x y : Operand) (E k bytes : Nat) (zero : List Value)
  | appendM (T U : TypeId) (ty : TypeId) (x y : Operand) (E k bytes : Nat) (zero : List Value)
  | sdata (T : TypeId) (ty : TypeId) (x : Operand)
  | ustr (T U : TypeId) (ty : TypeId) (x y : Operand)
  | copy (T : TypeId) (U : TypeId) (ty : TypeId) (x y : Operand) (E k : Nat)
  | min (ts : List TypeId) (ty : TypeId) (xs : List Operand)
  | max (ts : List TypeId) (ty : TypeId) (xs : List Operand)
  | mslice (T : TypeId) (l c : Operand) (E k bytes : Nat) (zero : List Value)
  | mmap (T : TypeId)
  | lookup (T : TypeId) (x i : Operand) (ok : Bool) (K E : TypeId) (zero : List Value)
  | mapup (T : TypeId) (x i y : Operand) (K E : TypeId)
  | mapent (T : TypeId) (x i : Operand) (K E : TypeId) (zero : List Value)
  | entst (T : TypeId) (x s y : Operand)
  | range (T : TypeId) (x : Operand) (str : Bool)
  | next (x : Operand) (str : Bool) (ty : TypeId)
  | entry (x : Operand)
  | sliceS (T : TypeId) (x : Operand) (lo hi mx : Option Operand)
  | sliceE (T : TypeId) (x : Operand) (lo hi mx : Option Operand) (k : Nat)
  | sliceA (T : TypeId) (x : Operand) (lo hi mx : Option Operand) (n k : Nat)
  | call (f : FuncId) (args : List Operand) (ty : TypeId)
  | callv (x : Operand) (args : List Operand) (ty : TypeId)
  | mkif (T : TypeId) (x : Operand)
  | tass (x : Operand) (T A : TypeId) (ok : Bool)
  | panic (x : Operand)
  | other (op : Op)
structure LOper where
  dst : Option Nat
  guard : Option (Nat × Bool)
  op : LOp
def aggOf (P : Program) (t : TypeId) : Bool := match P.underlying t with
  | some (.struct _) | some (.array _ _) => true
  | _ => false
def aggN (P : Program) (t : TypeId) : Option (Option Nat) := match P.info? t, P.underlying t with
  | some i, some _ => if aggOf P t then some (some i.size) else if i.size = 1 then some none else none
  | _, _ => none
def zeroOf (P : Program) (t : TypeId) : Option (List Value) := match P.info? t with
  | some i => (i.zero).map fun z => z.cells.toList
  | none => none
def buildPlaces (P : Program) (fs : Array Field) : List (Nat × Operand) → Option (List (Nat × Nat × Operand))
  | [] => some []
  | (f, x) :: l => match fs[f]?, buildPlaces P fs l with
    | some fd, some r => (P.info? fd.type).map fun j => (fd.offset, j.size, x) :: r
    | _, _ => none
def lowerOp (P : Program) (o : Oper) : Option LOp :=
  match o.op with
  | .move x | .assign x => some (.mov x)
  | .pick c x y => some (.pick c x y)
  | .binOp op T x y _ =>
    match op, P.underlying T with
    | .eql, some (.int _) | .eql, some .string => some (.bin .eql T x y)
    | .neq, some (.int _) | .neq, some .string => some (.bin .neq T x y)
    | .eql, some _ => some (.eqT false T x y)
    | .neq, some _ => some (.eqT true T x y)
    | op, some _ => some (.bin op T x y)
    | _, none => none
  | .unOp op _ x => some (.un op x)
  | .convert src dst x =>
    match P.underlying src, P.underlying dst with
    | some (.int _), some (.int k) => some (.toInt k src dst x)
    | some _, some _ => some (.conv src dst x)
    | _, _ => none
  | .extract x i => some (.extract x i)
  | .fieldAddr T x f =>
    match P.underlying T with
    | some (.struct fs) =>
      match fs[f]? with
      | some fd => match P.info? fd.type with
        | some i => if i.size = 0 then none else some (.faddr T x f fd.offset)
        | none => none
      | none => none
    | _ => none
  | .indexAddr T x i =>
    match P.underlying T with
    | some (.slice E) => (P.info? E).map fun j => .iaddr T x i j.size
    | some (.array n E) => if n ≤ 1 then none else (P.info? E).map fun j => .iaddrA T x i n j.size
    | _ => none
  | .load T x => (aggN P T).map fun n => .load T x n
  | .store T x y => (P.info? T).map fun j => .store T x y j.size
  | .field T x f =>
    match P.underlying T with
    | some (.struct fs) =>
      match fs[f]? with
      | some fd => (aggN P fd.type).map fun n => .field T x f fd.offset n
      | none => none
    | _ => none
  | .index T x i =>
    match P.underlying T with
    | some .string => some (.indexS T x i)
    | some (.array n E) => match P.info? E, aggN P E with
      | some j, some g => some (.indexA T x i n j.size g)
      | _, _ => none
    | _ => none
  | .build T ps =>
    match zeroOf P T, P.underlying T with
    | some z, some (.struct fs) => if fs.toList.all (fun f => (P.info? f.type).isSome) then (buildPlaces P fs ps.toList).map fun places => .build T ps.toList z places else none
    | some z, some (.array _ E) => (P.info? E).map fun j => .build T ps.toList z (ps.toList.map fun p => (p.1 * j.size, j.size, p.2))
    | _, _ => none
  | .buildSlice T n ps =>
    match P.underlying T with
    | some (.slice E) => match P.info? E, zeroOf P E with
      | some j, some z => if j.size = 0 ∨ n * j.size > 2 ^ 24 ∨ z.length ≠ j.size then none else some (.bslice T n ps.toList E j.size z)
      | _, _ => none
    | _ => none
  | .alloc T => (zeroOf P T).map fun z => .alloc T z
  | .box T x => some (.box T x)
  | .makeFunc f first caps => some (.mkfn f first.toList caps.toList)
  | .nilCheck x => some (.nilck x)
  | .call { callee := .builtin .len, args, argTypes } => match argTypes.toList, args.toList with
    | [T], [x] => match P.underlying T with
      | some .string => some (.len true T o.type x)
      | some (.slice _) => some (.len false T o.type x)
      | some (.map _ _) => some (.lenM T o.type x)
      | _ => none
    | _, _ => none
  | .call { callee := .builtin .append, args, argTypes } => match argTypes.toList, args.toList with
    | [T, U], [x, y] => match P.underlying T with
      | some (.slice E) => match P.info? E, zeroOf P E with
        | some j, some z => if j.size = 0 ∨ z.length ≠ j.size then none else if T = U then some (.append T o.type x y E j.size j.bytes z) else match P.underlying U with
          | some .string => some (.appendS T U o.type x y E j.size j.bytes z)
          | some (.int _) => some (.appendM T U o.type x y E j.size j.bytes z)
          | _ => none
        | _, _ => none
      | _ => none
    | _, _ => none
  | .call { callee := .builtin .unsafeSliceData, args, argTypes } => match argTypes.toList, args.toList with
    | [T], [x] => some (.sdata T o.type x)
    | _, _ => none
  | .call { callee := .builtin .unsafeString, args, argTypes } => match argTypes.toList, args.toList with
    | [T, U], [x, y] => some (.ustr T U o.type x y)
    | _, _ => none
  | .call { callee := .builtin .copy, args, argTypes } => match argTypes.toList, args.toList with
    | [T, U], [x, y] => match P.underlying T with
      | some (.slice E) => match P.info? E with
        | some j => some (.copy T U o.type x y E j.size)
        | _ => none
      | _ => none
    | _, _ => none
  | .call { callee := .builtin .min, args, argTypes } => some (.min argTypes.toList o.type args.toList)
  | .call { callee := .builtin .max, args, argTypes } => some (.max argTypes.toList o.type args.toList)
  | .call { callee := .value (.func f), args, .. } => match P.funcs[f]? with
    | some fn => if fn.name == "runtime.NumGoroutine" || fn.body.isNone then none else some (.call f args.toList o.type)
    | none => none
  | .call { callee := .value x, args, .. } => some (.callv x args.toList o.type)
  | .makeSlice T l c =>
    match P.underlying T with
    | some (.slice E) => match P.info? E, zeroOf P E with
      | some j, some z => if j.size = 0 ∨ z.length ≠ j.size then none else some (.mslice T l c E j.size j.bytes z)
      | _, _ => none
    | _ => none
  | .makeMap T none => some (.mmap T)
  | .lookup T x i ok =>
    match P.underlying T with
    | some (.map K E) => (zeroOf P E).map fun z => .lookup T x i ok K E z
    | _ => none
  | .mapUpdate T x i y | .insert T x i y =>
    match P.underlying T with
    | some (.map K E) => some (.mapup T x i y K E)
    | _ => none
  | .mapEntry T x i =>
    match P.underlying T with
    | some (.map K E) => (zeroOf P E).map fun z => .mapent T x i K E z
    | _ => none
  | .entryStore T x s y => some (.entst T x s y)
  | .range T x =>
    match P.underlying T with
    | some .string => some (.range T x true)
    | some (.map _ _) => some (.range T x false)
    | _ => none
  | .next x s => some (.next x s o.type)
  | .entry x => some (.entry x)
  | .slice T x lo hi mx =>
    match P.underlying T with
    | some .string => if mx.isSome then none else some (.sliceS T x lo hi mx)
    | some (.slice E) => (P.info? E).map fun j => .sliceE T x lo hi mx j.size
    | some (.array n E) => (P.info? E).map fun j => .sliceA T x lo hi mx n j.size
    | _ => none
  | .makeInterface T x => match P.underlying T with
    | some (.interface _) => none
    | some _ => some (.mkif T x)
    | none => none
  | .typeAssert x T A ok => some (.tass x T A ok)
  | .panic x => some (.panic x)
  | op => some (.other op)
end Go.Px

namespace Go.Px
inductive Lo (P : Program) (o : Oper) : LOp → Prop where
  | mov {x} : o.op = .move x ∨ o.op = .assign x → Lo P o (.mov x)
  | pick {c x y} : o.op = .pick c x y → Lo P o (.pick c x y)
  | bin {op T x y U d} : o.op = .binOp op T x y U → P.underlying T = some d → ((op = .eql ∨ op = .neq) → (∃ k, d = .int k) ∨ d = .string) → Lo P o (.bin op T x y)
  | eqT {neg T x y U d} : o.op = .binOp (if neg then .neq else .eql) T x y U → P.underlying T = some d → Lo P o (.eqT neg T x y)
  | un {op T x} : o.op = .unOp op T x → Lo P o (.un op x)
  | toInt {k k' src dst x} : o.op = .convert src dst x → P.underlying src = some (.int k') → P.underlying dst = some (.int k) → Lo P o (.toInt k src dst x)
  | conv {src dst x d e} : o.op = .convert src dst x → P.underlying src = some d → P.underlying dst = some e → Lo P o (.conv src dst x)
  | extract {x i} : o.op = .extract x i → Lo P o (.extract x i)
  | faddr {T x f fs fd i} : o.op = .fieldAddr T x f → P.underlying T = some (.struct fs) → fs[f]? = some fd → P.info? fd.type = some i → i.size ≠ 0 → Lo P o (.faddr T x f fd.offset)
  | iaddr {T x i E j} : o.op = .indexAddr T x i → P.underlying T = some (.slice E) → P.info? E = some j → Lo P o (.iaddr T x i j.size)
  | iaddrA {T x i E j n} : o.op = .indexAddr T x i → P.underlying T = some (.array n E) → ¬ n ≤ 1 → P.info? E = some j → Lo P o (.iaddrA T x i n j.size)
  | load {T x n} : o.op = .load T x → aggN P T = some n → Lo P o (.load T x n)
  | store {T x y j} : o.op = .store T x y → P.info? T = some j → Lo P o (.store T x y j.size)
  | field {T x f fs fd n} : o.op = .field T x f → P.underlying T = some (.struct fs) → fs[f]? = some fd → aggN P fd.type = some n → Lo P o (.field T x f fd.offset n)
  | indexS {T x i} : o.op = .index T x i → P.underlying T = some .string → Lo P o (.indexS T x i)
  | indexA {T x i n E j g} : o.op = .index T x i → P.underlying T = some (.array n E) → P.info? E = some j → aggN P E = some g → Lo P o (.indexA T x i n j.size g)
  | buildS {T ps z fs pl} : o.op = .build T ps → zeroOf P T = some z → P.underlying T = some (.struct fs) → fs.toList.all (fun f => (P.info? f.type).isSome) = true → buildPlaces P fs ps.toList = some pl → Lo P o (.build T ps.toList z pl)
  | buildA {T ps z n E j} : o.op = .build T ps → zeroOf P T = some z → P.underlying T = some (.array n E) → P.info? E = some j →
      Lo P o (.build T ps.toList z (ps.toList.map fun p => (p.1 * j.size, j.size, p.2)))
  | bslice {T n ps E j z} : o.op = .buildSlice T n ps → P.underlying T = some (.slice E) → P.info? E = some j → zeroOf P E = some z → ¬ (j.size = 0 ∨ n * j.size > 2 ^ 24 ∨ z.length ≠ j.size) →
      Lo P o (.bslice T n ps.toList E j.size z)
  | alloc {T z} : o.op = .alloc T → zeroOf P T = some z → Lo P o (.alloc T z)
  | box {T x} : o.op = .box T x → Lo P o (.box T x)
  | mkfn {f first caps} : o.op = .makeFunc f first caps → Lo P o (.mkfn f first.toList caps.toList)
  | nilck {x} : o.op = .nilCheck x → Lo P o (.nilck x)
  | lenS {T x} : o.op = .call { callee := .builtin .len, args := #[x], argTypes := #[T] } → P.underlying T = some .string → Lo P o (.len true T o.type x)
  | lenE {T x E} : o.op = .call { callee := .builtin .len, args := #[x], argTypes := #[T] } → P.underlying T = some (.slice E) → Lo P o (.len false T o.type x)
  | lenM {T x K E} : o.op = .call { callee := .builtin .len, args := #[x], argTypes := #[T] } → P.underlying T = some (.map K E) → Lo P o (.lenM T o.type x)
  | append {T x y E j z} : o.op = .call { callee := .builtin .append, args := #[x, y], argTypes := #[T, T] } → P.underlying T = some (.slice E) → P.info? E = some j → zeroOf P E = some z →
      ¬ (j.size = 0 ∨ z.length ≠ j.size) → Lo P o (.append T o.type x y E j.size j.bytes z)
  | appendS {T U x y E j z} : o.op = .call { callee := .builtin .append, args := #[x, y], argTypes := #[T, U] } → P.underlying T = some (.slice E) → P.underlying U = some .string → P.info? E = some j → zeroOf P E = some z →
      ¬ (j.size = 0 ∨ z.length ≠ j.size) → Lo P o (.appendS T U o.type x y E j.size j.bytes z)
  | appendM {T U x y E j z k} : o.op = .call { callee := .builtin .append, args := #[x, y], argTypes := #[T, U] } → P.underlying T = some (.slice E) → P.underlying U = some (.int k) → P.info? E = some j → zeroOf P E = some z →
      ¬ (j.size = 0 ∨ z.length ≠ j.size) → Lo P o (.appendM T U o.type x y E j.size j.bytes z)
  | sdata {T x} : o.op = .call { callee := .builtin .unsafeSliceData, args := #[x], argTypes := #[T] } → Lo P o (.sdata T o.type x)
  | ustr {T U x y} : o.op = .call { callee := .builtin .unsafeString, args := #[x, y], argTypes := #[T, U] } → Lo P o (.ustr T U o.type x y)
  | copy {T U x y E j} : o.op = .call { callee := .builtin .copy, args := #[x, y], argTypes := #[T, U] } → P.underlying T = some (.slice E) → P.info? E = some j →
      Lo P o (.copy T U o.type x y E j.size)
  | min {ts xs} : o.op = .call { callee := .builtin .min, args := xs, argTypes := ts } → Lo P o (.min ts.toList o.type xs.toList)
  | max {ts xs} : o.op = .call { callee := .builtin .max, args := xs, argTypes := ts } → Lo P o (.max ts.toList o.type xs.toList)
  | call {f xs ts fn} : o.op = .call { callee := .value (.func f), args := xs, argTypes := ts } → P.funcs[f]? = some fn → (fn.name == "runtime.NumGoroutine") = false → fn.body.isNone = false →
      Lo P o (.call f xs.toList o.type)
  | callv {x xs ts} : o.op = .call { callee := .value x, args := xs, argTypes := ts } → Lo P o (.callv x xs.toList o.type)
  | mslice {T l c E j z} : o.op = .makeSlice T l c → P.underlying T = some (.slice E) → P.info? E = some j → zeroOf P E = some z → ¬ (j.size = 0 ∨ z.length ≠ j.size) →
      Lo P o (.mslice T l c E j.size j.bytes z)
  | mmap {T} : o.op = .makeMap T none → Lo P o (.mmap T)
  | lookup {T x i ok K E z} : o.op = .lookup T x i ok → P.underlying T = some (.map K E) → zeroOf P E = some z → Lo P o (.lookup T x i ok K E z)
  | mapup {T x i y K E} : (o.op = .mapUpdate T x i y ∨ o.op = .insert T x i y) → P.underlying T = some (.map K E) → Lo P o (.mapup T x i y K E)
  | mapent {T x i K E z} : o.op = .mapEntry T x i → P.underlying T = some (.map K E) → zeroOf P E = some z → Lo P o (.mapent T x i K E z)
  | entst {T x s y} : o.op = .entryStore T x s y → Lo P o (.entst T x s y)
  | rangeS {T x} : o.op = .range T x → P.underlying T = some .string → Lo P o (.range T x true)
  | rangeM {T x K E} : o.op = .range T x → P.underlying T = some (.map K E) → Lo P o (.range T x false)
  | next {x s} : o.op = .next x s → Lo P o (.next x s o.type)
  | entry {x} : o.op = .entry x → Lo P o (.entry x)
  | sliceS {T x lo hi} : o.op = .slice T x lo hi none → P.underlying T = some .string → Lo P o (.sliceS T x lo hi none)
  | sliceE {T x lo hi mx E j} : o.op = .slice T x lo hi mx → P.underlying T = some (.slice E) → P.info? E = some j → Lo P o (.sliceE T x lo hi mx j.size)
  | sliceA {T x lo hi mx n E j} : o.op = .slice T x lo hi mx → P.underlying T = some (.array n E) → P.info? E = some j → Lo P o (.sliceA T x lo hi mx n j.size)
  | mkif {T x d} : o.op = .makeInterface T x → P.underlying T = some d → (∀ m, d ≠ .interface m) → Lo P o (.mkif T x)
  | tass {x T A ok} : o.op = .typeAssert x T A ok → Lo P o (.tass x T A ok)
  | panic {x} : o.op = .panic x → Lo P o (.panic x)
  | other {op} : o.op = op → Lo P o (.other op)
theorem arr1 {α : Type} {a : Array α} {x : α} (h : a.toList = [x]) : a = #[x] := by cases a; simp_all
theorem arr2 {α : Type} {a : Array α} {x y : α} (h : a.toList = [x, y]) : a = #[x, y] := by cases a; simp_all
theorem lowerOp_lo {P : Program} {o : Oper} {l : LOp} (h : lowerOp P o = some l) : Lo P o l := by
  obtain ⟨dst, op, ty, pos, after, guard⟩ := o
  cases op
  case binOp op T x y U =>
    simp only [lowerOp] at h
    split at h
    all_goals first
      | (cases h; exact .bin rfl (by assumption) (fun _ => .inl ⟨_, rfl⟩))
      | (cases h; exact .bin rfl (by assumption) (fun _ => .inr rfl))
      | (cases h; exact .eqT (neg := false) rfl (by assumption))
      | (cases h; exact .eqT (neg := true) rfl (by assumption))
      | (cases h; refine .bin rfl (by assumption) (fun he => ?_); rcases he with he | he <;> subst he <;> simp_all)
      | cases h
  case convert src dst x =>
    simp only [lowerOp] at h
    split at h
    · cases h; exact .toInt rfl (by assumption) (by assumption)
    · cases h; exact .conv rfl (by assumption) (by assumption)
    · cases h
  case fieldAddr T x f =>
    simp only [lowerOp] at h
    repeat' split at h
    all_goals first
      | cases h; done
      | (cases h; exact .faddr rfl (by assumption) (by assumption) (by assumption) (by assumption))
  case indexAddr T x i =>
    simp only [lowerOp] at h
    repeat' split at h
    all_goals first
      | cases h; done
      | (obtain ⟨j, hj, rfl⟩ := h; exact .iaddr rfl (by assumption) hj)
      | (simp only [Option.map_eq_some_iff] at h; obtain ⟨j, hj, rfl⟩ := h; exact .iaddr rfl (by assumption) hj)
      | (simp only [Option.map_eq_some_iff] at h; obtain ⟨j, hj, rfl⟩ := h; exact .iaddrA rfl (by assumption) (by assumption) hj)
  case load T x => simp only [lowerOp, Option.map_eq_some_iff] at h; obtain ⟨n, hn, rfl⟩ := h; exact .load rfl hn
  case store T x y => simp only [lowerOp, Option.map_eq_some_iff] at h; obtain ⟨j, hn, rfl⟩ := h; exact .store rfl hn
  case field T x f =>
    simp only [lowerOp] at h
    repeat' split at h
    all_goals first
      | cases h; done
      | (simp only [Option.map_eq_some_iff] at h; obtain ⟨n, hn, rfl⟩ := h; exact .field rfl (by assumption) (by assumption) hn)
  case index T x i =>
    simp only [lowerOp] at h
    repeat' split at h
    all_goals first
      | cases h; done
      | (cases h; exact .indexS rfl (by assumption))
      | (cases h; exact .indexA rfl (by assumption) (by assumption) (by assumption))
  case build T ps =>
    simp only [lowerOp] at h
    repeat' split at h
    all_goals first
      | cases h; done
      | (simp only [Option.map_eq_some_iff] at h; obtain ⟨n, hn, rfl⟩ := h; exact .buildS rfl (by assumption) (by assumption) (by assumption) hn)
      | (simp only [Option.map_eq_some_iff] at h; obtain ⟨n, hn, rfl⟩ := h; exact .buildA rfl (by assumption) (by assumption) hn)
  case buildSlice T n ps =>
    simp only [lowerOp] at h
    repeat' split at h
    all_goals first
      | cases h; done
      | (cases h; exact .bslice rfl (by assumption) (by assumption) (by assumption) (by assumption))
  case alloc T => simp only [lowerOp, Option.map_eq_some_iff] at h; obtain ⟨j, hn, rfl⟩ := h; exact .alloc rfl hn
  case makeSlice T l c =>
    simp only [lowerOp] at h
    repeat' split at h
    all_goals first
      | cases h; done
      | (cases h; exact .mslice rfl (by assumption) (by assumption) (by assumption) (by assumption))
  case makeMap T r =>
    cases r <;> simp only [lowerOp] at h <;> cases h
    · exact .mmap rfl
    · exact .other rfl
  case lookup T x i ok =>
    simp only [lowerOp] at h
    repeat' split at h
    all_goals first
      | cases h; done
      | (simp only [Option.map_eq_some_iff] at h; obtain ⟨n, hn, rfl⟩ := h; exact .lookup rfl (by assumption) hn)
  case mapUpdate T x i y =>
    simp only [lowerOp] at h
    repeat' split at h
    all_goals first
      | cases h; done
      | (cases h; exact .mapup (.inl rfl) (by assumption))
  case insert T x i y =>
    simp only [lowerOp] at h
    repeat' split at h
    all_goals first
      | cases h; done
      | (cases h; exact .mapup (.inr rfl) (by assumption))
  case mapEntry T x i =>
    simp only [lowerOp] at h
    repeat' split at h
    all_goals first
      | cases h; done
      | (simp only [Option.map_eq_some_iff] at h; obtain ⟨n, hn, rfl⟩ := h; exact .mapent rfl (by assumption) hn)
  case range T x =>
    simp only [lowerOp] at h
    repeat' split at h
    all_goals first
      | cases h; done
      | (cases h; exact .rangeS rfl (by assumption))
      | (cases h; exact .rangeM rfl (by assumption))
  case slice T x lo hi mx =>
    simp only [lowerOp] at h
    repeat' split at h
    all_goals first
      | cases h; done
      | (cases mx <;> simp_all; subst h; exact .sliceS rfl (by assumption))
      | (simp only [Option.map_eq_some_iff] at h; obtain ⟨n, hn, rfl⟩ := h; exact .sliceE rfl (by assumption) hn)
      | (simp only [Option.map_eq_some_iff] at h; obtain ⟨n, hn, rfl⟩ := h; exact .sliceA rfl (by assumption) hn)
  case makeInterface T x =>
    simp only [lowerOp] at h
    split at h
    · cases h
    · rename_i d hd hn
      cases h
      exact .mkif rfl hn (fun m e => by subst e; exact hd m rfl)
    · cases h
  case call c =>
    obtain ⟨callee, args, argTypes⟩ := c
    cases callee with
    | value x =>
      cases x with
      | func f =>
        simp only [lowerOp] at h
        split at h
        · split at h
          · cases h
          · rename_i fn hf hc
            cases h
            simp only [Bool.or_eq_true, not_or, Bool.not_eq_true] at hc
            exact .call rfl hf hc.1 hc.2
        · cases h
      | _ => simp only [lowerOp] at h; cases h; exact .callv rfl
    | invoke r m => simp only [lowerOp] at h; cases h; exact .other rfl
    | builtin b =>
      cases b
      case len =>
        simp only [lowerOp] at h
        split at h
        · rename_i T x h1 h2
          rw [arr1 h1, arr1 h2]
          repeat' split at h
          all_goals first
            | cases h; done
            | (cases h; exact .lenS rfl (by assumption))
            | (cases h; exact .lenE rfl (by assumption))
            | (cases h; exact .lenM rfl (by assumption))
        · cases h
      case append =>
        simp only [lowerOp] at h
        split at h
        · rename_i T U x y h1 h2
          rw [arr2 h1, arr2 h2]
          split at h
          · split at h
            · split at h
              · cases h
              · split at h
                · rename_i hTU
                  subst hTU
                  cases h
                  exact .append rfl (by assumption) (by assumption) (by assumption) (by assumption)
                · split at h
                  · cases h; exact .appendS rfl (by assumption) (by assumption) (by assumption) (by assumption) (by assumption)
                  · cases h; exact .appendM rfl (by assumption) (by assumption) (by assumption) (by assumption) (by assumption)
                  · cases h
            · cases h
          · cases h
        · cases h
      case unsafeSliceData =>
        simp only [lowerOp] at h
        split at h
        · rename_i T x h1 h2
          rw [arr1 h1, arr1 h2]
          cases h
          exact .sdata rfl
        · cases h
      case unsafeString =>
        simp only [lowerOp] at h
        split at h
        · rename_i T U x y h1 h2
          rw [arr2 h1, arr2 h2]
          cases h
          exact .ustr rfl
        · cases h
      case copy =>
        simp only [lowerOp] at h
        split at h
        · rename_i T U x y h1 h2
          rw [arr2 h1, arr2 h2]
          repeat' split at h
          all_goals first
            | cases h; done
            | (cases h
               exact .copy rfl (by assumption) (by assumption))
        · cases h
      case min => simp only [lowerOp] at h; cases h; exact .min rfl
      case max => simp only [lowerOp] at h; cases h; exact .max rfl
      all_goals (simp only [lowerOp] at h; cases h; exact .other rfl)
  case move x => simp only [lowerOp] at h; cases h; exact .mov (.inl rfl)
  case assign x => simp only [lowerOp] at h; cases h; exact .mov (.inr rfl)
  case pick => simp only [lowerOp] at h; cases h; exact .pick rfl
  case unOp => simp only [lowerOp] at h; cases h; exact .un rfl
  case extract => simp only [lowerOp] at h; cases h; exact .extract rfl
  case box => simp only [lowerOp] at h; cases h; exact .box rfl
  case makeFunc => simp only [lowerOp] at h; cases h; exact .mkfn rfl
  case nilCheck => simp only [lowerOp] at h; cases h; exact .nilck rfl
  case entryStore => simp only [lowerOp] at h; cases h; exact .entst rfl
  case next => simp only [lowerOp] at h; cases h; exact .next rfl
  case entry => simp only [lowerOp] at h; cases h; exact .entry rfl
  case typeAssert => simp only [lowerOp] at h; cases h; exact .tass rfl
  case panic => simp only [lowerOp] at h; cases h; exact .panic rfl
  all_goals (simp only [lowerOp] at h; cases h; exact .other rfl)
end Go.Px

namespace Go.Px
def Fw (r : Option Nat) : Fence := { Fence.wide with round := r }
def cv : Value → AV
  | .slice none 0 0 => .nil
  | .agg cs => .agg (cs.toList.map .v)
  | v => .v v
def evO (env : Env) : Operand → AV
  | .tmp t => env t
  | .const v => cv v
  | .global g => .v (.pointer (some ⟨g, 0, none⟩))
  | .func f => .fn (.func f) [] []
theorem repL_v (S : Snap) : ∀ l : List Value, RepL S (l.map .v) l
  | [] => by simp [RepL]
  | c :: l => by simp only [List.map_cons, RepL]; exact ⟨c, l, rfl, by simp [Rep], repL_v S l⟩
theorem repL_v_iff (S : Snap) : ∀ l m : List Value, RepL S (l.map .v) m ↔ m = l
  | [], m => by simp [RepL]
  | c :: l, m => by
    simp only [List.map_cons, RepL, Rep, repL_v_iff S l]
    constructor
    · rintro ⟨_, _, rfl, rfl, rfl⟩; rfl
    · rintro rfl; exact ⟨_, _, rfl, rfl, rfl⟩
theorem rep_cv (S : Snap) (v : Value) : Rep S (cv v) v := by
  unfold cv
  split
  · simp [Rep]
  · rename_i cs; simp only [Rep]; exact ⟨cs.toList, by simp, repL_v S _⟩
  · simp [Rep]
theorem cv_lin (v : Value) : (cv v).isLin = false := by
  unfold cv; split <;> rfl
section
variable {C : Ctx} {env : Env} {H : Heap} {D : List Nat} {a : Act} {w : World} {S : Snap} {L : Nat → Option Nat}
theorem Sat.repO (h : Sat C env H D a w S L) (x : Operand) {p : AV} (e : evO env x = p) (hp : p.isLin = false) : Rep S p (a.eval x) := by
  cases x with
  | tmp t => exact h.rep e hp
  | const v => subst e; exact rep_cv S v
  | global g => subst e; simp [evO, Rep, Act.eval]
  | func f => subst e; simp [evO, Rep, Act.eval, RepL]
theorem Sat.repOs (h : Sat C env H D a w S L) : ∀ (xs : List Operand) {ps : List AV}, xs.map (evO env) = ps → (∀ p ∈ ps, p.isLin = false) → RepL S ps (xs.map a.eval)
  | [], ps, e, _ => by subst e; simp [RepL]
  | x :: xs, ps, e, hp => by
    subst e
    simp only [List.map_cons, RepL]
    simp only [List.map_cons, List.mem_cons] at hp
    exact ⟨_, _, rfl, h.repO x rfl (hp _ (.inl rfl)), h.repOs xs rfl (fun p m => hp p (.inr m))⟩
end
theorem Lo.semAt {P : Program} {o : Oper} {l : LOp} (h : Lo P o l) (hl : ∀ op, l ≠ .other op) (r : Option Nat) (ρ : Operand → Value) : o.semAt r ρ = execOp ρ o := by
  cases r with
  | none => rfl
  | some r =>
    apply Oper.semAt_some
    intro c hc
    cases h
    case other => exact hl _ rfl
    case mov h => rcases h with h | h <;> simp [h] at hc
    case mapup h _ => rcases h with h | h <;> simp [h] at hc
    all_goals simp_all
def Op1 (P : Program) (r : Option Nat) (N : Nat) (l : LOp) (dst : Option Nat) (env : Env) (H : Heap) (D : List Nat) (K : Env → Heap → List Nat → Prop) : Prop :=
  ∀ o : Oper, o.dst = dst → (∀ d, dst = some d → d < N) → Lo P o l → ∀ (C : Ctx) (a : Act) (w : World) (S : Snap) (L : Nat → Option Nat), C.N = N → Sat C env H D a w S L →
    ∀ (next : Act → World → Prop) (Q : Exit → Act → World → Prop),
      (∀ env' H' D' y w' S' L', K env' H' D' → Sat C env' H' D' (a.put dst y) w' S' L' → S.Le S' → next (a.put dst y) w') → o.wpIn (Fw r) 0 P a w next Q
def updO (env : Env) (dst : Option Nat) (p : AV) : Env := match dst with | some d => upd env d p | none => env
theorem Sat.putO {C : Ctx} {env : Env} {H : Heap} {D : List Nat} {a : Act} {w : World} {S : Snap} {L : Nat → Option Nat} (h : Sat C env H D a w S L) {dst : Option Nat} (hd : ∀ d, dst = some d → d < C.N)
    {p : AV} {y : Value} (hp : p.isLin = false) (rp : Rep S p y) : ∃ L', Sat C (updO env dst p) H D (a.put dst y) w S L' := by
  cases dst with
  | none => exact ⟨L, h⟩
  | some d => exact ⟨_, h.put (Nat.lt_of_lt_of_le (hd d rfl) h.size) hp rp⟩
theorem Oper.wpIn_value {P : Program} {r : Option Nat} {N : Nat} {o : Oper} {l : LOp} (hl : Lo P o l) (hno : ∀ op, l ≠ .other op) {a : Act} {w : World} {y : Value} {w' : World}
    (h : (execOp a.eval o).run P w = .ok (.value y) w') {next : Act → World → Prop} {Q : Exit → Act → World → Prop} (k : next (a.put o.dst y) w') : o.wpIn (Fw r) N P a w next Q := by
  refine ⟨fun _ _ => trivial, ?_⟩
  show o.uponIn (Fw r) N P a next Q ((o.semAt r a.eval).run P w)
  rw [hl.semAt hno, h]
  exact k
theorem Oper.wpIn_skip {P : Program} {r : Option Nat} {N : Nat} {o : Oper} {l : LOp} (hl : Lo P o l) (hno : ∀ op, l ≠ .other op) {a : Act} {w w' : World}
    (h : (execOp a.eval o).run P w = .ok .skip w') {next : Act → World → Prop} {Q : Exit → Act → World → Prop} (k : next (a.put o.dst undef) w') : o.wpIn (Fw r) N P a w next Q := by
  refine ⟨fun _ _ => trivial, ?_⟩
  show o.uponIn (Fw r) N P a next Q ((o.semAt r a.eval).run P w)
  rw [hl.semAt hno, h]
  exact k
theorem Op1.pure {P : Program} {r : Option Nat} {N : Nat} {l : LOp} {dst : Option Nat} {env : Env} {H : Heap} {D : List Nat} {K : Env → Heap → List Nat → Prop} {p : AV} (hp : p.isLin = false)
    (hno : ∀ op, l ≠ .other op)
    (h : ∀ o : Oper, Lo P o l → ∀ (C : Ctx) (a : Act) (w : World) (S : Snap) (L : Nat → Option Nat), Sat C env H D a w S L → ∃ y, (execOp a.eval o).run P w = .ok (.value y) w ∧ Rep S p y)
    (k : K (updO env dst p) H D) : Op1 P r N l dst env H D K := by
  intro o hdst hd hlo C a w S L hN hs next Q hnext
  obtain ⟨y, hrun, hrep⟩ := h o hlo C a w S L hs
  obtain ⟨L', hs'⟩ := hs.putO (dst := dst) (fun d e => hN ▸ hd d e) hp hrep
  exact Oper.wpIn_value hlo hno hrun (by rw [hdst]; exact hnext _ _ _ _ _ _ _ k hs' (Snap.Le.refl _))
theorem Op1.grow {P : Program} {r : Option Nat} {N : Nat} {l : LOp} {dst : Option Nat} {env : Env} {H : Heap} {D : List Nat} {K : Env → Heap → List Nat → Prop} {p : AV} (hp : p.isLin = false)
    (hno : ∀ op, l ≠ .other op)
    (h : ∀ o : Oper, Lo P o l → ∀ (C : Ctx) (a : Act) (w : World) (S : Snap) (L : Nat → Option Nat), Sat C env H D a w S L →
      ∃ y w' S', (execOp a.eval o).run P w = .ok (.value y) w' ∧ RowKit.Below w.heap.size w w' ∧ S.Le S' ∧ S'.In w' ∧ (∀ b, S'.has b → S.has b ∨ w.heap.size ≤ b) ∧ Rep S' p y)
    (k : K (updO env dst p) H D) : Op1 P r N l dst env H D K := by
  intro o hdst hd hlo C a w S L hN hs next Q hnext
  obtain ⟨y, w', S', hrun, hb, hle, hin, hnew, hrep⟩ := h o hlo C a w S L hs
  have hs1 := (hs.grow hb).snap hle hin (fun b hh => (hnew b hh).imp id (fun h1 => hs.fresh h1))
    (fun e he hh => by
      have hlt := hs.own_lt (b := e.1) (List.mem_map.2 ⟨e, he, rfl⟩)
      rcases hnew _ hh with h1 | h1
      · rcases List.mem_append.1 he with he | he
        · exact (hs.heap e he).apart h1
        · exact (hs.frame e he).apart h1
      · omega)
    (fun t b e hh => by
      have hlt := hs.L_lt e
      rcases hnew _ hh with h1 | h1
      · exact hs.L_apart e h1
      · omega)
  obtain ⟨L', hs'⟩ := hs1.putO (dst := dst) (fun d e => hN ▸ hd d e) hp hrep
  exact Oper.wpIn_value hlo hno hrun (by rw [hdst]; exact hnext _ _ _ _ _ _ _ k hs' hle)
structure Match1 (P : Program) (N : Nat) (arr : Array Oper) (i : Nat) (l : LOper) : Prop where
  at_ : ∃ o, arr[i]? = some o ∧ o.dst = l.dst ∧ (∀ d, l.dst = some d → d < N) ∧ Lo P o l.op ∧
    ((l.guard = none ∧ o.guard = none) ∨ ∃ j t b, l.guard = some (t, b) ∧ o.guard = some (j, b) ∧ (arr[j]?).bind (·.dst) = some t)
def MatchL (P : Program) (N : Nat) (arr : Array Oper) : List Nat → List LOper → Prop
  | [], ls => ls = []
  | i :: is, ls => ∃ l ls', ls = l :: ls' ∧ Match1 P N arr i l ∧ MatchL P N arr is ls'
abbrev Post := Exit → Env → Heap → List Nat → Prop
def PostC (C : Ctx) (Q : Post) : Exit → Act → World → Prop := fun e a w => ∃ env H D S L, Sat C env H D a w S L ∧ Q e env H D
def WOps (P : Program) (r : Option Nat) (N : Nat) (ls : List LOper) (Q : Post) (env : Env) (H : Heap) (D : List Nat) : Prop :=
  ∀ (arr : Array Oper) (is : List Nat), MatchL P N arr is ls → ∀ (C : Ctx) (a : Act) (w : World) (S : Snap) (L : Nat → Option Nat), C.N = N → Sat C env H D a w S L →
    wpOpsIn (Fw r) 0 P arr (PostC C Q) is a w
section
variable {P : Program} {r : Option Nat} {N : Nat} {Q : Post} {env : Env} {H : Heap} {D : List Nat}
theorem WOps.nil (h : Q .normal env H D) : WOps P r N [] Q env H D := by
  intro arr is hm C a w S L _ hs
  cases is with
  | nil => exact ⟨env, H, D, S, L, hs, h⟩
  | cons i is => obtain ⟨l, ls', e, _⟩ := hm; cases e
theorem wanted_none {o : Oper} {y : Nat → Option Bool} (h : o.guard = none) : Region.wanted o y = true := by simp [Region.wanted, h]
theorem WOps.cons {dst : Option Nat} {l : LOp} {ls : List LOper} (h : Op1 P r N l dst env H D (fun env' H' D' => WOps P r N ls Q env' H' D')) : WOps P r N (⟨dst, none, l⟩ :: ls) Q env H D := by
  intro arr is hm C a w S L hN hs
  cases is with
  | nil => cases hm
  | cons i is =>
    obtain ⟨l', ls', e, h1, hm'⟩ := hm
    cases e
    obtain ⟨o, ho, hdst, hd, hlo, hg⟩ := h1.at_
    have hg' : o.guard = none := by
      rcases hg with ⟨_, hg⟩ | ⟨j, t, b, hg, _⟩
      · exact hg
      · cases hg
    simp only [wpOpsIn, ho, wanted_none hg', if_true]
    exact h o hdst hd hlo C a w S L hN hs _ _ (fun env' H' D' y w' S' L' k hs' _ => k arr is hm' C _ w' S' L' hN hs')
theorem yielded_rep {arr : Array Oper} {j t : Nat} {b : Bool} {C : Ctx} {a : Act} {w : World} {S : Snap} {L : Nat → Option Nat} (hs : Sat C env H D a w S L)
    (hj : (arr[j]?).bind (·.dst) = some t) (ht : env t = .v (.bool b)) : yielded arr a.tmps j = some b := by
  have hr := hs.rep ht rfl
  simp only [Rep] at hr
  have : a.tmps[t]? = some (.bool b) := by
    rw [Array.getD_eq_getD_getElem?] at hr
    cases hx : a.tmps[t]? with
    | none => rw [hx] at hr; simp [undef] at hr
    | some x => rw [hx] at hr; simp at hr; rw [hr]
  simp [yielded, hj, this]
theorem yielded_tuple {arr : Array Oper} {j t : Nat} {cs : Array Value} {C : Ctx} {a : Act} {w : World} {S : Snap} {L : Nat → Option Nat} (hs : Sat C env H D a w S L)
    (hj : (arr[j]?).bind (·.dst) = some t) (ht : env t = .v (.tuple cs)) : yielded arr a.tmps j = none := by
  have hr := hs.rep ht rfl
  simp only [Rep] at hr
  rw [Array.getD_eq_getD_getElem?] at hr
  unfold yielded
  rw [hj]
  cases hx : a.tmps[t]? with
  | none => simp [hx]
  | some x => rw [hx] at hr; simp at hr; subst hr; simp [hx]
theorem WOps.yes {dst : Option Nat} {l : LOp} {ls : List LOper} {t : Nat} {b : Bool} (ht : env t = .v (.bool b))
    (h : Op1 P r N l dst env H D (fun env' H' D' => WOps P r N ls Q env' H' D')) : WOps P r N (⟨dst, some (t, b), l⟩ :: ls) Q env H D := by
  intro arr is hm C a w S L hN hs
  cases is with
  | nil => cases hm
  | cons i is =>
    obtain ⟨l', ls', e, h1, hm'⟩ := hm
    cases e
    obtain ⟨o, ho, hdst, hd, hlo, hg⟩ := h1.at_
    rcases hg with ⟨hg, _⟩ | ⟨j, t', b', hg, hg', hj⟩
    · cases hg
    · cases hg
      have hw : Region.wanted o (yielded arr a.tmps) = true := by
        simp [Region.wanted, hg', yielded_rep hs hj ht]
      simp only [wpOpsIn, ho, hw, if_true]
      exact h o hdst hd hlo C a w S L hN hs _ _ (fun env' H' D' y w' S' L' k hs' _ => k arr is hm' C _ w' S' L' hN hs')
theorem WOps.no {dst : Option Nat} {l : LOp} {ls : List LOper} {t : Nat} {b c : Bool} (ht : env t = .v (.bool c)) (hbc : c ≠ b)
    (h : WOps P r N ls Q (updO env dst (.v undef)) H D) : WOps P r N (⟨dst, some (t, b), l⟩ :: ls) Q env H D := by
  intro arr is hm C a w S L hN hs
  cases is with
  | nil => cases hm
  | cons i is =>
    obtain ⟨l', ls', e, h1, hm'⟩ := hm
    cases e
    obtain ⟨o, ho, hdst, hd, hlo, hg⟩ := h1.at_
    rcases hg with ⟨hg, _⟩ | ⟨j, t', b', hg, hg', hj⟩
    · cases hg
    · cases hg
      have hw : Region.wanted o (yielded arr a.tmps) = false := by
        simp [Region.wanted, hg', yielded_rep hs hj ht, hbc]
      simp only [wpOpsIn, ho, hw, if_false, Bool.false_eq_true]
      obtain ⟨L', hs'⟩ := hs.putO (dst := dst) (fun d e => hN ▸ hd d e) (p := .v undef) rfl (by simp [Rep] : Rep S (.v undef) undef)
      exact ⟨fun _ _ => trivial, by rw [hdst]; exact h arr is hm' C _ w S L' hN hs'⟩
theorem WOps.nop {dst : Option Nat} {l : LOp} {ls : List LOper} {t : Nat} {b : Bool} {cs : Array Value} (ht : env t = .v (.tuple cs))
    (h : WOps P r N ls Q (updO env dst (.v undef)) H D) : WOps P r N (⟨dst, some (t, b), l⟩ :: ls) Q env H D := by
  intro arr is hm C a w S L hN hs
  cases is with
  | nil => cases hm
  | cons i is =>
    obtain ⟨l', ls', e, h1, hm'⟩ := hm
    cases e
    obtain ⟨o, ho, hdst, hd, hlo, hg⟩ := h1.at_
    rcases hg with ⟨hg, _⟩ | ⟨j, t', b', hg, hg', hj⟩
    · cases hg
    · cases hg
      have hw : Region.wanted o (yielded arr a.tmps) = false := by
        simp [Region.wanted, hg', yielded_tuple hs hj ht]
      simp only [wpOpsIn, ho, hw, if_false, Bool.false_eq_true]
      obtain ⟨L', hs'⟩ := hs.putO (dst := dst) (fun d e => hN ▸ hd d e) (p := .v undef) rfl (by simp [Rep] : Rep S (.v undef) undef)
      exact ⟨fun _ _ => trivial, by rw [hdst]; exact h arr is hm' C _ w S L' hN hs'⟩
theorem WOps.guard {dst : Option Nat} {l : LOp} {ls : List LOper} {t : Nat} {b c : Bool} (ht : env t = .v (.bool c))
    (hy : c = b → Op1 P r N l dst env H D (fun env' H' D' => WOps P r N ls Q env' H' D')) (hn : c ≠ b → WOps P r N ls Q (updO env dst (.v undef)) H D) :
    WOps P r N (⟨dst, some (t, b), l⟩ :: ls) Q env H D := by
  by_cases h : c = b
  · subst h; exact WOps.yes ht (hy rfl)
  · exact WOps.no ht h (hn h)
end
end Go.Px

namespace Go.Px
theorem Rep.not_lin {S : Snap} {p : AV} {y : Value} (h : Rep S p y) : p.isLin = false := by
  cases p <;> simp_all [Rep, AV.isLin]
theorem RepL.length {S : Snap} : ∀ {l : List AV} {cs : List Value}, RepL S l cs → cs.length = l.length
  | [], cs, h => by simp only [RepL] at h; subst h; rfl
  | a :: l, cs, h => by
    simp only [RepL] at h
    obtain ⟨c, cs', rfl, _, h⟩ := h
    simp [h.length]
theorem RepL.get {S : Snap} : ∀ {l : List AV} {cs : List Value}, RepL S l cs → ∀ {i : Nat} {p : AV}, l[i]? = some p → ∃ c, cs[i]? = some c ∧ Rep S p c
  | [], cs, _, i, p, e => by simp at e
  | a :: l, cs, h, i, p, e => by
    simp only [RepL] at h
    obtain ⟨c, cs', rfl, h1, h2⟩ := h
    cases i with
    | zero => simp at e; subst e; exact ⟨c, by simp, h1⟩
    | succ i => simp at e ⊢; exact h2.get e
theorem RepL.drop {S : Snap} : ∀ {l : List AV} {cs : List Value} (n : Nat), RepL S l cs → RepL S (l.drop n) (cs.drop n)
  | _, _, 0, h => by simpa using h
  | [], cs, n + 1, h => by simp only [RepL] at h; subst h; simp [RepL]
  | a :: l, cs, n + 1, h => by
    simp only [RepL] at h
    obtain ⟨c, cs', rfl, h1, h2⟩ := h
    simpa using RepL.drop n h2
theorem RepL.take {S : Snap} : ∀ {l : List AV} {cs : List Value} (n : Nat), RepL S l cs → RepL S (l.take n) (cs.take n)
  | _, _, 0, h => by simp [RepL]
  | [], cs, n + 1, h => by simp only [RepL] at h; subst h; simp [RepL]
  | a :: l, cs, n + 1, h => by
    simp only [RepL] at h
    obtain ⟨c, cs', rfl, h1, h2⟩ := h
    simp only [List.take_succ_cons, RepL]
    exact ⟨c, _, rfl, h1, RepL.take n h2⟩
theorem RepL.append {S : Snap} : ∀ {l m : List AV} {cs ds : List Value}, RepL S l cs → RepL S m ds → RepL S (l ++ m) (cs ++ ds)
  | [], m, cs, ds, h, k => by simp only [RepL] at h; subst h; simpa using k
  | a :: l, m, cs, ds, h, k => by
    simp only [RepL] at h
    obtain ⟨c, cs', rfl, h1, h2⟩ := h
    simp only [List.cons_append, RepL]
    exact ⟨c, _, rfl, h1, RepL.append h2 k⟩
theorem RepL.split {S : Snap} : ∀ {l m : List AV} {cs : List Value}, RepL S (l ++ m) cs → ∃ c1 c2, cs = c1 ++ c2 ∧ RepL S l c1 ∧ RepL S m c2
  | [], m, cs, h => ⟨[], cs, rfl, by simp [RepL], h⟩
  | a :: l, m, cs, h => by
    simp only [List.cons_append, RepL] at h
    obtain ⟨c, cs', rfl, h1, h2⟩ := h
    obtain ⟨c1, c2, rfl, h3, h4⟩ := RepL.split h2
    exact ⟨c :: c1, c2, rfl, by simp only [RepL]; exact ⟨c, c1, rfl, h1, h3⟩, h4⟩
theorem RepL.set {S : Snap} : ∀ {l : List AV} {cs : List Value} (i : Nat) {p : AV} {c : Value}, RepL S l cs → Rep S p c → RepL S (l.set i p) (cs.set i c)
  | [], cs, i, p, c, h, _ => by simp only [RepL] at h; subst h; simp [RepL]
  | a :: l, cs, 0, p, c, h, k => by
    simp only [RepL] at h
    obtain ⟨c0, cs', rfl, h1, h2⟩ := h
    simp only [List.set_cons_zero, RepL]
    exact ⟨c, cs', rfl, k, h2⟩
  | a :: l, cs, i + 1, p, c, h, k => by
    simp only [RepL] at h
    obtain ⟨c0, cs', rfl, h1, h2⟩ := h
    simp only [List.set_cons_succ, RepL]
    exact ⟨c0, _, rfl, h1, RepL.set i h2 k⟩
theorem RepC.drop {S : Snap} : ∀ {cs : List AV} (n : Nat) {b o : Nat}, RepC S cs b o → RepC S (cs.drop n) b (o + n)
  | _, 0, b, o, h => by simpa using h
  | [], n + 1, b, o, h => by simp [RepC]
  | a :: cs, n + 1, b, o, h => by
    simp only [RepC] at h
    have := RepC.drop n h.2
    rw [show o + (n + 1) = o + 1 + n by omega]
    simpa using this
theorem RepC.cells {S : Snap} : ∀ {cs : List AV} {b o : Nat}, RepC S cs b o → ∀ n, n ≤ cs.length → ∃ l : List Value, RepL S (cs.take n) l ∧ (∀ c ∈ l, c.oneCell' = true) ∧ ∀ i, i < n → S.cell b (o + i) = l[i]?
  | _, b, o, _, 0, _ => ⟨[], by simp [RepL], by simp, by simp⟩
  | [], b, o, h, n + 1, hn => by simp at hn
  | a :: cs, b, o, h, n + 1, hn => by
    simp only [RepC] at h
    obtain ⟨⟨c, e, h1, r⟩, h2⟩ := h
    obtain ⟨l, rl, hl, hi⟩ := RepC.cells h2 n (by simpa using hn)
    refine ⟨c :: l, ?_, ?_, ?_⟩
    · simp only [List.take_succ_cons, RepL]; exact ⟨c, l, rfl, r, rl⟩
    · intro x hx; rcases List.mem_cons.1 hx with rfl | hx
      · exact h1
      · exact hl x hx
    · intro i hi'
      cases i with
      | zero => simpa using e
      | succ i => have := hi i (by omega); simp only [List.getElem?_cons_succ]; rw [← this]; congr 1; omega
theorem addr_add (b o n : Nat) : (⟨b, o, none⟩ : Addr).add n = ⟨b, o + n, none⟩ := by
  unfold Addr.add; split <;> simp_all
theorem run_loadCellsFrom {P : Program} {w : World} {b o : Nat} : ∀ (n i : Nat) (acc : Array Value) (l : List Value), l.length = n →
    (∀ j, j < n → w.cell? ⟨b, o + (i + j), none⟩ = l[j]?) → (loadCellsFrom ⟨b, o, none⟩ i n acc).run P w = .ok (acc ++ l.toArray) w
  | 0, i, acc, l, hl, _ => by
    cases l with
    | nil => simp [loadCellsFrom]
    | cons => simp at hl
  | n + 1, i, acc, l, hl, h => by
    cases l with
    | nil => simp at hl
    | cons c l =>
      have h0 := h 0 (by omega)
      simp at h0
      have ih := run_loadCellsFrom (P := P) (w := w) (b := b) (o := o) n (i + 1) (acc.push c) l (by simpa using hl) (fun j hj => by
        have := h (j + 1) (by omega)
        rw [show o + (i + 1 + j) = o + (i + (j + 1)) by omega]
        simpa using this)
      simp only [loadCellsFrom, addr_add, Sem.run_bind, run_load, h0, Result.andThen_ok, ih]
      simp
theorem run_loadCells {P : Program} {w : World} {b o n : Nat} {l : List Value} (hl : l.length = n) (h : ∀ j, j < n → w.cell? ⟨b, o + j, none⟩ = l[j]?) :
    (loadCells ⟨b, o, none⟩ n).run P w = .ok l.toArray w := by
  have := run_loadCellsFrom (P := P) (w := w) (b := b) (o := o) n 0 #[] l hl (fun j hj => by simpa using h j hj)
  simpa [loadCells] using this
theorem run_isAgg {P : Program} {w : World} {T : TypeId} {d : TypeDesc} (h : P.underlying T = some d) : (isAgg T).run P w = .ok (aggOf P T) w := by
  unfold isAgg aggOf
  simp only [Sem.run_bind, underlying, run_program, Result.andThen_ok, h, Sem.run_pure]
  cases d <;> rfl
theorem run_loadVar {P : Program} {w : World} {T : TypeId} {n : Option Nat} (hn : aggN P T = some n) {b o : Nat} {l : List Value}
    (hl : l.length = n.getD 1) (h : ∀ j, j < n.getD 1 → w.cell? ⟨b, o + j, none⟩ = l[j]?) :
    (loadVar T ⟨b, o, none⟩).run P w = .ok (match n with | some _ => .agg l.toArray | none => l.headD undef) w := by
  unfold aggN at hn
  cases hi : P.info? T with
  | none => rw [hi] at hn; simp at hn
  | some i =>
    cases hu : P.underlying T with
    | none => rw [hi, hu] at hn; simp at hn
    | some d =>
    rw [hi, hu] at hn
    simp only at hn
    cases ha : aggOf P T with
    | true =>
      rw [ha] at hn
      simp only [if_true, Option.some.injEq] at hn
      subst hn
      have hc := run_loadCells (P := P) (w := w) (b := b) (o := o) (n := i.size) (l := l) (by simpa using hl) (by simpa using h)
      simp only [loadVar, Sem.run_bind, run_isAgg hu, ha, Result.andThen_ok, Sem.run_ite, if_true, sizeOf, typeInfo, run_program, hi, Sem.run_pure, hc]
    | false =>
      rw [ha] at hn
      simp only [Bool.false_eq_true, if_false] at hn
      split at hn
      · rename_i hs
        simp only [Option.some.injEq] at hn
        subst hn
        cases l with
        | nil => simp at hl
        | cons c l =>
          have h0 := h 0 (by simp)
          simp at h0
          simp only [loadVar, Sem.run_bind, run_isAgg hu, ha, Result.andThen_ok, Bool.false_eq_true, Sem.run_ite, if_false, run_load, h0, List.headD_cons]
      · cases hn
end Go.Px

namespace Go.Px
def AV.isCell : AV → Bool
  | .v x => x.oneCell'
  | .any | .agg _ | .tup _ | .lin _ _ _ | .lbox _ _ | .linV _ _ _ _ _ | .lmap _ _ => false
  | _ => true
theorem Rep.oneCell {S : Snap} {p : AV} {y : Value} (h : Rep S p y) (hp : p.isCell = true) : y.oneCell' = true := by
  cases p <;> simp only [AV.isCell, Bool.false_eq_true] at hp <;> simp only [Rep] at h
  case v x => subst h; exact hp
  case nil => subst h; rfl
  case sl => rcases h with ⟨⟨_, rfl⟩, _⟩ | ⟨_, _, _, rfl, _⟩ <;> rfl
  case pi => obtain ⟨_, _, rfl, _⟩ := h; rfl
  case po => subst h; rfl
  case so => subst h; rfl
  case mi => obtain ⟨_, _, _, rfl, _⟩ := h; rfl
  case mo => subst h; rfl
  case fn => obtain ⟨_, _, rfl, _⟩ := h; rfl
  case ifc => obtain ⟨_, rfl, _⟩ := h; rfl
def cellsAV : AV → List AV
  | .agg l => l
  | p => [p]
def AV.isAggOrCell : AV → Bool
  | .agg _ => true
  | p => p.isCell
theorem Value.cells_of_one {y : Value} (h : y.oneCell' = true) : y.cells = #[y] := by
  cases y <;> simp_all [Value.cells, Value.oneCell']
theorem Rep.cells {S : Snap} {p : AV} {y : Value} (h : Rep S p y) (hp : p.isAggOrCell = true) : RepL S (cellsAV p) y.cells.toList := by
  cases p
  case agg l => simp only [Rep] at h; obtain ⟨cs, rfl, h⟩ := h; simpa [Value.cells, cellsAV] using h
  all_goals
    simp only [AV.isAggOrCell] at hp
    have h1 := h.oneCell hp
    rw [Value.cells_of_one h1]
    simp only [cellsAV, RepL]
    exact ⟨y, [], rfl, h, rfl⟩
theorem RepL.oneCells {S : Snap} : ∀ {l : List AV} {cs : List Value}, RepL S l cs → l.all AV.isCell = true → ∀ c ∈ cs, c.oneCell' = true
  | [], cs, h, _, c, hc => by simp only [RepL] at h; subst h; simp at hc
  | a :: l, cs, h, hl, c, hc => by
    simp only [RepL] at h
    obtain ⟨c0, cs', rfl, h1, h2⟩ := h
    simp only [List.all_cons, Bool.and_eq_true] at hl
    rcases List.mem_cons.1 hc with rfl | hc
    · exact h1.oneCell hl.1
    · exact h2.oneCells hl.2 c hc
def setAll (cs : List AV) (off : Nat) : List AV → List AV
  | [] => cs
  | c :: l => setAll (cs.set off c) (off + 1) l
def buildAV (cs : List AV) : List (Nat × Nat × AV) → Option (List AV)
  | [] => some cs
  | (off, size, p) :: rest =>
    if p.isAggOrCell && (cellsAV p).length == size && Nat.ble (off + (cellsAV p).length) cs.length then buildAV (setAll cs off (cellsAV p)) rest else none
theorem setAll_rep {S : Snap} : ∀ (l : List AV) (vs : List Value) (cs : List AV) (ds : List Value) (off j : Nat), RepL S l vs → RepL S cs ds →
    RepL S (setAll cs (off + j) l) ((vs.zipIdx j).foldl (fun cs (c, j) => cs.set (off + j) c) ds)
  | [], vs, cs, ds, off, j, h, k => by simp only [RepL] at h; subst h; simpa [setAll] using k
  | a :: l, vs, cs, ds, off, j, h, k => by
    simp only [RepL] at h
    obtain ⟨c, vs', rfl, h1, h2⟩ := h
    simp only [setAll, List.zipIdx_cons, List.foldl_cons]
    exact setAll_rep l vs' _ _ off (j + 1) h2 (k.set (off + j) h1)
theorem foldl_setIfInBounds (l : List (Value × Nat)) (off : Nat) : ∀ (cs : Array Value), (l.foldl (fun cs (x : Value × Nat) => cs.setIfInBounds (off + x.2) x.1) cs).toList = l.foldl (fun cs (x : Value × Nat) => cs.set (off + x.2) x.1) cs.toList := by
  induction l with
  | nil => intro cs; rfl
  | cons x l ih => intro cs; simp only [List.foldl_cons]; rw [ih]; simp
def All2 {α β : Type} (R : α → β → Prop) : List α → List β → Prop
  | [], [] => True
  | a :: l, b :: m => R a b ∧ All2 R l m
  | _, _ => False
theorem fill_rep {S : Snap} {place : Nat → Option (Nat × Nat)} : ∀ (ps : List (Nat × Value)) (qs : List (Nat × Nat × AV)) (cs : List AV) (ds : Array Value) (r : List AV),
    (All2 (fun p q => place p.1 = some (q.1, q.2.1) ∧ Rep S q.2.2 p.2) ps qs) → RepL S cs ds.toList → buildAV cs qs = some r →
    ∃ es : Array Value, Instr.fill place ds ps = some es ∧ RepL S r es.toList
  | [], [], cs, ds, r, _, k, e => by simp only [buildAV, Option.some.injEq] at e; subst e; exact ⟨ds, rfl, k⟩
  | (i, v) :: ps, (off, size, p) :: qs, cs, ds, r, h, k, e => by
    obtain ⟨⟨hp, hr⟩, h2⟩ := h
    simp only at hp hr
    simp only [buildAV] at e
    split at e
    · rename_i hc
      simp only [Bool.and_eq_true, beq_iff_eq, Nat.ble_eq] at hc
      obtain ⟨⟨hc1, hc2⟩, hc3⟩ := hc
      have hcl := hr.cells hc1
      have hlen : v.cells.size = size := by rw [← hc2, ← hcl.length]; simp
      have hlen2 : ds.size = cs.length := by rw [← k.length]; simp
      have hx := setAll_rep (cellsAV p) v.cells.toList cs ds.toList off 0 hcl k
      simp only [Nat.add_zero] at hx
      have hfold : (v.cells.zipIdx.foldl (fun cs (x : Value × Nat) => cs.setIfInBounds (off + x.2) x.1) ds).toList = (v.cells.toList.zipIdx 0).foldl (fun cs (x : Value × Nat) => cs.set (off + x.2) x.1) ds.toList := by
        rw [← Array.foldl_toList, foldl_setIfInBounds]; simp
      obtain ⟨es, he1, he2⟩ := fill_rep ps qs _ (v.cells.zipIdx.foldl (fun cs (x : Value × Nat) => cs.setIfInBounds (off + x.2) x.1) ds) r h2 (by rw [hfold]; exact hx) e
      refine ⟨es, ?_, he2⟩
      simp only [Instr.fill, hp]
      rw [if_neg]
      · exact he1
      · simp only [hlen, ne_eq, not_true_eq_false, decide_false, Bool.false_or, decide_eq_true_eq, hlen2]
        rw [← hc2]; omega
    · cases e
  | [], _ :: _, _, _, _, h, _, _ => h.elim
  | _ :: _, [], _, _, _, h, _, _ => h.elim
def loadAV (n : Option Nat) (cs : List AV) : Option AV := match n with
  | none => cs.head?
  | some m => if Nat.ble m cs.length then some (.agg (cs.take m)) else none
def fieldAV (n : Option Nat) (off : Nat) (l : List AV) : Option AV := match n with
  | none => l[off]?
  | some m => if Nat.ble (off + m) l.length then some (.agg ((l.drop off).take m)) else none
def pstep (l : LOp) (env : Env) : Option AV :=
  match l with
  | .mov x => match evO env x with
    | .any => some .any
    | .v x => some (.v x)
    | .nil => some .nil
    | .agg l => some (.agg l)
    | .tup l => some (.tup l)
    | .sl k es => some (.sl k es)
    | .pi cs => some (.pi cs)
    | .po b o => some (.po b o)
    | .so b n c => some (.so b n c)
    | .lin _ _ _ => none
    | .lbox _ _ => none
    | .linV _ _ _ _ _ => none
    | .lmap _ _ => none
    | .mi es => some (.mi es)
    | .mo b => some (.mo b)
    | .fn f a c => some (.fn f a c)
    | .ifc t x => some (.ifc t x)
  | .bin op _ x y => match evO env x, evO env y with
    | .v (.int k a), .v (.int k' b) => if k = k' then (match op with
      | .eql => some (.v (.bool (a == b)))
      | .neq => some (.v (.bool (a != b)))
      | .lss => some (.v (.bool (decide (a < b))))
      | .leq => some (.v (.bool (decide (a ≤ b))))
      | .gtr => some (.v (.bool (decide (a > b))))
      | .geq => some (.v (.bool (decide (a ≥ b))))
      | _ => none) else none
    | .v (.string a), .v (.string b) => (match op with
      | .eql => some (.v (.bool (a.toList == b.toList)))
      | .neq => some (.v (.bool !(a.toList == b.toList)))
      | .lss => some (.v (.bool (Op.bytesLess a.toList b.toList)))
      | _ => none)
    | _, _ => none
  | .un .not x => match evO env x with
    | .v (.bool b) => some (.v (.bool !b))
    | _ => none
  | .extract x i => match evO env x with
    | .tup l => l[i]?
    | _ => none
  | .faddr _ x _ off => match evO env x with
    | .pi cs => some (.pi (cs.drop off))
    | .po b o => some (.po b (o + off))
    | _ => none
  | .load _ x n => match evO env x with
    | .pi cs => loadAV n cs
    | _ => none
  | .field _ x _ off n => match evO env x with
    | .agg l => fieldAV n off l
    | _ => none
  | .mkfn f first caps => if (first.map (evO env)).all (fun p => !p.isLin) && (caps.map (evO env)).all (fun p => !p.isLin) then some (.fn f (first.map (evO env)) (caps.map (evO env))) else none
  | .nilck x => match evO env x with
    | .pi cs => some (.pi cs)
    | .po b o => some (.po b o)
    | _ => none
  | .len str _ _ x => match evO env x, str with
    | .sl _ es, false => some (.v (.int .i64 es.length))
    | .so _ n _, false => some (.v (.int .i64 n))
    | .nil, false => some (.v (.int .i64 0))
    | .v (.slice _ n _), false => some (.v (.int .i64 n))
    | .v (.string s), true => some (.v (.int .i64 s.size))
    | _, _ => none
  | .build _ _ z pl => (buildAV (z.map .v) (pl.map fun q => (q.1, q.2.1, evO env q.2.2))).map .agg
  | _ => none
end Go.Px

namespace Go.Px
section
variable {P : Program} {env : Env} {H : Heap} {D : List Nat} {C : Ctx} {a : Act} {w : World} {S : Snap} {L : Nat → Option Nat} {o : Oper}
theorem RepC.get0 {S : Snap} {cs : List AV} {b o : Nat} {p : AV} (h : RepC S cs b o) (e : cs.head? = some p) : ∃ c, S.cell b o = some c ∧ c.oneCell' = true ∧ Rep S p c := by
  cases cs with
  | nil => simp at e
  | cons x l => simp at e; subst e; simp only [RepC] at h; exact h.1
theorem step_load (hs : Sat C env H D a w S L) {T : TypeId} {x : Operand} {n : Option Nat} (hlo : Lo P o (.load T x n)) {cs : List AV} {p : AV} (hx : evO env x = .pi cs)
    (hp : loadAV n cs = some p) :
    ∃ y, (execOp a.eval o).run P w = .ok (.value y) w ∧ Rep S p y := by
  cases hlo with
  | load hop hn =>
    have hr := hs.repO x hx rfl
    simp only [Rep] at hr
    obtain ⟨b, off, hv, hc⟩ := hr
    cases n with
    | none =>
      simp only [loadAV] at hp
      obtain ⟨c, hcell, _, hrc⟩ := hc.get0 hp
      refine ⟨c, ?_, hrc⟩
      have := run_loadVar (P := P) (w := w) hn (b := b) (o := off) (l := [c]) rfl (by
        intro j hj
        have : j = 0 := by simp at hj; exact hj
        subst this
        simpa using hs.sin.cell _ _ _ hcell)
      simp [execOp, hop, Instr.loadAt, Instr.sureAddr, hv, this]
    | some m =>
      simp only [loadAV] at hp
      split at hp
      · rename_i hm
        cases hp
        obtain ⟨l, rl, _, hi⟩ := hc.cells m (Nat.le_of_ble_eq_true hm)
        have hlen : l.length = m := by rw [rl.length, List.length_take]; exact Nat.min_eq_left (Nat.le_of_ble_eq_true hm)
        refine ⟨.agg l.toArray, ?_, by simp only [Rep]; exact ⟨l, rfl, rl⟩⟩
        have := run_loadVar (P := P) (w := w) hn (b := b) (o := off) (l := l) (by simpa using hlen) (by
          intro j hj
          simp only [Option.getD_some] at hj
          have e := hi j hj
          have hj' : j < l.length := by omega
          rw [List.getElem?_eq_getElem hj'] at e ⊢
          exact hs.sin.cell _ _ _ e)
        simp [execOp, hop, Instr.loadAt, Instr.sureAddr, hv, this]
      · cases hp
theorem step_faddr {T : TypeId} {x : Operand} {f off : Nat} (hlo : Lo P o (.faddr T x f off)) {b : Nat} {q : Nat} (hv : a.eval x = .pointer (some ⟨b, q, none⟩)) :
    (execOp a.eval o).run P w = .ok (.value (.pointer (some ⟨b, q + off, none⟩))) w := by
  cases hlo with
  | faddr hop hT hf hi h0 =>
    simp [execOp, hop, Instr.fieldAt, underlying, hT, hf, Instr.sureAddr, hv, fieldPlace, sizeOf, typeInfo, hi, h0, addr_add]
theorem run_part {T : TypeId} {n : Option Nat} (hn : aggN P T = some n) {cs : Array Value} {off : Nat} {y : Value}
    (h : match n with | none => cs[off]? = some y | some m => y = .agg (cs.extract off (off + m))) : (part T cs off).run P w = .ok y w := by
  unfold aggN at hn
  cases hi : P.info? T with
  | none => rw [hi] at hn; simp at hn
  | some i =>
    cases hu : P.underlying T with
    | none => rw [hi, hu] at hn; simp at hn
    | some d =>
      rw [hi, hu] at hn
      simp only at hn
      cases ha : aggOf P T with
      | true =>
        rw [ha] at hn
        simp only [if_true, Option.some.injEq] at hn
        subst hn
        simp only at h
        subst h
        simp [part, run_isAgg hu, ha, sizeOf, typeInfo, hi]
      | false =>
        rw [ha] at hn
        simp only [Bool.false_eq_true, if_false] at hn
        split at hn
        · simp only [Option.some.injEq] at hn
          subst hn
          simp only at h
          simp [part, run_isAgg hu, ha, h]
        · cases hn
theorem step_field (hs : Sat C env H D a w S L) {T : TypeId} {x : Operand} {f off : Nat} {n : Option Nat} (hlo : Lo P o (.field T x f off n)) {l : List AV} {p : AV} (hx : evO env x = .agg l)
    (hp : fieldAV n off l = some p) :
    ∃ y, (execOp a.eval o).run P w = .ok (.value y) w ∧ Rep S p y := by
  cases hlo with
  | field hop hT hf hn =>
    have hr := hs.repO x hx rfl
    simp only [Rep] at hr
    obtain ⟨cs, hv, hc⟩ := hr
    cases n with
    | none =>
      simp only [fieldAV] at hp
      obtain ⟨c, hc1, hc2⟩ := hc.get hp
      refine ⟨c, ?_, hc2⟩
      have := run_part (P := P) (w := w) hn (cs := cs.toArray) (y := c) (by simpa using hc1)
      simp [execOp, hop, Instr.field, underlying, hT, hf, hv, asAgg, this]
    | some m =>
      simp only [fieldAV] at hp
      split at hp
      · cases hp
        rename_i fs fd _
        refine ⟨.agg ((cs.drop fd.offset).take m).toArray, ?_, by simp only [Rep]; exact ⟨_, rfl, (hc.drop _).take m⟩⟩
        have := run_part (P := P) (w := w) hn (cs := cs.toArray) (off := fd.offset) (y := .agg ((cs.drop fd.offset).take m).toArray) (by simp [List.extract_toArray, List.extract_eq_take_drop])
        simp [execOp, hop, Instr.field, underlying, hT, hf, hv, asAgg, this]
      · cases hp
theorem step_len {str : Bool} {T ty : TypeId} {x : Operand} (hlo : Lo P o (.len str T ty x)) :
    (∀ {b n c}, a.eval x = .slice b n c → str = false → (execOp a.eval o).run P w = .ok (.value (.int .i64 n)) w) ∧
    (∀ {s}, a.eval x = .string s → str = true → (execOp a.eval o).run P w = .ok (.value (.int .i64 s.size)) w) := by
  cases hlo with
  | lenS hop hT =>
    constructor
    · rintro b n c hv ⟨⟩
    · intro s hv _
      simp [execOp, hop, resolve, invoke, builtin, Builtin.len_, underlying, hT, hv, goInt]
  | lenE hop hT =>
    constructor
    · intro b n c hv _
      simp [execOp, hop, resolve, invoke, builtin, Builtin.len_, underlying, hT, hv, goInt]
    · rintro s hv ⟨⟩
end
end Go.Px

namespace Go.Px
theorem RepL.not_lin {S : Snap} {l : List AV} {cs : List Value} (h : RepL S l cs) : ∀ {i : Nat} {p : AV}, l[i]? = some p → p.isLin = false := by
  intro i p e
  obtain ⟨c, _, r⟩ := h.get e
  exact r.not_lin
section
variable {P : Program} {env : Env} {H : Heap} {D : List Nat} {C : Ctx} {a : Act} {w : World} {S : Snap} {L : Nat → Option Nat} {o : Oper}
theorem Sat.int (hs : Sat C env H D a w S L) {x : Operand} {v : Value} (e : evO env x = .v v) : a.eval x = v := by
  have := hs.repO x e rfl
  simpa only [Rep] using this
theorem run_bin_int {op : BinOp} {T : TypeId} {x y : Operand} (hlo : Lo P o (.bin op T x y)) {k : IntKind} {m n : Int} (hx : a.eval x = .int k m) (hy : a.eval y = .int k n) :
    (execOp a.eval o).run P w = ((binOp op T (.int k m) (.int k n)).run P w).andThen fun v w' => .ok (.value v) w' := by
  cases hlo with
  | bin hop hT _ =>
    cases op <;> simp [execOp, hop, hx, hy, eqGuard]
theorem run_bin_str {op : BinOp} {T : TypeId} {x y : Operand} (hlo : Lo P o (.bin op T x y)) {m n : ByteArray} (hx : a.eval x = .string m) (hy : a.eval y = .string n) :
    (execOp a.eval o).run P w = ((Op.stringOp op m n).run P w).andThen fun v w' => .ok (.value v) w' := by
  cases hlo with
  | bin hop hT _ =>
    cases op <;> simp [execOp, hop, hx, hy, eqGuard, binOp]
theorem all2_build {P : Program} {fs : Array Field} : ∀ (ps : List (Nat × Operand)) (pl : List (Nat × Nat × Operand)), buildPlaces P fs ps = some pl →
    ∀ {places : Array (Nat × Nat)}, (∀ (f : Nat) (fd : Field) (i : TypeInfo), fs[f]? = some fd → P.info? fd.type = some i → places[f]? = some (fd.offset, i.size)) →
    ∀ (_ : Sat C env H D a w S L), (∀ q ∈ pl, (evO env q.2.2).isLin = false) →
    All2 (fun (p : Nat × Value) (q : Nat × Nat × AV) => places[p.1]? = some (q.1, q.2.1) ∧ Rep S q.2.2 p.2) (ps.map fun p => (p.1, a.eval p.2)) (pl.map fun q => (q.1, q.2.1, evO env q.2.2))
  | [], pl, e, _, _, _, _ => by simp only [buildPlaces, Option.some.injEq] at e; subst e; simp [All2]
  | (f, x) :: l, pl, e, places, hp, hs, hl => by
    simp only [buildPlaces] at e
    split at e
    · rename_i fd r hf hr
      simp only [Option.map_eq_some_iff] at e
      obtain ⟨j, hj, rfl⟩ := e
      simp only [List.map_cons, All2]
      refine ⟨⟨hp f fd j hf hj, hs.repO x rfl (hl _ (List.mem_cons.2 (.inl rfl)))⟩, ?_⟩
      exact all2_build l r hr hp hs (fun q hq => hl q (List.mem_cons.2 (.inr hq)))
    · cases e
theorem buildAV_not_lin {cs : List AV} : ∀ {qs : List (Nat × Nat × AV)} {r : List AV}, buildAV cs qs = some r → ∀ q ∈ qs, q.2.2.isLin = false
  | [], _, _, q, h => by cases h
  | (off, size, p) :: rest, r, e, q, h => by
    simp only [buildAV] at e
    split at e
    · rename_i hc
      simp only [Bool.and_eq_true] at hc
      rcases List.mem_cons.1 h with rfl | h
      · cases p <;> simp_all [AV.isLin, AV.isAggOrCell, AV.isCell]
      · exact buildAV_not_lin e q h
    · cases e
theorem run_zeroValue {T : TypeId} {z : List Value} (h : zeroOf P T = some z) : ∃ v, (zeroValue T).run P w = .ok v w ∧ v.cells = z.toArray := by
  unfold zeroOf at h
  cases hi : P.info? T with
  | none => rw [hi] at h; simp at h
  | some i =>
    rw [hi] at h
    simp only [Option.map_eq_some_iff] at h
    obtain ⟨v, hv, rfl⟩ := h
    exact ⟨v, by simp [zeroValue, typeInfo, hi, hv], by simp⟩
theorem run_mapM_list {α β : Type} {f : α → Sem β} {g : α → β} : ∀ (l : List α), (∀ x ∈ l, (f x).run P w = .ok (g x) w) → (l.mapM f).run P w = .ok (l.map g) w
  | [], _ => by simp
  | x :: l, h => by
    rw [List.mapM_cons]
    simp [h x (by simp), run_mapM_list l (fun y hy => h y (by simp [hy]))]
theorem run_mapM_array {α β : Type} {f : α → Sem β} {g : α → β} (l : Array α) (h : ∀ x ∈ l.toList, (f x).run P w = .ok (g x) w) : (l.mapM f).run P w = .ok (l.map g) w := by
  rw [Array.mapM_eq_mapM_toList]
  simp only [Sem.run_map, run_mapM_list l.toList h, Result.andThen_ok]
  congr 1
  apply Array.toList_inj.1
  simp
theorem run_places {fs : Array Field} (hall : fs.toList.all (fun f => (P.info? f.type).isSome) = true) :
    ∃ places : Array (Nat × Nat), (fs.mapM (fun f => Prod.mk f.offset <$> sizeOf f.type : Field → Sem (Nat × Nat))).run P w = .ok places w ∧
      ∀ (f : Nat) (fd : Field) (i : TypeInfo), fs[f]? = some fd → P.info? fd.type = some i → places[f]? = some (fd.offset, i.size) := by
  refine ⟨fs.map (fun f => (f.offset, P.cellsOf f.type)), run_mapM_array fs ?_, ?_⟩
  · intro f hf
    have := List.all_eq_true.1 hall f hf
    obtain ⟨i, hi⟩ := Option.isSome_iff_exists.1 this
    simp [sizeOf, typeInfo, hi, Program.cellsOf]
  · intro f fd i hf hi
    simp [hf, Program.cellsOf, hi]
theorem all2_buildA {k : Nat} : ∀ (ps : List (Nat × Operand)) (_ : Sat C env H D a w S L), (∀ p ∈ ps, (evO env p.2).isLin = false) →
    All2 (fun (p : Nat × Value) (q : Nat × Nat × AV) => (fun i => some (i * k, k)) p.1 = some (q.1, q.2.1) ∧ Rep S q.2.2 p.2) (ps.map fun p => (p.1, a.eval p.2)) (ps.map fun p => (p.1 * k, k, evO env p.2))
  | [], _, _ => by simp [All2]
  | (f, x) :: l, hs, hl => by
    simp only [List.map_cons, All2]
    exact ⟨⟨by simp, hs.repO x rfl (hl (f, x) (by simp))⟩, all2_buildA l hs (fun q hq => hl q (by simp [hq]))⟩
theorem step_build (hs : Sat C env H D a w S L) {T : TypeId} {ps : List (Nat × Operand)} {z : List Value} {pl : List (Nat × Nat × Operand)} (hlo : Lo P o (.build T ps z pl)) {r : List AV}
    (hr : buildAV (z.map .v) (pl.map fun q => (q.1, q.2.1, evO env q.2.2)) = some r) : ∃ y, (execOp a.eval o).run P w = .ok (.value y) w ∧ Rep S (.agg r) y := by
  have hnl := buildAV_not_lin hr
  cases hlo with
  | buildS hop hz hT hall hpl =>
    obtain ⟨v, hv1, hv2⟩ := run_zeroValue (P := P) (w := w) hz
    obtain ⟨places, hp1, hp2⟩ := run_places (P := P) (w := w) hall
    obtain ⟨es, he1, he2⟩ := fill_rep (S := S) _ _ _ (z.toArray) r (all2_build _ _ hpl hp2 hs (fun q hq => hnl (q.1, q.2.1, evO env q.2.2) (List.mem_map.2 ⟨q, hq, rfl⟩))) (by simpa using repL_v S z) hr
    refine ⟨.agg es, ?_, by simp only [Rep]; exact ⟨es.toList, by simp, he2⟩⟩
    simp [execOp, hop, Instr.build, hv1, hv2, underlying, hT, hp1, he1]
  | buildA hop hz hT hj =>
    obtain ⟨v, hv1, hv2⟩ := run_zeroValue (P := P) (w := w) hz
    rename_i ps n E j
    simp only [List.map_map, Function.comp_def] at hr
    have h2 := all2_buildA (k := j.size) ps.toList hs (fun p hp => hnl (p.1 * j.size, j.size, evO env p.2) (by
      simp only [List.map_map, Function.comp_def]
      exact List.mem_map.2 ⟨p, hp, rfl⟩))
    obtain ⟨es, he1, he2⟩ := fill_rep (S := S) (place := fun i => some (i * j.size, j.size)) _ _ _ (z.toArray) r h2 (by simpa using repL_v S z) hr
    refine ⟨.agg es, ?_, by simp only [Rep]; exact ⟨es.toList, by simp, he2⟩⟩
    simp [execOp, hop, Instr.build, hv1, hv2, underlying, hT, sizeOf, typeInfo, hj, he1]
end
end Go.Px

namespace Go.Px
section
variable {P : Program} {env : Env} {H : Heap} {D : List Nat} {C : Ctx} {a : Act} {w : World} {S : Snap} {L : Nat → Option Nat} {o : Oper}
theorem run_mov {x : Operand} (hlo : Lo P o (.mov x)) : (execOp a.eval o).run P w = .ok (.value (a.eval x)) w := by
  cases hlo with
  | mov h => rcases h with h | h <;> simp [execOp, h]
theorem step_mov (hs : Sat C env H D a w S L) {x : Operand} {p : AV} (hlo : Lo P o (.mov x)) (hx : evO env x = p) (hp : p.isLin = false) :
    ∃ y, (execOp a.eval o).run P w = .ok (.value y) w ∧ Rep S p y := ⟨_, run_mov hlo, hs.repO x hx hp⟩
theorem step_bin (hs : Sat C env H D a w S L) {op : BinOp} {T : TypeId} {x y : Operand} {p : AV} (hlo : Lo P o (.bin op T x y)) (h : pstep (.bin op T x y) env = some p) :
    ∃ y, (execOp a.eval o).run P w = .ok (.value y) w ∧ Rep S p y := by
  simp only [pstep] at h
  split at h
  · rename_i k m k' n hx hy
    split at h
    · rename_i hk
      subst hk
      have hr := run_bin_int (P := P) (w := w) hlo (hs.int hx) (hs.int hy)
      cases op <;> simp only at h <;> cases h <;> exact ⟨_, by rw [hr]; simp [binOp, Op.intCmp]; rfl, by simp [Rep]⟩
    · cases h
  · rename_i m n hx hy
    have hr := run_bin_str (P := P) (w := w) hlo (hs.int hx) (hs.int hy)
    cases op <;> simp only at h <;> cases h <;> exact ⟨_, by rw [hr]; simp [Op.stringOp]; rfl, by simp [Rep]⟩
  · cases h
theorem pstep_ok (hs : Sat C env H D a w S L) {l : LOp} {p : AV} (hlo : Lo P o l) (h : pstep l env = some p) :
    ∃ y, (execOp a.eval o).run P w = .ok (.value y) w ∧ Rep S p y := by
  cases l
  case mov x =>
    simp only [pstep] at h
    split at h
    all_goals first
      | cases h; done
      | (rename_i hx; cases h; exact step_mov hs hlo hx rfl)
  case bin => exact step_bin hs hlo h
  case un op x =>
    cases op <;> simp only [pstep] at h <;> first | cases h; done | skip
    split at h
    · rename_i b hx
      cases h
      cases hlo with
      | un hop => exact ⟨_, by simp [execOp, hop, hs.int hx, Op.unary]; rfl, by simp [Rep]⟩
    · cases h
  case extract x i =>
    simp only [pstep] at h
    split at h
    · rename_i l hx
      have hr := hs.repO x hx rfl
      simp only [Rep] at hr
      obtain ⟨cs, hv, hc⟩ := hr
      obtain ⟨c, hc1, hc2⟩ := hc.get h
      cases hlo with
      | extract hop => exact ⟨c, by simp [execOp, hop, hv, Instr.extract, hc1], hc2⟩
    · cases h
  case faddr T x f off =>
    simp only [pstep] at h
    split at h
    · rename_i cs hx
      cases h
      have hr := hs.repO x hx rfl
      simp only [Rep] at hr
      obtain ⟨b, q, hv, hc⟩ := hr
      exact ⟨_, step_faddr hlo hv, by simp only [Rep]; exact ⟨b, q + off, rfl, hc.drop off⟩⟩
    · rename_i b q hx
      cases h
      have hr := hs.repO x hx rfl
      simp only [Rep] at hr
      exact ⟨_, step_faddr hlo hr, by simp [Rep]⟩
    · cases h
  case load T x n =>
    simp only [pstep] at h
    split at h
    · rename_i cs hx; exact step_load hs hlo hx h
    · cases h
  case field T x f off n =>
    simp only [pstep] at h
    split at h
    · rename_i l hx; exact step_field hs hlo hx h
    · cases h
  case mkfn f first caps =>
    simp only [pstep] at h
    split at h
    · rename_i hc
      cases h
      simp only [Bool.and_eq_true, List.all_eq_true, Bool.not_eq_true'] at hc
      cases hlo with
      | mkfn hop =>
        rename_i fa ca
        refine ⟨_, by simp [execOp, hop, Instr.makeFunc]; rfl, ?_⟩
        simp only [Rep]
        exact ⟨fa.toList.map a.eval, ca.toList.map a.eval, by simp [← Array.toList_map], hs.repOs fa.toList rfl hc.1, hs.repOs ca.toList rfl hc.2⟩
    · cases h
  case nilck x =>
    simp only [pstep] at h
    split at h
    · rename_i cs hx
      cases h
      have hr := hs.repO x hx rfl
      have hr' := hr
      simp only [Rep] at hr'
      obtain ⟨b, q, hv, _⟩ := hr'
      cases hlo with
      | nilck hop => exact ⟨a.eval x, by simp [execOp, hop, hv], hr⟩
    · rename_i b q hx
      cases h
      have hr := hs.repO x hx rfl
      have hr' := hr
      simp only [Rep] at hr'
      cases hlo with
      | nilck hop => exact ⟨a.eval x, by simp [execOp, hop, hr'], hr⟩
    · cases h
  case len str T ty x =>
    simp only [pstep] at h
    split at h
    · rename_i k es hx
      cases h
      have hr := hs.repO x hx rfl
      simp only [Rep] at hr
      rcases hr with ⟨⟨_, hv⟩, he⟩ | ⟨b, q, cap, hv, _⟩
      · subst he; exact ⟨_, (step_len hlo).1 hv rfl, by simp [Rep]⟩
      · exact ⟨_, (step_len hlo).1 hv rfl, by simp [Rep]⟩
    · rename_i b n cap hx
      cases h
      have hr := hs.repO x hx rfl
      simp only [Rep] at hr
      exact ⟨_, (step_len hlo).1 hr rfl, by simp [Rep]⟩
    · rename_i hx
      cases h
      have hr := hs.repO x hx rfl
      simp only [Rep] at hr
      exact ⟨_, (step_len hlo).1 hr rfl, by simp [Rep]⟩
    · rename_i ad n c hx
      cases h
      exact ⟨_, (step_len hlo).1 (hs.int hx) rfl, by simp [Rep]⟩
    · rename_i s hx
      cases h
      exact ⟨_, (step_len hlo).2 (hs.int hx) rfl, by simp [Rep]⟩
    · cases h
  case build T ps z pl =>
    simp only [pstep, Option.map_eq_some_iff] at h
    obtain ⟨r, hr, rfl⟩ := h
    exact step_build hs hlo hr
  all_goals (simp only [pstep] at h; cases h)
theorem pstep_not_other {l : LOp} {p : AV} (h : pstep l env = some p) : ∀ op, l ≠ .other op := by
  rintro op rfl
  simp [pstep] at h
theorem Op1.plain {r : Option Nat} {N : Nat} {l : LOp} {dst : Option Nat} {K : Env → Heap → List Nat → Prop} {p : AV} (h : pstep l env = some p) (hp : p.isLin = false)
    (k : K (updO env dst p) H D) : Op1 P r N l dst env H D K :=
  Op1.pure hp (pstep_not_other h) (fun _ hlo _ _ _ _ _ hs => pstep_ok hs hlo h) k
def prun : List LOper → Env → Env × List LOper
  | [], env => (env, [])
  | ⟨dst, g, l⟩ :: ls, env =>
    match g with
    | some _ => (env, ⟨dst, g, l⟩ :: ls)
    | none => match pstep l env with
      | some p => bif p.isLin then (env, ⟨dst, none, l⟩ :: ls) else (match dst with
        | some d => prun ls (upd env d p)
        | none => prun ls env)
      | none => (env, ⟨dst, none, l⟩ :: ls)
theorem WOps.run {r : Option Nat} {N : Nat} {Q : Post} : ∀ {ls : List LOper} {env env' : Env} {ls' : List LOper}, prun ls env = (env', ls') → WOps P r N ls' Q env' H D → WOps P r N ls Q env H D
  | [], env, env', ls', e, h => by simp only [prun, Prod.mk.injEq] at e; obtain ⟨rfl, rfl⟩ := e; exact h
  | ⟨dst, g, l⟩ :: ls, env, env', ls', e, h => by
    simp only [prun] at e
    split at e
    · simp only [Prod.mk.injEq] at e; obtain ⟨rfl, rfl⟩ := e; exact h
    · split at e
      · rename_i p hp
        cases hl : p.isLin with
        | true => rw [hl] at e; simp only [cond_true, Prod.mk.injEq] at e; obtain ⟨rfl, rfl⟩ := e; exact h
        | false =>
          rw [hl] at e
          simp only [cond_false] at e
          split at e
          · exact WOps.cons (Op1.plain hp hl (WOps.run e h))
          · exact WOps.cons (Op1.plain hp hl (WOps.run e h))
      · simp only [Prod.mk.injEq] at e; obtain ⟨rfl, rfl⟩ := e; exact h
end
end Go.Px

namespace Go.Px
section
variable {P : Program} {r : Option Nat} {N : Nat} {env : Env} {H : Heap} {D : List Nat} {dst : Option Nat} {K : Env → Heap → List Nat → Prop}
theorem i64_wrap {n : Int} (h1 : -9223372036854775808 ≤ n) (h2 : n ≤ 9223372036854775807) : IntKind.i64.wrap n = n := by
  have := IntWalk.i64_in n ⟨h1, h2⟩
  exact this
theorem Op1.add {T : TypeId} {x y : Operand} {a b : Int} (hx : evO env x = .v (.int .i64 a)) (hy : evO env y = .v (.int .i64 b)) (h1 : -9223372036854775808 ≤ a + b) (h2 : a + b ≤ 9223372036854775807)
    (k : K (updO env dst (.v (.int .i64 (a + b)))) H D) : Op1 P r N (.bin .add T x y) dst env H D K :=
  Op1.pure rfl (by simp) (fun o hlo C ac w S L hs => ⟨_, by
    rw [run_bin_int hlo (hs.int hx) (hs.int hy)]
    simp only [binOp, Op.intArith, ne_eq, not_true_eq_false, if_false, Sem.run_pure, Result.andThen_ok, i64_wrap h1 h2]; rfl, by simp [Rep]⟩) k
theorem Op1.sub {T : TypeId} {x y : Operand} {a b : Int} (hx : evO env x = .v (.int .i64 a)) (hy : evO env y = .v (.int .i64 b)) (h1 : -9223372036854775808 ≤ a - b) (h2 : a - b ≤ 9223372036854775807)
    (k : K (updO env dst (.v (.int .i64 (a - b)))) H D) : Op1 P r N (.bin .sub T x y) dst env H D K :=
  Op1.pure rfl (by simp) (fun o hlo C ac w S L hs => ⟨_, by
    rw [run_bin_int hlo (hs.int hx) (hs.int hy)]
    simp only [binOp, Op.intArith, ne_eq, not_true_eq_false, if_false, Sem.run_pure, Result.andThen_ok, i64_wrap h1 h2]; rfl, by simp [Rep]⟩) k
theorem Op1.mul {T : TypeId} {x y : Operand} {a b : Int} (hx : evO env x = .v (.int .i64 a)) (hy : evO env y = .v (.int .i64 b)) (h1 : -9223372036854775808 ≤ a * b) (h2 : a * b ≤ 9223372036854775807)
    (k : K (updO env dst (.v (.int .i64 (a * b)))) H D) : Op1 P r N (.bin .mul T x y) dst env H D K :=
  Op1.pure rfl (by simp) (fun o hlo C ac w S L hs => ⟨_, by
    rw [run_bin_int hlo (hs.int hx) (hs.int hy)]
    simp only [binOp, Op.intArith, ne_eq, not_true_eq_false, if_false, Sem.run_pure, Result.andThen_ok, i64_wrap h1 h2]; rfl, by simp [Rep]⟩) k
theorem Op1.binv {op : BinOp} {T : TypeId} {x y : Operand} {kd : IntKind} {a b : Int} {v : Value} (hx : evO env x = .v (.int kd a)) (hy : evO env y = .v (.int kd b))
    (h : ∀ w : World, (binOp op T (.int kd a) (.int kd b)).run P w = .ok v w) (k : K (updO env dst (.v v)) H D) : Op1 P r N (.bin op T x y) dst env H D K :=
  Op1.pure rfl (by simp) (fun o hlo C ac w S L hs => ⟨v, by rw [run_bin_int hlo (hs.int hx) (hs.int hy), h]; rfl, by simp [Rep]⟩) k
theorem Op1.quo {T : TypeId} {x y : Operand} {a b : Nat} (hx : evO env x = .v (.int .i64 a)) (hy : evO env y = .v (.int .i64 b)) (h1 : (a : Int) ≤ 9223372036854775807) (h2 : 0 < b)
    (k : K (updO env dst (.v (.int .i64 ((a / b : Nat) : Int)))) H D) : Op1 P r N (.bin .quo T x y) dst env H D K :=
  Op1.binv hx hy (fun w => by
    have hb : ¬ (b : Int) = 0 := by omega
    have hd : (a / b : Nat) ≤ a := Nat.div_le_self _ _
    simp only [binOp, Op.intDiv, ne_eq, not_true_eq_false, if_false, hb]
    rw [show (a : Int).tdiv (b : Int) = ((a / b : Nat) : Int) from rfl]
    generalize a / b = q at hd ⊢
    rw [i64_wrap (by omega) (by omega)]
    rfl) k
theorem Op1.rem {T : TypeId} {x y : Operand} {a b : Nat} {kd : IntKind} (hx : evO env x = .v (.int kd a)) (hy : evO env y = .v (.int kd b)) (h2 : 0 < b)
    (k : K (updO env dst (.v (.int kd ((a % b : Nat) : Int)))) H D) : Op1 P r N (.bin .rem T x y) dst env H D K :=
  Op1.binv hx hy (fun w => by
    have hb : ¬ (b : Int) = 0 := by omega
    simp only [binOp, Op.intDiv, ne_eq, not_true_eq_false, if_false, hb]
    rfl) k
theorem ofInt_nat (a : Nat) : BitVec.ofInt 64 (a : Int) = BitVec.ofNat 64 a := by simp
theorem Op1.and {T : TypeId} {x y : Operand} {a b : Nat} (hx : evO env x = .v (.int .i64 a)) (hy : evO env y = .v (.int .i64 b)) (h1 : a < 9223372036854775808) (h2 : b < 9223372036854775808)
    (k : K (updO env dst (.v (.int .i64 ((a &&& b : Nat) : Int)))) H D) : Op1 P r N (.bin .and T x y) dst env H D K :=
  Op1.binv hx hy (fun w => by
    have h3 : a &&& b ≤ a := Nat.and_le_left
    show ((Pure.pure (.int .i64 (IntKind.i64.wrap ((BitVec.ofInt 64 (a : Int) &&& BitVec.ofInt 64 (b : Int)).toNat : Int))) : Sem Value)).run P w = _
    rw [ofInt_nat, ofInt_nat, BitVec.toNat_and, BitVec.toNat_ofNat, BitVec.toNat_ofNat, Nat.mod_eq_of_lt (show a < 2 ^ 64 by omega), Nat.mod_eq_of_lt (show b < 2 ^ 64 by omega), i64_wrap (by omega) (by omega)]
    rfl) k
theorem Op1.or {T : TypeId} {x y : Operand} {a b : Nat} (hx : evO env x = .v (.int .i64 a)) (hy : evO env y = .v (.int .i64 b)) (h1 : a < 2 ^ 63) (h2 : b < 2 ^ 63)
    (k : K (updO env dst (.v (.int .i64 ((a ||| b : Nat) : Int)))) H D) : Op1 P r N (.bin .or T x y) dst env H D K :=
  Op1.binv hx hy (fun w => by
    have h3 : a ||| b < 2 ^ 63 := Nat.or_lt_two_pow h1 h2
    show ((Pure.pure (.int .i64 (IntKind.i64.wrap ((BitVec.ofInt 64 (a : Int) ||| BitVec.ofInt 64 (b : Int)).toNat : Int))) : Sem Value)).run P w = _
    rw [ofInt_nat, ofInt_nat, BitVec.toNat_or, BitVec.toNat_ofNat, BitVec.toNat_ofNat, Nat.mod_eq_of_lt (show a < 2 ^ 64 by omega), Nat.mod_eq_of_lt (show b < 2 ^ 64 by omega), i64_wrap (by omega) (by omega)]
    rfl) k
theorem Op1.andNot {T : TypeId} {x y : Operand} {a b : Nat} (hx : evO env x = .v (.int .i64 a)) (hy : evO env y = .v (.int .i64 b)) (h1 : a < 9223372036854775808)
    (k : K (updO env dst (.v (.int .i64 (((BitVec.ofNat 64 a &&& ~~~ BitVec.ofNat 64 b).toNat : Nat) : Int)))) H D) : Op1 P r N (.bin .andNot T x y) dst env H D K :=
  Op1.binv hx hy (fun w => by
    have h3 : (BitVec.ofNat 64 a &&& ~~~ BitVec.ofNat 64 b).toNat ≤ a := by
      rw [BitVec.toNat_and, BitVec.toNat_ofNat, Nat.mod_eq_of_lt (show a < 2 ^ 64 by omega)]
      exact Nat.and_le_left
    show ((Pure.pure (.int .i64 (IntKind.i64.wrap ((BitVec.ofInt 64 (a : Int) &&& ~~~ BitVec.ofInt 64 (b : Int)).toNat : Int))) : Sem Value)).run P w = _
    rw [ofInt_nat, ofInt_nat]
    generalize (BitVec.ofNat 64 a &&& ~~~ BitVec.ofNat 64 b).toNat = q at h3 ⊢
    rw [i64_wrap (by omega) (by omega)]
    rfl) k
theorem Op1.shl {T : TypeId} {x y : Operand} {a b : Nat} (hx : evO env x = .v (.int .i64 a)) (hy : evO env y = .v (.int .i64 b)) (hb : b < 64) (h1 : a * 2 ^ b < 9223372036854775808)
    (k : K (updO env dst (.v (.int .i64 ((a * 2 ^ b : Nat) : Int)))) H D) : Op1 P r N (.bin .shl T x y) dst env H D K :=
  Op1.binv hx hy (fun w => by
    have hb' : ¬ (b : Int) < 0 := by omega
    simp only [binOp, Op.shift, hb', if_false, IntKind.bits, Int.toNat_natCast, Nat.min_eq_left (Nat.le_of_lt hb)]
    rw [show (a : Int) * 2 ^ b = ((a * 2 ^ b : Nat) : Int) by simp, i64_wrap (by omega) (by omega)]
    rfl) k
theorem Op1.shr {T : TypeId} {x y : Operand} {a b : Nat} (hx : evO env x = .v (.int .i64 a)) (hy : evO env y = .v (.int .i64 b)) (hb : b < 64)
    (k : K (updO env dst (.v (.int .i64 ((a / 2 ^ b : Nat) : Int)))) H D) : Op1 P r N (.bin .shr T x y) dst env H D K :=
  Op1.binv hx hy (fun w => by
    have hb' : ¬ (b : Int) < 0 := by omega
    simp only [binOp, Op.shift, hb', if_false, IntKind.bits, Int.toNat_natCast, Nat.min_eq_left (Nat.le_of_lt hb)]
    rw [show (2 : Int) ^ b = ((2 ^ b : Nat) : Int) by simp, Int.fdiv_eq_ediv_of_nonneg _ (Int.natCast_nonneg _)]
    rfl) k
theorem Op1.pickT {c x y : Operand} {b : Bool} {p : AV} (hc : evO env c = .v (.bool b)) (hb : b = true) (hx : evO env x = p) (hp : p.isLin = false) (k : K (updO env dst p) H D) :
    Op1 P r N (.pick c x y) dst env H D K :=
  Op1.pure hp (by simp) (fun o hlo C ac w S L hs => ⟨_, by
    cases hlo with
    | pick hop => simp [execOp, hop, hs.int hc, hb, asBool], hs.repO x hx hp⟩) k
theorem Op1.pickF {c x y : Operand} {b : Bool} {p : AV} (hc : evO env c = .v (.bool b)) (hb : b = false) (hx : evO env y = p) (hp : p.isLin = false) (k : K (updO env dst p) H D) :
    Op1 P r N (.pick c x y) dst env H D K :=
  Op1.pure hp (by simp) (fun o hlo C ac w S L hs => ⟨_, by
    cases hlo with
    | pick hop => simp [execOp, hop, hs.int hc, hb, asBool], hs.repO y hx hp⟩) k
theorem Op1.toInt {kd kx : IntKind} {src T : TypeId} {x : Operand} {n m : Int} (hx : evO env x = .v (.int kx n)) (hm : kd.wrap n = m) (k : K (updO env dst (.v (.int kd m))) H D) :
    Op1 P r N (.toInt kd src T x) dst env H D K :=
  Op1.pure rfl (by simp) (fun o hlo C ac w S L hs => ⟨.int kd m, by
    cases hlo with
    | toInt hop h1 h2 => simp [execOp, hop, hs.int hx, convert, underlying, h1, h2, Conv.intToInt, hm], by simp [Rep]⟩) k
theorem RepE.get {S : Snap} {kk : Nat} : ∀ {es : List (List AV)} {b o : Nat}, RepE S kk es b o → ∀ {m : Nat} {e : List AV}, es[m]? = some e → RepC S e b (o + m * kk) ∧ e.length = kk
  | [], _, _, _, m, e, h => by simp at h
  | l :: es, b, o, hr, m, e, h => by
    simp only [RepE] at hr
    cases m with
    | zero => simp at h; subst h; simpa using ⟨hr.2.1, hr.1⟩
    | succ m =>
      have := hr.2.2.get (m := m) (e := e) (by simpa using h)
      rw [show o + (m + 1) * kk = o + kk + m * kk by rw [Nat.add_mul]; omega]
      exact this
theorem get_lt {α : Type} {l : List α} {m : Nat} {e : α} (h : l[m]? = some e) : m < l.length := (List.getElem?_eq_some_iff.1 h).1
theorem Op1.iaddr {T : TypeId} {x i : Operand} {kk : Nat} {es : List (List AV)} {kd : IntKind} {n : Int} (m : Nat) {e : List AV} (hx : evO env x = .sl kk es) (hi : evO env i = .v (.int kd n)) (hn : n = m)
    (he : es[m]? = some e) (k : K (updO env dst (.pi e)) H D) : Op1 P r N (.iaddr T x i kk) dst env H D K :=
  Op1.pure rfl (by simp) (fun o hlo C ac w S L hs => by
    have hr := hs.repO x hx rfl
    simp only [Rep] at hr
    rcases hr with ⟨_, h0⟩ | ⟨b, off, cap, hv, _, _, hE⟩
    · subst h0; simp at he
    · have hlt := get_lt he
      refine ⟨.pointer (some ⟨b, off + m * kk, none⟩), ?_, by simp only [Rep]; exact ⟨b, _, rfl, (hE.get he).1⟩⟩
      cases hlo with
      | iaddr hop hT hj =>
        subst hn
        simp [execOp, hop, Instr.indexAt, hs.int hi, asIntOf, underlying, hT, hv, hlt, sizeOf, typeInfo, hj, addr_add]) k
theorem Op1.iaddrA {T : TypeId} {x i : Operand} {len kk : Nat} {cs : List AV} {kd : IntKind} {n : Int} (m : Nat) (hx : evO env x = .pi cs) (hi : evO env i = .v (.int kd n)) (hn : n = m) (hm : m < len)
    (k : K (updO env dst (.pi (cs.drop (m * kk)))) H D) : Op1 P r N (.iaddrA T x i len kk) dst env H D K :=
  Op1.pure rfl (by simp) (fun o hlo C ac w S L hs => by
    have hr := hs.repO x hx rfl
    simp only [Rep] at hr
    obtain ⟨b, off, hv, hC⟩ := hr
    refine ⟨.pointer (some ⟨b, off + m * kk, none⟩), ?_, by simp only [Rep]; exact ⟨b, _, rfl, hC.drop _⟩⟩
    cases hlo with
    | iaddrA hop hT h1 hj =>
      subst hn
      simp [execOp, hop, Instr.indexAt, hs.int hi, asIntOf, underlying, hT, hv, Instr.sureAddr, hm, sizeOf, typeInfo, hj, addr_add]) k
theorem Op1.iaddrAo {T : TypeId} {x i : Operand} {len kk b off : Nat} {kd : IntKind} {n : Int} (m : Nat) (hx : evO env x = .po b off) (hi : evO env i = .v (.int kd n)) (hn : n = m) (hm : m < len)
    (k : K (updO env dst (.po b (off + m * kk))) H D) : Op1 P r N (.iaddrA T x i len kk) dst env H D K :=
  Op1.pure rfl (by simp) (fun o hlo C ac w S L hs => by
    have hr := hs.repO x hx rfl
    simp only [Rep] at hr
    refine ⟨.pointer (some ⟨b, off + m * kk, none⟩), ?_, by simp [Rep]⟩
    cases hlo with
    | iaddrA hop hT h1 hj =>
      subst hn
      simp [execOp, hop, Instr.indexAt, hs.int hi, asIntOf, underlying, hT, hr, Instr.sureAddr, hm, sizeOf, typeInfo, hj, addr_add]) k
theorem Op1.iaddrO {T : TypeId} {x i : Operand} {len kk b cap : Nat} {kd : IntKind} {n : Int} (m : Nat) (hx : evO env x = .so b len cap) (hi : evO env i = .v (.int kd n)) (hn : n = m) (hm : m < len)
    (k : K (updO env dst (.po b (m * kk))) H D) : Op1 P r N (.iaddr T x i kk) dst env H D K :=
  Op1.pure rfl (by simp) (fun o hlo C ac w S L hs => by
    have hr := hs.repO x hx rfl
    simp only [Rep] at hr
    refine ⟨.pointer (some ⟨b, m * kk, none⟩), ?_, by simp [Rep]⟩
    cases hlo with
    | iaddr hop hT hj =>
      subst hn
      simp [execOp, hop, Instr.indexAt, hs.int hi, asIntOf, underlying, hT, hr, hm, sizeOf, typeInfo, hj, addr_add]) k
theorem Op1.indexS {T : TypeId} {x i : Operand} {s : ByteArray} {kd : IntKind} {n : Int} (m : Nat) {c : UInt8} (hx : evO env x = .v (.string s)) (hi : evO env i = .v (.int kd n)) (hn : n = m)
    (hc : s.data.toList[m]? = some c) (k : K (updO env dst (.v (.int .u8 c.toNat))) H D) : Op1 P r N (.indexS T x i) dst env H D K :=
  Op1.pure rfl (by simp) (fun o hlo C ac w S L hs => ⟨.int .u8 c.toNat, by
    cases hlo with
    | indexS hop hT =>
      have hsm : s[m]? = some c := by
        have h1 : m < s.size := by
          have := get_lt hc
          simpa using this
        have h2 : s.data.toList[m]? = some s[m] := by
          rw [List.getElem?_eq_getElem (by simpa using h1)]; rfl
        rw [h2] at hc
        rw [getElem?_pos s m h1]
        exact hc
      have h0 : 0 ≤ n := by omega
      simp [execOp, hop, Instr.index, hs.int hi, hs.int hx, asIntOf, underlying, hT, hn, hsm], by simp [Rep]⟩) k
end
end Go.Px

namespace Go.Px
def setSeg (cs : List AV) (off : Nat) (l : List AV) : List AV := cs.take off ++ l ++ cs.drop (off + l.length)
section
variable {C : Ctx} {env : Env} {H : Heap} {D : List Nat} {a : Act} {w : World} {S : Snap} {L : Nat → Option Nat}
theorem Sat.at_ (hs : Sat C env H D a w S L) {i b : Nat} {x : HObj} (h : H[i]? = some (b, x)) : Own C.A S w b x := hs.heap (b, x) (List.mem_of_getElem? h)
theorem Sat.replace (hs : Sat C env H D a w S L) {i b : Nat} {x y : HObj} (h : H[i]? = some (b, x)) {w' : World} {o : Obj} (ho : w'.heap[b]? = some o) (hy : Holds S y o)
    (hsz : w'.heap.size = w.heap.size) (hoth : ∀ g, g ≠ b → w'.heap[g]? = w.heap[g]?) (hos : w'.os = w.os) (htp : w'.tape = w.tape) (hout : w'.output = w.output) :
    Sat C env (H.set i (b, y)) D a w' S L := by
  have hown := hs.at_ h
  have hil : i < H.length := get_lt h
  have hmap : ((H.set i (b, y)) ++ C.F).map (·.1) = (H ++ C.F).map (·.1) := by
    simp only [List.map_append, List.map_set]
    congr 1
    apply List.ext_getElem?
    intro n
    rw [List.getElem?_set]
    have hi' : H[i] = (b, x) := by
      have := List.getElem?_eq_getElem hil
      rw [h] at this
      exact (Option.some.inj this).symm
    split
    · rename_i e; subst e; simp [hil, hi']
    · rfl
  have hnd := hs.nodup
  have hmem : b ∈ (H ++ C.F).map (·.1) := by
    simp only [List.map_append, List.mem_append, List.mem_map]
    exact .inl ⟨(b, x), List.mem_of_getElem? h, rfl⟩
  -- every other entry of the heap lies in another block
  have hother : ∀ n e, n ≠ i → H[n]? = some e → e.1 ≠ b := by
    intro n e hn he hb
    have hn1 : (H.map (·.1)).Nodup := by
      rw [List.map_append] at hnd
      exact (List.nodup_append.1 hnd).1
    have h1 : (H.map (·.1))[n]? = some b := by simp [he, hb]
    have h2 : (H.map (·.1))[i]? = some b := by simp [h]
    exact hn ((List.getElem?_inj (get_lt h1) hn1).1 (h1.trans h2.symm))
  have hF : ∀ e ∈ C.F, e.1 ≠ b := by
    intro e he hb
    rw [List.map_append] at hnd
    exact (List.nodup_append.1 hnd).2.2 b (List.mem_map.2 ⟨(b, x), List.mem_of_getElem? h, rfl⟩) e.1 (List.mem_map.2 ⟨e, he, rfl⟩) hb.symm
  have hbelow : BelowA C.A w w' := ⟨hos, htp, hout, Nat.le_of_eq hsz.symm, fun k hk hA => hoth k (fun e => hA (e ▸ hown.base))⟩
  refine
    { size := hs.size, dfs := hs.dfs, le := hs.le, sin := hs.sin.of_agree (fun g hg => hoth g (fun e => hown.apart (e ▸ hg))), snew := hs.snew, below := hs.below.trans hbelow, env := ?_, heap := ?_, frame := ?_, nodup := by rw [hmap]; exact hnd,
      lin := by rw [hmap]; exact hs.lin, linj := hs.linj }
  · intro t
    exact (hs.env t).world (fun g e => hoth g (fun eb => hs.lin t g e (eb ▸ hmem)))
  · intro e he
    obtain ⟨n, hn⟩ := List.mem_iff_getElem?.1 he
    rw [List.getElem?_set] at hn
    split at hn
    · simp only [Option.some.injEq] at hn; subst hn
      exact ⟨hown.base, hown.apart, o, ho, hy⟩
    · rename_i hin
      exact (hs.heap e (List.mem_of_getElem? hn)).world (hoth e.1 (hother n e (fun e => hin e.symm) hn))
  · intro e he
    exact (hs.frame e he).world (hoth e.1 (hF e he))
theorem Own.row {B : Nat → Prop} {b T : Nat} {cs : List AV} (h : Own B S w b (.cells T cs)) : ∃ l : List Value, w.heap[b]? = some (.cells l.toArray T (0, 0)) ∧ RepL S cs l ∧ ∀ c ∈ l, c.oneCell' = true := by
  obtain ⟨o, e, l, rfl, hr, h1⟩ := h.holds
  exact ⟨l, e, hr, h1⟩
end
section
variable {P : Program} {r : Option Nat} {N : Nat} {env : Env} {H : Heap} {D : List Nat} {dst : Option Nat} {K : Env → Heap → List Nat → Prop}
theorem run_loadAV {P : Program} {w : World} {T : TypeId} {n : Option Nat} (hn : aggN P T = some n) {S : Snap} {cs : List AV} {p : AV} (hp : loadAV n cs = some p) {l : List Value} (hr : RepL S cs l) {b o : Nat}
    (h : ∀ j c, l[j]? = some c → w.cell? ⟨b, o + j, none⟩ = some c) : ∃ y, (loadVar T ⟨b, o, none⟩).run P w = .ok y w ∧ Rep S p y := by
  cases n with
  | none =>
    simp only [loadAV] at hp
    cases cs with
    | nil => simp at hp
    | cons x cs =>
      simp at hp; subst hp
      simp only [RepL] at hr
      obtain ⟨c, l', rfl, h1, h2⟩ := hr
      refine ⟨c, ?_, h1⟩
      exact run_loadVar (P := P) (w := w) hn (b := b) (o := o) (l := [c]) rfl (by
        intro j hj
        have : j = 0 := by simp at hj; exact hj
        subst this
        simpa using h 0 c (by simp))
  | some m =>
    simp only [loadAV] at hp
    split at hp
    · rename_i hm
      cases hp
      have hm' := Nat.le_of_ble_eq_true hm
      have hlen : (l.take m).length = m := by rw [List.length_take, hr.length]; exact Nat.min_eq_left hm'
      refine ⟨.agg (l.take m).toArray, ?_, by simp only [Rep]; exact ⟨l.take m, rfl, hr.take m⟩⟩
      exact run_loadVar (P := P) (w := w) hn (b := b) (o := o) (l := l.take m) (by simpa using hlen) (by
        intro j hj
        simp only [Option.getD_some] at hj
        have hj' : j < (l.take m).length := by omega
        rw [List.getElem?_eq_getElem hj']
        exact h j _ (by
          have := List.getElem?_eq_getElem hj'
          rw [List.getElem?_take] at this
          rwa [if_pos hj] at this))
    · cases hp
theorem Op1.loadO {T T' : TypeId} {x : Operand} {n : Option Nat} {i b off : Nat} {cs : List AV} {p : AV} (hx : evO env x = .po b off) (hH : H[i]? = some (b, .cells T' cs)) (hp : loadAV n (cs.drop off) = some p)
    (k : K (updO env dst p) H D) : Op1 P r N (.load T x n) dst env H D K := by
  intro o hdst hd hlo C a w S L hN hs next Q hnext
  obtain ⟨l, hrow, hr, h1⟩ := (hs.at_ hH).row
  have hv := hs.repO x hx rfl
  simp only [Rep] at hv
  cases hlo with
  | load hop hn =>
    obtain ⟨y, hy, hrep⟩ := run_loadAV (P := P) (w := w) hn hp (hr.drop off) (b := b) (o := off) (fun j c hj => by
      rw [cell_of_row w b _ _ _ _ hrow]
      simpa using hj)
    obtain ⟨L', hs'⟩ := hs.putO (dst := dst) (fun d e => hN ▸ hd d e) hrep.not_lin hrep
    exact Oper.wpIn_value (.load hop hn) (by simp) (y := y) (w' := w) (by simp [execOp, hop, Instr.loadAt, Instr.sureAddr, hv, hy]) (by rw [hdst]; exact hnext _ _ _ _ _ _ _ k hs' (Snap.Le.refl _))
theorem RepL.flatten_get {S : Snap} {kk : Nat} : ∀ {es : List (List AV)} {l : List Value}, RepL S es.flatten l → (∀ e ∈ es, e.length = kk) → ∀ {m : Nat} {e : List AV}, es[m]? = some e →
    RepL S e ((l.drop (m * kk)).take kk)
  | [], _, _, _, m, e, h => by simp at h
  | x :: es, l, hr, hk, m, e, h => by
    simp only [List.flatten_cons] at hr
    obtain ⟨c1, c2, rfl, h1, h2⟩ := hr.split
    have hx : x.length = kk := hk x (by simp)
    have hc1 : c1.length = kk := by rw [h1.length, hx]
    cases m with
    | zero =>
      simp at h; subst h
      simp only [Nat.zero_mul, List.drop_zero]
      rw [List.take_append_of_le_length (by omega), List.take_of_length_le (by omega)]
      exact h1
    | succ m =>
      have := RepL.flatten_get h2 (fun e he => hk e (by simp [he])) (m := m) (e := e) (by simpa using h)
      rw [show (m + 1) * kk = c1.length + m * kk by rw [hc1, Nat.add_mul]; omega, List.drop_append, List.drop_eq_nil_of_le (by omega)]
      simpa using this
theorem Own.arr {B : Nat → Prop} {S : Snap} {w : World} {b T kk cap : Nat} {es : List (List AV)} (h : Own B S w b (.arr T kk cap es)) : ∃ cur : List Value, w.heap[b]? = some (.cells cur.toArray T (0, 0)) ∧
    cur.length = cap * kk ∧ es.length ≤ cap ∧ cap ≤ maxLen ∧ (∀ e ∈ es, e.length = kk) ∧ RepL S es.flatten (cur.take (es.length * kk)) ∧ ∀ c ∈ cur.take (es.length * kk), c.oneCell' = true := by
  obtain ⟨o, e, cur, rfl, h⟩ := h.holds
  exact ⟨cur, e, h⟩
theorem take_drop_sub {α : Type} {l : List α} {n m k : Nat} (h : m + k ≤ n) : ((l.take n).drop m).take k = (l.drop m).take k := by
  rw [List.drop_take, List.take_take, Nat.min_eq_left (by omega)]
theorem Op1.loadE {T T' : TypeId} {x : Operand} {n : Option Nat} {i b off kk cap : Nat} {es : List (List AV)} (m f : Nat) {e : List AV} {p : AV} (hx : evO env x = .po b off) (hH : H[i]? = some (b, .arr T' kk cap es))
    (hoff : off = m * kk + f) (he : es[m]? = some e) (hp : loadAV n (e.drop f) = some p) (k : K (updO env dst p) H D) : Op1 P r N (.load T x n) dst env H D K := by
  intro o hdst hd hlo C a w S L hN hs next Q hnext
  obtain ⟨cur, hrow, hc1, hc2, hc3, hk, hr, h1⟩ := (hs.at_ hH).arr
  have hv := hs.repO x hx rfl
  simp only [Rep] at hv
  have hlt := get_lt he
  have hre := hr.flatten_get hk he
  have hmul : m * kk + kk ≤ es.length * kk := by rw [← Nat.succ_mul]; exact Nat.mul_le_mul_right kk hlt
  rw [take_drop_sub hmul] at hre
  cases hlo with
  | load hop hn =>
    obtain ⟨y, hy, hrep⟩ := run_loadAV (P := P) (w := w) hn hp (hre.drop f) (b := b) (o := off) (fun j c hj => by
      rw [cell_of_row w b _ _ _ _ hrow]
      rw [List.getElem?_drop, List.getElem?_take] at hj
      split at hj
      · rw [List.getElem?_drop] at hj
        rw [hoff, show m * kk + f + j = m * kk + (f + j) by omega]
        simpa using hj
      · cases hj)
    obtain ⟨L', hs'⟩ := hs.putO (dst := dst) (fun d e => hN ▸ hd d e) hrep.not_lin hrep
    exact Oper.wpIn_value (.load hop hn) (by simp) (y := y) (w' := w) (by simp [execOp, hop, Instr.loadAt, Instr.sureAddr, hv, hy]) (by rw [hdst]; exact hnext _ _ _ _ _ _ _ k hs' (Snap.Le.refl _))
theorem Op1.storeO {T T' : TypeId} {x y : Operand} {n i b off : Nat} {cs : List AV} {q : AV} (hx : evO env x = .po b off) (hH : H[i]? = some (b, .cells T' cs)) (hy : evO env y = q)
    (hq : q.isAggOrCell = true) (hql : (cellsAV q).length = n) (hqc : (cellsAV q).all AV.isCell = true) (hfit : off + n ≤ cs.length)
    (k : K (updO env dst .any) (H.set i (b, .cells T' (setSeg cs off (cellsAV q)))) D) : Op1 P r N (.store T x y n) dst env H D K := by
  intro o hdst hd hlo C a w S L hN hs next Q hnext
  obtain ⟨l, hrow, hr, h1⟩ := (hs.at_ hH).row
  have hv := hs.repO x hx rfl
  simp only [Rep] at hv
  have hqr : Rep S q (a.eval y) := hs.repO y hy (by cases q <;> simp_all [AV.isAggOrCell, AV.isCell, AV.isLin])
  have hqcells := hqr.cells hq
  have hone := hqcells.oneCells hqc
  have hlen : (a.eval y).cells.toList.length = n := by rw [hqcells.length, hql]
  have hst := run_storeCells_at P b off T' (a.eval y).cells.toList 0 l.toArray w hrow (by simp only [Nat.add_zero, List.size_toArray]; rw [hr.length]; omega) hone
  simp only [Nat.add_zero] at hst
  have hs1 := hs.replace hH (y := .cells T' (setSeg cs off (cellsAV q))) (w' := w.setRow b (l.take off ++ (a.eval y).cells.toList ++ l.drop (off + (a.eval y).cells.toList.length)).toArray)
    (setRow_heap w b _ _ _ _ hrow)
    (by
      refine ⟨_, rfl, ?_, ?_⟩
      · unfold setSeg
        rw [hlen, hql]
        exact ((hr.take off).append hqcells).append (hr.drop (off + n))
      · intro c hc
        simp only [List.mem_append] at hc
        rcases hc with (hc | hc) | hc
        · exact h1 c (List.mem_of_mem_take hc)
        · exact hone c hc
        · exact h1 c (List.mem_of_mem_drop hc))
    (setRow_size _ _ _) (fun g hg => setRow_other w b g _ hg) rfl rfl rfl
  obtain ⟨L', hs'⟩ := hs1.putO (dst := dst) (fun d e => hN ▸ hd d e) (p := .any) (y := undef) rfl (by simp [Rep])
  generalize hW : w.setRow b (l.take off ++ (a.eval y).cells.toList ++ l.drop (off + (a.eval y).cells.toList.length)).toArray = W at hst hs1 hs'
  cases hlo with
  | store hop hj =>
    rename_i j
    refine Oper.wpIn_skip (.store hop hj) (by simp) (w' := W) ?_ (by rw [hdst]; exact hnext _ _ _ _ _ _ _ k hs' (Snap.Le.refl _))
    have hsz : (a.eval y).cells.size = j.size := by simpa using hlen
    simp [execOp, hop, Instr.storeAt, Instr.sureAddr, hv, storeVar, sizeOf, typeInfo, hj, hsz, hst]
end
end Go.Px

namespace Go.Px
def Snap.addRow (S : Snap) (b : Nat) (l : List Value) : Snap := { S with cell := fun b' o => if b' = b then l[o]? else S.cell b' o }
theorem Snap.addRow_le {S : Snap} {b : Nat} {l : List Value} (h : ¬ S.has b) : S.Le (S.addRow b l) :=
  ⟨fun b' o v e => by
    have : b' ≠ b := fun eb => h (eb ▸ .inl ⟨o, v, e⟩)
    simp only [Snap.addRow, if_neg this]; exact e, fun _ _ e => e⟩
theorem Snap.addRow_has {S : Snap} {b b' : Nat} {l : List Value} (h : (S.addRow b l).has b') : S.has b' ∨ b' = b := by
  by_cases e : b' = b
  · exact .inr e
  · rcases h with ⟨o, v, h⟩ | ⟨m, h⟩
    · simp only [Snap.addRow, if_neg e] at h; exact .inl (.inl ⟨o, v, h⟩)
    · exact .inl (.inr ⟨m, h⟩)
theorem Snap.addRow_in {S : Snap} {w : World} {b T : Nat} {l : List Value} (h : S.In w) (hrow : w.heap[b]? = some (.cells l.toArray T (0, 0))) : (S.addRow b l).In w :=
  ⟨fun b' o v e => by
    simp only [Snap.addRow] at e
    split at e
    · rename_i eb; subst eb
      rw [cell_of_row w _ _ _ _ _ hrow]; simpa using e
    · exact h.cell _ _ _ e, fun b' m e => h.map b' m e⟩
theorem repC_of_row {S : Snap} {b : Nat} : ∀ {cs : List AV} {l : List Value} {o : Nat}, RepL S cs l → (∀ c ∈ l, c.oneCell' = true) → (∀ j c, l[j]? = some c → S.cell b (o + j) = some c) → RepC S cs b o
  | [], l, o, _, _, _ => by simp [RepC]
  | a :: cs, l, o, h, h1, hc => by
    simp only [RepL] at h
    obtain ⟨c, l', rfl, h2, h3⟩ := h
    simp only [RepC]
    refine ⟨⟨c, by simpa using hc 0 c (by simp), h1 c (by simp), h2⟩, repC_of_row h3 (fun x hx => h1 x (by simp [hx])) (fun j x hj => ?_)⟩
    rw [show o + 1 + j = o + (j + 1) by omega]
    exact hc (j + 1) x (by simpa using hj)
theorem repE_of_row {S : Snap} {b kk : Nat} : ∀ {es : List (List AV)} {l : List Value} {o : Nat}, RepL S es.flatten l → (∀ e ∈ es, e.length = kk) → (∀ c ∈ l, c.oneCell' = true) →
    (∀ j c, l[j]? = some c → S.cell b (o + j) = some c) → RepE S kk es b o
  | [], l, o, _, _, _, _ => by simp [RepE]
  | e :: es, l, o, h, hk, h1, hc => by
    simp only [List.flatten_cons] at h
    obtain ⟨c1, c2, rfl, h2, h3⟩ := h.split
    have he : e.length = kk := hk e (by simp)
    have hl1 : c1.length = kk := by rw [h2.length, he]
    simp only [RepE]
    refine ⟨he, repC_of_row h2 (fun x hx => h1 x (by simp [hx])) (fun j x hj => hc j x (by rw [List.getElem?_append_left (get_lt hj)]; exact hj)),
      repE_of_row h3 (fun x hx => hk x (by simp [hx])) (fun x hx => h1 x (by simp [hx])) (fun j x hj => ?_)⟩
    rw [show o + kk + j = o + (kk + j) by omega]
    exact hc (kk + j) x (by rw [List.getElem?_append_right (by omega)]; rw [hl1]; simpa using hj)
section
variable {C : Ctx} {env : Env} {H : Heap} {D : List Nat} {a : Act} {w : World} {S : Snap} {L : Nat → Option Nat}
theorem Sat.drop (hs : Sat C env H D a w S L) (i : Nat) : Sat C env (H.eraseIdx i) D a w S L := by
  have hsub : (H.eraseIdx i).Sublist H := List.eraseIdx_sublist H i
  exact { hs with
    heap := fun e he => hs.heap e (hsub.subset he)
    nodup := ((hsub.append (List.Sublist.refl C.F)).map _).nodup hs.nodup
    lin := fun t b e hm => hs.lin t b e (((hsub.append (List.Sublist.refl C.F)).map _).subset hm) }
theorem Sat.apart_erase (hs : Sat C env H D a w S L) {i b : Nat} {x : HObj} (h : H[i]? = some (b, x)) : ∀ e ∈ H.eraseIdx i ++ C.F, e.1 ≠ b := by
  intro e he hb
  have hnd := hs.nodup
  rw [List.map_append] at hnd
  have h2 : (H.map (·.1))[i]? = some b := by simp [h]
  rcases List.mem_append.1 he with he | he
  · obtain ⟨n, hn, hne⟩ := List.mem_eraseIdx_iff_getElem?.1 he
    have h1 : (H.map (·.1))[n]? = some b := by simp [hne, hb]
    exact hn ((List.getElem?_inj (get_lt h1) (List.nodup_append.1 hnd).1).1 (h1.trans h2.symm))
  · exact (List.nodup_append.1 hnd).2.2 b (List.mem_of_getElem? h2) e.1 (List.mem_map.2 ⟨e, he, rfl⟩) hb.symm
theorem Sat.freeze (hs : Sat C env H D a w S L) {i b T : Nat} {x : HObj} (h : H[i]? = some (b, x)) {l : List Value} (hrow : w.heap[b]? = some (.cells l.toArray T (0, 0))) :
    Sat C env (H.eraseIdx i) D a w (S.addRow b l) L :=
  (hs.drop i).snap (Snap.addRow_le (hs.at_ h).apart) (Snap.addRow_in hs.sin hrow)
    (fun g hh => (Snap.addRow_has hh).imp id (fun h1 => by rw [h1]; exact (hs.at_ h).base))
    (fun e he hh => by
      rcases Snap.addRow_has hh with h1 | h1
      · rcases List.mem_append.1 he with he' | he'
        · exact (hs.heap e ((List.eraseIdx_sublist H i).subset he')).apart h1
        · exact (hs.frame e he').apart h1
      · exact hs.apart_erase h e he h1)
    (fun t g e hh => by
      rcases Snap.addRow_has hh with h1 | h1
      · exact hs.L_apart e h1
      · exact hs.lin t g e (by
          simp only [List.map_append, List.mem_append, List.mem_map]
          exact .inl ⟨(b, x), List.mem_of_getElem? h, h1.symm⟩))
theorem Sat.reenv (hs : Sat C env H D a w S L) {t : Nat} {p : AV} (hp : p.isLin = false) (hr : Rep S p (a.tmps.getD t undef)) : Sat C (upd env t p) H D a w S (Lset L t none) where
  size := hs.size
  dfs := hs.dfs
  le := hs.le
  sin := hs.sin
  snew := hs.snew
  below := hs.below
  env := by
    intro u
    by_cases hu : u = t
    · subst hu
      simp only [upd_same, Lset, if_true]
      exact RepT.of_rep hp hr
    · simp only [upd_other env p hu, Lset, if_neg hu]
      exact hs.env u
  heap := hs.heap
  frame := hs.frame
  nodup := hs.nodup
  lin := by
    intro u b e
    simp only [Lset] at e
    split at e
    · cases e
    · exact hs.lin u b e
  linj := by
    intro u v b e1 e2
    simp only [Lset] at e1 e2
    split at e1
    · cases e1
    · split at e2
      · cases e2
      · exact hs.linj u v b e1 e2
end
def Ent (env : Env) (H : Heap) (D : List Nat) (env' : Env) (H' : Heap) (D' : List Nat) : Prop :=
  ∀ (C : Ctx) (a : Act) (w : World) (S : Snap) (L : Nat → Option Nat), Sat C env H D a w S L → ∃ S' L', S.Le S' ∧ Sat C env' H' D' a w S' L'
theorem Ent.refl (env : Env) (H : Heap) (D : List Nat) : Ent env H D env H D := fun _ _ _ S L h => ⟨S, L, Snap.Le.refl S, h⟩
theorem Ent.trans {e1 e2 e3 : Env} {H1 H2 H3 : Heap} {D1 D2 D3 : List Nat} (h : Ent e1 H1 D1 e2 H2 D2) (k : Ent e2 H2 D2 e3 H3 D3) : Ent e1 H1 D1 e3 H3 D3 :=
  fun C a w S L hs => by obtain ⟨S', L', hle, h'⟩ := h C a w S L hs; obtain ⟨S2, L2, hle2, h2⟩ := k C a w S' L' h'; exact ⟨S2, L2, hle.trans hle2, h2⟩
section
variable {env : Env} {H : Heap} {D : List Nat}
theorem Ent.freezeBox {i b T : Nat} {cs : List AV} (t : Nat) (ht : env t = .po b 0) (hH : H[i]? = some (b, .cells T cs)) : Ent env H D (upd env t (.pi cs)) (H.eraseIdx i) D := by
  intro C a w S L hs
  obtain ⟨l, hrow, hr, h1⟩ := (hs.at_ hH).row
  have hv := hs.rep ht rfl
  simp only [Rep] at hv
  have hs1 := hs.freeze hH hrow
  refine ⟨_, _, Snap.addRow_le (hs.at_ hH).apart, hs1.reenv (t := t) (p := .pi cs) rfl ?_⟩
  simp only [Rep]
  exact ⟨b, 0, hv, repC_of_row (hr.mono (Snap.addRow_le (hs.at_ hH).apart) |> fun x => x) h1 (fun j c hj => by simp [Snap.addRow, hj])⟩
theorem Ent.freezeArr {i b T kk cap : Nat} {es : List (List AV)} (t : Nat) (ht : env t = .so b es.length cap) (hH : H[i]? = some (b, .arr T kk cap es)) : Ent env H D (upd env t (.sl kk es)) (H.eraseIdx i) D := by
  intro C a w S L hs
  obtain ⟨cur, hrow, hc1, hc2, hc3, hk, hr, h1⟩ := (hs.at_ hH).arr
  have hv := hs.rep ht rfl
  simp only [Rep] at hv
  have hs1 := hs.freeze hH hrow
  refine ⟨_, _, Snap.addRow_le (hs.at_ hH).apart, hs1.reenv (t := t) (p := .sl kk es) rfl ?_⟩
  simp only [Rep]
  refine .inr ⟨b, 0, cap, hv, hc2, hc3, repE_of_row (l := cur.take (es.length * kk)) (RepL.mono (Snap.addRow_le (hs.at_ hH).apart) _ _ hr) hk h1 (fun j c hj => ?_)⟩
  rw [List.getElem?_take] at hj
  split at hj
  · simp [Snap.addRow, hj]
  · cases hj
theorem Ent.dropH (i : Nat) : Ent env H D env (H.eraseIdx i) D := fun _ _ _ _ _ hs => ⟨_, _, Snap.Le.refl _, hs.drop i⟩
end
end Go.Px

namespace Go.Px
section
variable {C : Ctx} {env : Env} {H : Heap} {D : List Nat} {a : Act} {w : World} {S : Snap} {L : Nat → Option Nat}
theorem Sat.putLin (hs : Sat C env H D a w S L) {d : Nat} (hd : d < a.tmps.size) {p : AV} {y : Value} {g : Option Nat} (hr : RepT C.A S w g p y)
    (hg : ∀ b, g = some b → b ∉ (H ++ C.F).map (·.1) ∧ ∀ t, t ≠ d → L t ≠ some b) : Sat C (upd env d p) H D (a.put (some d) y) w S (Lset L d g) where
  size := by simp only [Act.put, Array.size_setIfInBounds]; exact hs.size
  dfs := hs.dfs
  le := hs.le
  sin := hs.sin
  snew := hs.snew
  below := hs.below
  env := by
    intro t
    by_cases ht : t = d
    · subst ht
      simp only [upd_same, Act.put, getD_set_same hd, Lset, if_true]
      exact hr
    · simp only [upd_other env p ht, Act.put, getD_set_other ht, Lset, if_neg ht]
      exact hs.env t
  heap := hs.heap
  frame := hs.frame
  nodup := hs.nodup
  lin := by
    intro t b e
    simp only [Lset] at e
    split at e
    · exact (hg b e).1
    · exact hs.lin t b e
  linj := by
    intro t u b e1 e2
    simp only [Lset] at e1 e2
    split at e1
    · rename_i h1
      split at e2
      · rename_i h2; rw [h1, h2]
      · rename_i h2; exact absurd e2 ((hg b e1).2 u h2)
    · rename_i h1
      split at e2
      · exact absurd e1 ((hg b e2).2 t h1)
      · exact hs.linj t u b e1 e2
theorem Sat.reenvL (hs : Sat C env H D a w S L) {t : Nat} {p : AV} {g : Option Nat} (hr : RepT C.A S w g p (a.tmps.getD t undef))
    (hg : ∀ b, g = some b → b ∉ (H ++ C.F).map (·.1) ∧ ∀ u, u ≠ t → L u ≠ some b) : Sat C (upd env t p) H D a w S (Lset L t g) where
  size := hs.size
  dfs := hs.dfs
  le := hs.le
  sin := hs.sin
  snew := hs.snew
  below := hs.below
  env := by
    intro u
    by_cases hu : u = t
    · subst hu
      simp only [upd_same, Lset, if_true]
      exact hr
    · simp only [upd_other env p hu, Lset, if_neg hu]
      exact hs.env u
  heap := hs.heap
  frame := hs.frame
  nodup := hs.nodup
  lin := by
    intro u b e
    simp only [Lset] at e
    split at e
    · exact (hg b e).1
    · exact hs.lin u b e
  linj := by
    intro u v b e1 e2
    simp only [Lset] at e1 e2
    split at e1
    · rename_i h1
      split at e2
      · rename_i h2; rw [h1, h2]
      · rename_i h2; exact absurd e2 ((hg b e1).2 v h2)
    · rename_i h1
      split at e2
      · exact absurd e1 ((hg b e2).2 u h1)
      · exact hs.linj u v b e1 e2
theorem Sat.share (hs : Sat C env H D a w S L) {t T kk : Nat} {es : List (List AV)} (ht : env t = .lin T kk es) :
    (es = [] ∧ Sat C (upd env t .nil) H D a w S (Lset L t none)) ∨ ∃ b cap, Sat C (upd env t (.so b es.length cap)) ((b, .arr T kk cap es) :: H) D a w S (Lset L t none) := by
  have hr := hs.env t
  rw [ht] at hr
  simp only [RepT] at hr
  rcases hr with ⟨hy, he, hb⟩ | ⟨g, cap, hb, hy, ho⟩
  · exact .inl ⟨he, hs.reenv rfl (by simp only [Rep]; exact hy)⟩
  · refine .inr ⟨g, cap, ?_⟩
    have h1 := hs.reenv (t := t) (p := .so g es.length cap) rfl (by simp only [Rep]; exact hy)
    refine { h1 with heap := ?_, nodup := ?_, lin := ?_ }
    · intro e he
      rcases List.mem_cons.1 he with rfl | he
      · exact ho
      · exact hs.heap e he
    · simp only [List.cons_append, List.map_cons, List.nodup_cons]
      exact ⟨hs.lin t g hb, hs.nodup⟩
    · intro u b e
      simp only [List.cons_append, List.map_cons, List.mem_cons, not_or]
      refine ⟨fun hbg => ?_, h1.lin u b e⟩
      simp only [Lset] at e
      split at e
      · cases e
      · rename_i hu; subst hbg; exact hu (hs.linj u t b e hb)
theorem Sat.unshare (hs : Sat C env H D a w S L) {i t b T kk cap : Nat} {es : List (List AV)} (ht : env t = .so b es.length cap) (hH : H[i]? = some (b, .arr T kk cap es)) :
    Sat C (upd env t (.lin T kk es)) (H.eraseIdx i) D a w S (Lset L t (some b)) := by
  have hy := hs.rep ht rfl
  simp only [Rep] at hy
  refine (hs.drop i).reenvL ?_ ?_
  · simp only [RepT]
    exact .inr ⟨b, cap, rfl, hy, hs.at_ hH⟩
  · intro g e
    cases e
    refine ⟨fun hm => ?_, fun u _ e => hs.lin u b e ?_⟩
    · obtain ⟨e, he, hb⟩ := List.mem_map.1 hm
      exact hs.apart_erase hH e he hb
    · simp only [List.map_append, List.mem_append, List.mem_map]
      exact .inl ⟨(b, _), List.mem_of_getElem? hH, rfl⟩
end
section
variable {env : Env} {H : Heap} {D : List Nat}
theorem Ent.unshare {i t b T kk cap : Nat} {es : List (List AV)} (ht : env t = .so b es.length cap) (hH : H[i]? = some (b, .arr T kk cap es)) : Ent env H D (upd env t (.lin T kk es)) (H.eraseIdx i) D :=
  fun _ _ _ _ _ hs => ⟨_, _, Snap.Le.refl _, hs.unshare ht hH⟩
theorem upd_upd (env : Env) (t : Nat) (p q : AV) : upd (upd env t p) t q = upd env t q := by
  funext i
  by_cases h : i = t
  · subst h; simp [upd_same]
  · simp [upd_other _ _ h]
theorem Ent.freezeLin {t T kk : Nat} {es : List (List AV)} (ht : env t = .lin T kk es) : Ent env H D (upd env t (.sl kk es)) H D := by
  intro C a w S L hs
  rcases hs.share ht with ⟨he, h⟩ | ⟨b, cap, h⟩
  · subst he
    have hv := h.rep (t := t) (upd_same _ _ _) rfl
    simp only [Rep] at hv
    have := h.reenv (t := t) (p := .sl kk []) rfl (by simp only [Rep]; exact .inl ⟨⟨_, hv⟩, trivial⟩)
    rw [upd_upd] at this
    exact ⟨_, _, Snap.Le.refl _, this⟩
  · obtain ⟨S', L', hle, h'⟩ := Ent.freezeArr (H := (b, .arr T kk cap es) :: H) (D := D) (i := 0) t (upd_same _ _ _) rfl C a w S _ h
    rw [upd_upd] at h'
    exact ⟨S', L', hle, h'⟩
theorem Ent.nilLin {t : Nat} (T kk : Nat) (ht : env t = .nil) : Ent env H D (upd env t (.lin T kk [])) H D := by
  intro C a w S L hs
  have hv := hs.rep ht rfl
  simp only [Rep] at hv
  exact ⟨_, _, Snap.Le.refl _, hs.reenvL (t := t) (p := .lin T kk []) (g := none) (by simp only [RepT]; exact .inl ⟨hv, trivial, trivial⟩) (fun _ e => by cases e)⟩
theorem Ent.nilSl {t : Nat} (kk : Nat) (ht : env t = .nil) : Ent env H D (upd env t (.sl kk [])) H D := by
  intro C a w S L hs
  have hv := hs.rep ht rfl
  simp only [Rep] at hv
  exact ⟨_, _, Snap.Le.refl _, hs.reenv (t := t) (p := .sl kk []) rfl (by simp only [Rep]; exact .inl ⟨⟨_, hv⟩, trivial⟩)⟩
theorem WOps.ent {P : Program} {r : Option Nat} {N : Nat} {ls : List LOper} {Q : Post} {env' : Env} {H' : Heap} {D' : List Nat} (h : Ent env H D env' H' D') (k : WOps P r N ls Q env' H' D') : WOps P r N ls Q env H D :=
  fun arr is hm C a w S L hN hs => by obtain ⟨S', L', _, hs'⟩ := h C a w S L hs; exact k arr is hm C a w S' L' hN hs'
theorem WOps.share {P : Program} {r : Option Nat} {N : Nat} {ls : List LOper} {Q : Post} {t T kk : Nat} {es : List (List AV)} (ht : env t = .lin T kk es)
    (h0 : es = [] → WOps P r N ls Q (upd env t .nil) H D) (h1 : ∀ b cap, WOps P r N ls Q (upd env t (.so b es.length cap)) ((b, .arr T kk cap es) :: H) D) : WOps P r N ls Q env H D :=
  fun arr is hm C a w S L hN hs => by
    rcases hs.share ht with ⟨he, h⟩ | ⟨b, cap, h⟩
    · exact h0 he arr is hm C a w S _ hN h
    · exact h1 b cap arr is hm C a w S _ hN h
theorem Op1.ent {P : Program} {r : Option Nat} {N : Nat} {l : LOp} {dst : Option Nat} {K : Env → Heap → List Nat → Prop}
    (h : Op1 P r N l dst env H D (fun env' H' D' => ∃ env'' H'' D'', Ent env' H' D' env'' H'' D'' ∧ K env'' H'' D'')) : Op1 P r N l dst env H D K :=
  fun o hdst hd hlo C a w S L hN hs next Q hnext => h o hdst hd hlo C a w S L hN hs next Q (fun env' H' D' y w' S' L' hk hs' hle => by
    obtain ⟨env'', H'', D'', he, hk⟩ := hk
    obtain ⟨S'', L'', hle', hs''⟩ := he C _ w' S' L' hs'
    exact hnext env'' H'' D'' y w' S'' L'' hk hs'' (hle.trans hle'))
theorem Op1.mono {P : Program} {r : Option Nat} {N : Nat} {l : LOp} {dst : Option Nat} {K K' : Env → Heap → List Nat → Prop} (h : Op1 P r N l dst env H D K) (hk : ∀ e h d, K e h d → K' e h d) : Op1 P r N l dst env H D K' :=
  fun o hdst hd hlo C a w S L hN hs next Q hnext => h o hdst hd hlo C a w S L hN hs next Q (fun env' H' D' y w' S' L' k hs' hle => hnext env' H' D' y w' S' L' (hk _ _ _ k) hs' hle)
end
section
variable {P : Program} {r : Option Nat} {N : Nat} {env : Env} {H : Heap} {D : List Nat} {dst : Option Nat} {K : Env → Heap → List Nat → Prop}
theorem Op1.box {T d : Nat} {x : Operand} {q : AV} (hx : evO env x = q) (hq : q.isAggOrCell = true) (hqc : (cellsAV q).all AV.isCell = true)
    (k : ∀ b, K (upd env d (.po b 0)) ((b, .cells T (cellsAV q)) :: H) D) : Op1 P r N (.box T x) (some d) env H D K := by
  intro o hdst hd hlo C a w S L hN hs next Q hnext
  have hqr : Rep S q (a.eval x) := hs.repO x hx (by cases q <;> simp_all [AV.isAggOrCell, AV.isCell, AV.isLin])
  have hqcells := hqr.cells hq
  have hone := hqcells.oneCells hqc
  have hs1 := hs.alloc (x := .cells T (cellsAV q)) (o := .cells (a.eval x).cells T (0, 0)) ⟨(a.eval x).cells.toList, by simp, hqcells, hone⟩
  have hs2 := hs1.put (d := d) (Nat.lt_of_lt_of_le (hN ▸ hd d rfl) hs.size) (p := .po w.heap.size 0) (y := .pointer (some ⟨w.heap.size, 0, none⟩)) rfl (by simp [Rep])
  cases hlo with
  | box hop =>
    refine Oper.wpIn_value (.box hop) (by simp) (y := .pointer (some ⟨w.heap.size, 0, none⟩)) (w' := w.alloc (.cells (a.eval x).cells T (0, 0))) ?_ (by rw [hdst]; exact hnext _ _ _ _ _ _ _ (k _) hs2 (Snap.Le.refl _))
    simp [execOp, hop, Instr.box, newVar, newRow]
theorem Op1.alloc {T d : Nat} {z : List Value} (hz : z.all Value.oneCell' = true) (k : ∀ b, K (upd env d (.po b 0)) ((b, .cells T (z.map .v)) :: H) D) : Op1 P r N (.alloc T z) (some d) env H D K := by
  intro o hdst hd hlo C a w S L hN hs next Q hnext
  have hs1 := hs.alloc (x := .cells T (z.map .v)) (o := .cells z.toArray T (0, 0)) ⟨z, rfl, repL_v S z, fun c hc => List.all_eq_true.1 hz c hc⟩
  have hs2 := hs1.put (d := d) (Nat.lt_of_lt_of_le (hN ▸ hd d rfl) hs.size) (p := .po w.heap.size 0) (y := .pointer (some ⟨w.heap.size, 0, none⟩)) rfl (by simp [Rep])
  cases hlo with
  | alloc hop hzo =>
    obtain ⟨v, hv1, hv2⟩ := run_zeroValue (P := P) (w := w) hzo
    refine Oper.wpIn_value (.alloc hop hzo) (by simp) (y := .pointer (some ⟨w.heap.size, 0, none⟩)) (w' := w.alloc (.cells z.toArray T (0, 0))) ?_ (by rw [hdst]; exact hnext _ _ _ _ _ _ _ (k _) hs2 (Snap.Le.refl _))
    simp [execOp, hop, Instr.alloc, newVar, newRow, hv1, hv2]
theorem Op1.boxI {T d : Nat} {x : Operand} {q : AV} (hx : evO env x = q) (hq : q.isAggOrCell = true) (hqc : (cellsAV q).all AV.isCell = true)
    (k : K (upd env d (.pi (cellsAV q))) H D) : Op1 P r N (.box T x) (some d) env H D K :=
  Op1.ent (Op1.box hx hq hqc (fun b => ⟨_, _, _, Ent.freezeBox (i := 0) d (upd_same _ _ _) rfl, by rw [upd_upd]; exact k⟩))
def chunk (k : Nat) : Nat → List AV → List (List AV)
  | 0, _ => []
  | n + 1, l => l.take k :: chunk k n (l.drop k)
theorem chunk_flatten {k : Nat} : ∀ {n : Nat} {l : List AV}, l.length = n * k → (chunk k n l).flatten = l
  | 0, l, h => by simp at h; subst h; rfl
  | n + 1, l, h => by
    simp only [chunk, List.flatten_cons]
    rw [chunk_flatten (by rw [List.length_drop, h, Nat.add_mul]; omega), List.take_append_drop]
theorem chunk_length {k : Nat} : ∀ {n : Nat} {l : List AV}, (chunk k n l).length = n
  | 0, _ => rfl
  | n + 1, l => by simp [chunk, chunk_length]
theorem chunk_each {k : Nat} : ∀ {n : Nat} {l : List AV}, l.length = n * k → ∀ e ∈ chunk k n l, e.length = k
  | 0, _, _, e, h => by simp [chunk] at h
  | n + 1, l, hl, e, h => by
    simp only [chunk, List.mem_cons] at h
    rcases h with rfl | h
    · rw [List.length_take, hl, Nat.add_mul]; omega
    · exact chunk_each (by rw [List.length_drop, hl, Nat.add_mul]; omega) e h
theorem buildAV_length {cs : List AV} : ∀ {qs : List (Nat × Nat × AV)} {r : List AV}, buildAV cs qs = some r → r.length = cs.length := by
  have hset : ∀ (l : List AV) (cs : List AV) (off : Nat), (setAll cs off l).length = cs.length := by
    intro l
    induction l with
    | nil => intro cs off; rfl
    | cons c l ih => intro cs off; simp only [setAll]; rw [ih]; simp
  intro qs
  induction qs generalizing cs with
  | nil => intro r e; simp only [buildAV, Option.some.injEq] at e; subst e; rfl
  | cons q qs ih =>
    obtain ⟨off, size, p⟩ := q
    intro r e
    simp only [buildAV] at e
    split at e
    · rw [ih e, hset]
    · cases e
def rep (n : Nat) (z : List AV) : List AV := (List.replicate n z).flatten
theorem range_cells (z : Array Value) (_hz : z.size ≠ 0) : ∀ n : Nat, ((Array.range (n * z.size)).map (fun i => z[i % z.size]!)).toList = (List.replicate n z.toList).flatten := by
  intro n
  rw [Array.toList_map, Array.toList_range]
  induction n with
  | zero => simp
  | succ n ih =>
    rw [Nat.succ_mul, List.range_add, List.map_append, ih, List.replicate_succ', List.flatten_append]
    congr 1
    simp only [List.map_map, List.flatten_cons, List.flatten_nil, List.append_nil]
    apply List.ext_getElem?
    intro i
    simp only [List.getElem?_map]
    by_cases hi : i < z.size
    · simp [hi, Nat.mod_eq_of_lt hi]
    · simp [hi]
end
end Go.Px

namespace Go.Px
section
variable {P : Program} {r : Option Nat} {N : Nat} {env : Env} {H : Heap} {D : List Nat} {dst : Option Nat} {K : Env → Heap → List Nat → Prop}
theorem zeroOf_length {E : TypeId} {z : List Value} (h : zeroOf P E = some z) : ∃ i v, P.info? E = some i ∧ i.zero = some v ∧ v.cells = z.toArray := by
  unfold zeroOf at h
  cases hi : P.info? E with
  | none => rw [hi] at h; simp at h
  | some i =>
    rw [hi] at h
    simp only [Option.map_eq_some_iff] at h
    obtain ⟨v, hv, rfl⟩ := h
    exact ⟨i, v, rfl, hv, by simp⟩
theorem repL_replicate (S : Snap) (z : List Value) : ∀ n, RepL S (List.replicate n (z.map .v)).flatten (List.replicate n z).flatten
  | 0 => by simp [RepL]
  | n + 1 => by
    simp only [List.replicate_succ, List.flatten_cons]
    exact (repL_v S z).append (repL_replicate S z n)
theorem Op1.bslice {T d n E kk : Nat} {ps : List (Nat × Operand)} {z : List Value} {q : List AV} (hr : buildAV (rep n (z.map .v)) (ps.map fun p => (p.1 * kk, kk, evO env p.2)) = some q)
    (hq : q.all AV.isCell = true) (k : K (upd env d (.lin E kk (chunk kk n q))) H D) : Op1 P r N (.bslice T n ps E kk z) (some d) env H D K := by
  intro o hdst hd hlo C a w S L hN hs next Q hnext
  have hnl := buildAV_not_lin hr
  cases hlo with
  | bslice hop hT hj hz hcond =>
    rename_i ps j
    simp only [not_or] at hcond
    obtain ⟨h0, h24, hzl⟩ := hcond
    have hzl' : z.length = j.size := Decidable.not_not.1 hzl
    obtain ⟨v, hv1, hv2⟩ := run_zeroValue (P := P) (w := w) hz
    have hzs : v.cells.size = j.size := by rw [hv2]; simpa using hzl'
    obtain ⟨es, he1, he2⟩ := fill_rep (S := S) (place := fun i => some (i * j.size, j.size)) _ _ _ ((Array.range (n * j.size)).map (fun i => v.cells[i % v.cells.size]!)) q
      (all2_buildA (k := j.size) ps.toList hs (fun p hp => hnl (p.1 * j.size, j.size, evO env p.2) (List.mem_map.2 ⟨p, hp, rfl⟩)))
      (by
        rw [← hzs, range_cells v.cells (by omega), hv2]
        exact repL_replicate S z n) hr
    have hone := he2.oneCells hq
    have hql : q.length = n * j.size := by
      rw [buildAV_length hr]
      simp [rep, List.length_flatten, hzl']
    have hes : es.toList.length = n * j.size := by rw [he2.length, hql]
    have hs1 := hs.alloc (x := .arr E j.size n (chunk j.size n q)) (o := .cells es E (0, 0))
      ⟨es.toList, by simp, hes, by rw [chunk_length]; exact Nat.le_refl _, by
        have : n ≤ n * j.size := Nat.le_mul_of_pos_right n (by omega)
        unfold maxLen; omega, chunk_each hql, by rw [chunk_flatten hql, chunk_length, List.take_of_length_le (by omega)]; exact he2, fun c hc => hone c (List.mem_of_mem_take hc)⟩
    have hs2 := hs1.put (d := d) (Nat.lt_of_lt_of_le (hN ▸ hd d rfl) hs.size) (p := .so w.heap.size (chunk j.size n q).length n) (y := .slice (some ⟨w.heap.size, 0, none⟩) n n) rfl (by simp only [Rep, chunk_length])
    have hs3 := hs2.unshare (i := 0) (t := d) (upd_same _ _ _) rfl
    rw [upd_upd] at hs3
    refine Oper.wpIn_value (.bslice hop hT hj hz (by simp only [not_or]; exact ⟨h0, h24, hzl⟩)) (by simp) (y := .slice (some ⟨w.heap.size, 0, none⟩) n n) (w' := w.alloc (.cells es E (0, 0))) ?_
      (by rw [hdst]; exact hnext _ _ _ _ _ _ _ k hs3 (Snap.Le.refl _))
    have hn0 : ¬ (2 ^ 24 < n * j.size) := by omega
    by_cases hnz : n * j.size = 0
    · have hn : n = 0 := by
        rcases Nat.mul_eq_zero.1 hnz with h | h
        · exact h
        · exact absurd h h0
      subst hn
      have e0 : Array.range 0 = #[] := rfl
      simp only [Nat.zero_mul, e0, List.map_toArray, List.map_nil] at he1
      simp [execOp, hop, Instr.buildSlice, underlying, hT, sizeOf, typeInfo, hj, he1, newRow, e0]
    · have hnn : ¬ (n = 0 ∨ j.size = 0) := by
        intro h
        rcases h with h | h
        · subst h; simp at hnz
        · exact h0 h
      simp only [not_or] at hnn
      simp [execOp, hop, Instr.buildSlice, underlying, hT, sizeOf, typeInfo, hj, hv1, he1, newRow]
      rw [if_neg (by omega), if_neg hnz]
end
end Go.Px

namespace Go.Px
section
variable {P : Program} {r : Option Nat} {N : Nat} {env : Env} {H : Heap} {D : List Nat} {dst : Option Nat} {K : Env → Heap → List Nat → Prop}
theorem run_append_nothing {w : World} (base : Nat) (t ty e : TypeId) (i : TypeInfo) (size : Nat) (ht : P.underlying t = some (.slice e)) (hi : P.info? e = some i) (v : Value) (n : Nat) (xs : List Value) (hown : w.ownsRow base e size v n xs) (ad : Option Addr) :
    (Builtin.append_ #[t, t] ty #[v, .slice ad 0 0]).run P w = .ok v w := by
  have hl : ∀ (x : Addr), (loadCells x 0).run P w = .ok #[] w := fun x => by simpa using run_loadCells_list (P := P) w x [] (by simp)
  rcases hown.2 with ⟨rfl, rfl⟩ | ⟨g, cap, cur, rfl, _, _, hnc, _⟩
  · cases ad <;> simp [Builtin.append_, run_underlying ht, sizeOf, typeInfo, hi, Builtin.lenOf, Builtin.firstCells, hl]
  · cases ad <;> simp [Builtin.append_, run_underlying ht, sizeOf, typeInfo, hi, Builtin.lenOf, Builtin.firstCells, hnc, storeCells, hl]
theorem madeCells_list (z : Array Value) (hz : z.size ≠ 0) (n : Nat) : (madeCells z (n * z.size)).toList = (List.replicate n z.toList).flatten := range_cells z hz n
theorem Op1.mslice {T d E kk bytes : Nat} {l c : Operand} {kl kc : IntKind} {z : List Value} (n : Nat) {nl nc : Int} (hl : evO env l = .v (.int kl nl)) (hc : evO env c = .v (.int kc nc)) (hnl : nl = n) (hnc : nc = n)
    (hb : bytes * n ≤ 281474976710656) (h63 : n ≤ 9223372036854775807) (hz1 : z.all Value.oneCell' = true)
    (k : ∀ b, K (upd env d (.so b (List.replicate n (z.map AV.v)).length n)) ((b, .arr E kk n (List.replicate n (z.map AV.v))) :: H) D) : Op1 P r N (.mslice T l c E kk bytes z) (some d) env H D K := by
  intro o hdst hd hlo C a w S L hN hs next Q hnext
  cases hlo with
  | mslice hop hT hj hz hcond =>
    rename_i j
    simp only [not_or] at hcond
    obtain ⟨h0, hzl⟩ := hcond
    have hzl' : z.length = j.size := Decidable.not_not.1 hzl
    obtain ⟨i, v, hi, hiz, hv⟩ := zeroOf_length hz
    have hij : i = j := by rw [hj] at hi; exact (Option.some.inj hi).symm
    subst hij
    have hvs : v.cells.size = i.size := by rw [hv]; simpa using hzl'
    have hrun := run_make (P := P) w T E i v hT hj hiz kl kc (n : Int) (n : Int) (by omega) (by omega) (by rw [← Int.natCast_mul]; omega) (by omega)
    simp only [Int.toNat_natCast] at hrun
    have hlist : (madeCells v.cells (n * i.size)).toList = (List.replicate n z).flatten := by
      rw [← hvs, madeCells_list v.cells (by omega), hv]
    have hlen : (madeCells v.cells (n * i.size)).toList.length = n * i.size := by
      rw [hlist]; simp [List.length_flatten, hzl']
    have hs1 := hs.alloc (x := .arr E i.size n (List.replicate n (z.map AV.v))) (o := .cells (madeCells v.cells (n * i.size)) E (0, 0))
      ⟨(madeCells v.cells (n * i.size)).toList, by rw [Array.toArray_toList], hlen, by rw [List.length_replicate]; exact Nat.le_refl n, by unfold maxLen; omega, by
        intro e he
        rw [(List.mem_replicate.1 he).2]
        simpa using hzl', by
        rw [List.length_replicate, List.take_of_length_le (by omega), hlist]
        exact repL_replicate S z n, by
        intro x hx
        replace hx := List.mem_of_mem_take hx
        rw [hlist] at hx
        simp only [List.mem_flatten, List.mem_replicate] at hx
        obtain ⟨l, ⟨_, rfl⟩, hx⟩ := hx
        exact List.all_eq_true.1 hz1 x hx⟩
    have hs2 := hs1.put (d := d) (Nat.lt_of_lt_of_le (hN ▸ hd d rfl) hs.size) (p := .so w.heap.size (List.replicate n (z.map AV.v)).length n) (y := .slice (some ⟨w.heap.size, 0, none⟩) n n) rfl (by simp [Rep])
    subst hnl hnc
    refine Oper.wpIn_value (.mslice hop hT hj hz (by simp only [not_or]; exact ⟨h0, hzl⟩)) (by simp) (y := .slice (some ⟨w.heap.size, 0, none⟩) n n) (w' := w.alloc (.cells (madeCells v.cells (n * i.size)) E (0, 0))) ?_
      (by rw [hdst]; exact hnext _ _ _ _ _ _ _ (k _) hs2 (Snap.Le.refl _))
    simp [execOp, hop, hs.int hl, hs.int hc, hrun]
theorem Op1.movL {t d T kk : Nat} {es : List (List AV)} (ht : env t = .lin T kk es) (k : K (upd (upd env t .any) d (.lin T kk es)) H D) : Op1 P r N (.mov (.tmp t)) (some d) env H D K := by
  intro o hdst hd hlo C a w S L hN hs next Q hnext
  have hr := hs.env t
  rw [ht] at hr
  have h1 := hs.reenv (t := t) (p := .any) rfl (by simp [Rep])
  have h2 := h1.putLin (d := d) (p := .lin T kk es) (y := a.tmps.getD t undef) (g := L t) (Nat.lt_of_lt_of_le (hN ▸ hd d rfl) hs.size) hr (by
    intro b e
    refine ⟨hs.lin t b e, fun u _ eu => ?_⟩
    simp only [Lset] at eu
    split at eu
    · cases eu
    · rename_i hu; exact hu (hs.linj u t b eu e))
  exact Oper.wpIn_value hlo (by simp) (run_mov hlo) (by rw [hdst]; exact hnext _ _ _ _ _ _ _ k h2 (Snap.Le.refl _))
theorem sl_cells {S : Snap} {w : World} (hin : S.In w) {kk : Nat} {ys : List (List AV)} {y : Value} (hr : Rep S (.sl kk ys) y) : 
    ((∃ ad, y = .slice ad 0 0) ∧ ys = []) ∨ ∃ ad cap, ∃ news : List Value, y = .slice (some ad) ys.length cap ∧ news.length = ys.length * kk ∧ RepL S ys.flatten news ∧ (∀ j u, news[j]? = some u → w.cell? (ad.add j) = some u) ∧ (∀ u ∈ news, u.oneCell' = true) ∧ (∀ e ∈ ys, e.length = kk) := by
  simp only [Rep] at hr
  rcases hr with ⟨h1, h2⟩ | ⟨b, off, cap, hv, _, _, hE⟩
  · exact .inl ⟨h1, h2⟩
  · right
    have key : ∀ (ys : List (List AV)) (o : Nat), RepE S kk ys b o → ∃ news : List Value, news.length = ys.length * kk ∧ RepL S ys.flatten news ∧ (∀ j u, news[j]? = some u → w.cell? ⟨b, o + j, none⟩ = some u) ∧ (∀ u ∈ news, u.oneCell' = true) ∧ (∀ e ∈ ys, e.length = kk) := by
      intro ys
      induction ys with
      | nil => intro o _; exact ⟨[], by simp, by simp [RepL], by simp, by simp, by simp⟩
      | cons e ys ih =>
        intro o h
        simp only [RepE] at h
        obtain ⟨he, hC, hE⟩ := h
        obtain ⟨l, rl, hl1, hi⟩ := hC.cells e.length (Nat.le_refl _)
        rw [List.take_length] at rl
        obtain ⟨news, n1, n2, n3, n4, n5⟩ := ih (o + kk) hE
        have hll : l.length = kk := by rw [rl.length, he]
        refine ⟨l ++ news, by simp [hll, n1, Nat.add_mul]; omega, by simpa using rl.append n2, ?_, ?_, ?_⟩
        · intro j u hj
          by_cases hjl : j < l.length
          · rw [List.getElem?_append_left hjl] at hj
            have := hi j (by omega)
            rw [hj] at this
            exact hin.cell _ _ _ this
          · rw [List.getElem?_append_right (by omega)] at hj
            have := n3 _ _ hj
            rwa [show o + kk + (j - l.length) = o + j by omega] at this
        · intro u hu
          rcases List.mem_append.1 hu with hu | hu
          · exact hl1 u hu
          · exact n4 u hu
        · intro x hx
          rcases List.mem_cons.1 hx with rfl | hx
          · exact he
          · exact n5 x hx
    obtain ⟨news, n1, n2, n3, n4, n5⟩ := key ys off hE
    exact ⟨⟨b, off, none⟩, cap, news, hv, n1, n2, fun j u hj => by rw [addr_add]; exact n3 j u hj, n4, n5⟩
end
end Go.Px

namespace Go.Px
section
variable {P : Program} {r : Option Nat} {N : Nat} {env : Env} {H : Heap} {D : List Nat} {dst : Option Nat} {K : Env → Heap → List Nat → Prop}
theorem Own.to_arr {B : Nat → Prop} {S : Snap} {w : World} {g E kk cap : Nat} {es : List (List AV)} {cur : List Value} (hB : B g) (hS : ¬ S.has g) (hrow : w.heap[g]? = some (.cells cur.toArray E (0, 0))) (h1 : cur.length = cap * kk)
    (h2 : es.length ≤ cap) (h3 : cap ≤ maxLen) (h4 : ∀ e ∈ es, e.length = kk) {xs : List Value} (hx : cur.take (es.length * kk) = xs) (h5 : RepL S es.flatten xs) (h6 : ∀ c ∈ xs, c.oneCell' = true) :
    Own B S w g (.arr E kk cap es) := ⟨hB, hS, _, hrow, cur, rfl, h1, h2, h3, h4, by rw [hx]; exact h5, by rw [hx]; exact h6⟩
def AsSl (kk : Nat) (p : AV) (ys : List (List AV)) : Prop := p = .sl kk ys ∨ (p = .nil ∧ ys = [])
theorem AsSl.rep {kk : Nat} {p : AV} {ys : List (List AV)} (h : AsSl kk p ys) {C : Ctx} {a : Act} {w : World} {S : Snap} {L : Nat → Option Nat} (hs : Sat C env H D a w S L) {y : Operand} (hy : evO env y = p) : Rep S (.sl kk ys) (a.eval y) := by
  rcases h with rfl | ⟨rfl, rfl⟩
  · exact hs.repO y hy rfl
  · have := hs.repO y hy rfl
    simp only [Rep] at this ⊢
    exact .inl ⟨⟨_, this⟩, trivial⟩
theorem Op1.append {T ty d t E kk bytes : Nat} {y : Operand} {z : List Value} {es ys : List (List AV)} (ht : env t = .lin E kk es) (hy : AsSl kk (evO env y) ys)
    (hb : (es.length + ys.length) * bytes ≤ 140737488355328) (hn : es.length + ys.length ≤ 9223372036854775807)
    (k : K (upd (upd env t .any) d (.lin E kk (es ++ ys))) H D) : Op1 P r N (.append T ty (.tmp t) y E kk bytes z) (some d) env H D K := by
  intro o hdst hd hlo C a w S L hN hs next Q hnext
  have hv := hs.env t
  rw [ht] at hv
  have hyr := hy.rep hs rfl
  have hsd : d < a.tmps.size := Nat.lt_of_lt_of_le (hN ▸ hd d rfl) hs.size
  have h0 := hs.reenv (t := t) (p := .any) rfl (by simp [Rep])
  simp only [RepT] at hv
  cases hlo with
  | append hop hT hj hz hcond =>
    rename_i j
    simp only [not_or] at hcond
    obtain ⟨hj0, hzl⟩ := hcond
    obtain ⟨i, v, hi, hiz, hvz⟩ := zeroOf_length hz
    have hij : i = j := by rw [hj] at hi; exact (Option.some.inj hi).symm
    subst hij
    have hzs : v.cells.size = i.size := by rw [hvz]; simpa using Decidable.not_not.1 hzl
    have hres := sl_cells hs.sin hyr
    -- what is to be shown of the run, and what it gives
    have finish : ∀ (v' : Value) (w' : World) (g : Option Nat), (Builtin.append_ #[T, T] o.type #[a.tmps.getD t undef, a.eval y]).run P w = .ok v' w' →
        (∃ L', Sat C (upd (upd env t .any) d (.lin E i.size (es ++ ys))) H D (a.put (some d) v') w' S L') → o.wpIn (Fw r) 0 P a w next Q := by
      intro v' w' g hrun ⟨L', hs'⟩
      refine Oper.wpIn_value (.append hop hT hj hz (by simp only [not_or]; exact ⟨hj0, hzl⟩)) (by simp) (y := v') (w' := w') ?_ (by rw [hdst]; exact hnext _ _ _ _ _ _ _ k hs' (Snap.Le.refl _))
      have e1 : a.eval (.tmp t) = a.tmps.getD t undef := rfl
      simp only [execOp, hop, resolve, invoke, builtin, Sem.run_bind, Sem.run_pure, Result.andThen_ok, List.map_toArray, List.map_cons, List.map_nil, e1, hrun]
    rcases hres with ⟨⟨ady, hyv⟩, rfl⟩ | ⟨ad, c, news, hyv, hnl, hnr, hnc, hn1, hyk⟩
    · -- nothing is appended
      rw [List.append_nil] at finish
      rcases hv with ⟨hv, rfl, hL⟩ | ⟨g, cap, hL, hv, ho⟩
      · refine finish (.slice none 0 0) w none ?_ ⟨_, h0.putLin (d := d) (y := .slice none 0 0) (g := none) hsd (by simp [RepT]) (fun _ e => by cases e)⟩
        rw [hyv, hv]
        exact run_append_nothing 0 T o.type E i i.size hT hi _ 0 [] (World.ownsRow_nil _ _ _ _) ady
      · obtain ⟨cur, hrow, h1, h2, h3, h4, h5, h6⟩ := ho.arr
        refine finish (a.tmps.getD t undef) w none ?_ ⟨_, h0.putLin (d := d) (y := a.tmps.getD t undef) (g := some g) hsd (by
          simp only [RepT]; exact .inr ⟨g, cap, rfl, hv, ho⟩) (fun b e => by
            cases e
            refine ⟨hs.lin t g hL, fun u _ eu => ?_⟩
            simp only [Lset] at eu
            split at eu
            · cases eu
            · rename_i hu; exact hu (hs.linj u t g eu hL))⟩
        rw [hyv]
        refine run_append_nothing 0 T o.type E i i.size hT hi _ es.length (cur.take (es.length * i.size)) ?_ ady
        rw [hv]
        exact ⟨by rw [List.length_take, h1]; exact Nat.min_eq_left (Nat.mul_le_mul_right _ h2), .inr ⟨g, cap, cur.toArray, rfl, Nat.zero_le _, hrow, h2, h3, by simpa using h1, by simp⟩⟩
    · have hgrowcap : ∀ old, es.length + ys.length ≤ grownCap w (es.length + ys.length) old E ∧ grownCap w (es.length + ys.length) old E ≤ maxLen :=
        fun old => ⟨grownCap_ge _ _ _ _, grownCap_le_maxLen _ _ _ _ (by unfold maxLen; omega)⟩
      -- a new array
      have newarr : ∀ (xs : List Value) (old : Nat), xs.length = es.length * i.size → RepL S es.flatten xs → (∀ e ∈ es, e.length = i.size) → (∀ c ∈ xs, c.oneCell' = true) →
          ∃ L', Sat C (upd (upd env t .any) d (.lin E i.size (es ++ ys))) H D (a.put (some d) (.slice (some ⟨w.heap.size, 0, none⟩) (es.length + ys.length) (grownCap w (es.length + ys.length) old E)))
            (w.drew.alloc (.cells (xs.toArray ++ news.toArray ++ Builtin.zeroCells v.cells (grownCap w (es.length + ys.length) old E - (es.length + ys.length))) E)) S L' := by
        intro xs old hxl hxr hek hx1
        have hd1 : Sat C (upd env t .any) H D a w.drew S (Lset L t none) := h0.world ⟨rfl, rfl, rfl, Nat.le_refl _, fun _ _ _ => rfl⟩ (fun _ _ => rfl) (fun _ _ => rfl) (fun _ _ _ => rfl)
        have hal := hd1.grow (w' := w.drew.alloc (.cells (xs.toArray ++ news.toArray ++ Builtin.zeroCells v.cells (grownCap w (es.length + ys.length) old E - (es.length + ys.length))) E))
          ((RowKit.Below.refl _ _).alloc (Nat.le_refl _) _)
        refine ⟨_, hal.putLin (d := d) (g := some w.heap.size) hsd ?_ ?_⟩
        · simp only [RepT]
          refine .inr ⟨w.heap.size, grownCap w (es.length + ys.length) old E, rfl, by rw [List.length_append], ?_⟩
          refine Own.to_arr (cur := xs ++ news ++ (Builtin.zeroCells v.cells (grownCap w (es.length + ys.length) old E - (es.length + ys.length))).toList) (hs.fresh (Nat.le_refl _)) (fun hh => absurd (hs.sin.lt hh) (Nat.lt_irrefl _))
            ((heap_alloc_new w.drew _).trans (by simp)) ?_ (by rw [List.length_append]; exact (hgrowcap old).1) (hgrowcap old).2 (by
              intro e he
              rcases List.mem_append.1 he with he | he
              · exact hek e he
              · exact hyk e he) (xs := xs ++ news) ?_ (by rw [List.flatten_append]; exact hxr.append hnr) (by
              intro c hc
              rcases List.mem_append.1 hc with hc | hc
              · exact hx1 c hc
              · exact hn1 c hc)
          · have := (hgrowcap old).1
            simp only [List.length_append, hxl, hnl, Array.length_toList, size_zeroCells, hzs, ← Nat.add_mul]
            congr 1; omega
          · rw [List.length_append, Nat.add_mul, ← hxl, ← hnl, ← List.length_append]
            exact List.take_left
        · intro b e
          cases e
          refine ⟨fun hm => absurd (hs.own_lt hm) (Nat.lt_irrefl _), fun u _ eu => ?_⟩
          simp only [Lset] at eu
          split at eu
          · cases eu
          · exact absurd (hs.L_lt eu) (Nat.lt_irrefl _)
      have hb1 : (es.length + ys.length) * i.bytes ≤ 140737488355328 := hb
      rcases hv with ⟨hv, rfl, hL⟩ | ⟨g, cap, hL, hv, ho⟩
      · by_cases hm : ys.length = 0
        · have hys : ys = [] := List.eq_nil_of_length_eq_zero hm
          subst hys
          simp only [List.length_nil, Nat.zero_mul] at hnl
          have hnews : news = [] := List.eq_nil_of_length_eq_zero hnl
          subst hnews
          refine finish (.slice none 0 0) w none ?_ ⟨_, h0.putLin (d := d) (y := .slice none 0 0) (g := none) hsd (by simp [RepT]) (fun _ e => by cases e)⟩
          rw [hyv, hv]
          simp [Builtin.append_, run_underlying hT, sizeOf, typeInfo, hi, Builtin.lenOf, Builtin.firstCells, loadCells, loadCellsFrom]
        · obtain ⟨L', hn'⟩ := newarr [] 0 (by simp) (by simp [RepL]) (by simp) (by simp)
          simp only [List.length_nil, Nat.zero_add] at hn' hb1 hn
          refine finish _ _ none ?_ ⟨L', hn'⟩
          rw [hyv, hv]
          have hr := run_append_nil (P := P) w T o.type E i v hT hi hiz ad ys.length c news hnl hnc (by omega) (by omega) (by omega)
          rw [hr]
          simp
      · obtain ⟨cur, hrow, h1, h2, h3, h4, h5, h6⟩ := ho.arr
        by_cases hroom : es.length + ys.length ≤ cap
        · have hfit : es.length * i.size + news.length ≤ cur.toArray.size := by
            rw [hnl, List.size_toArray, h1, ← Nat.add_mul]; exact Nat.mul_le_mul_right _ hroom
          have hr := run_append_room (P := P) w T o.type E i hT hi g es.length cap cur.toArray hrow ad ys.length c news hnl hnc hn1 hroom hfit
          have hw : ∀ b, b ≠ g → (w.setRow g ((cur.toArray.toList.take (es.length * i.size) ++ news ++ cur.toArray.toList.drop (es.length * i.size + news.length)).toArray)).heap[b]? = w.heap[b]? := fun b hbg => setRow_other w g b _ hbg
          have hgH : ∀ b, b ∈ (H ++ C.F).map (·.1) → b ≠ g := fun b hb e => hs.lin t g hL (e ▸ hb)
          have hal := h0.world (w' := w.setRow g ((cur.toArray.toList.take (es.length * i.size) ++ news ++ cur.toArray.toList.drop (es.length * i.size + news.length)).toArray))
            ⟨rfl, rfl, rfl, by simp, fun b hb hA => hw b (fun e => hA (e ▸ ho.base))⟩ (fun b hb => hw b (fun e => ho.apart (e ▸ hb))) (fun b hb => hw b (hgH b hb)) (fun u b eu => hw b (fun e => by
              simp only [Lset] at eu
              split at eu
              · cases eu
              · rename_i hu; exact hu (hs.linj u t g (e ▸ eu) hL)))
          refine finish _ _ none (by rw [hyv, hv]; exact hr) ⟨_, hal.putLin (d := d) (g := some g) hsd ?_ ?_⟩
          · simp only [RepT]
            refine .inr ⟨g, cap, rfl, by rw [List.length_append], ?_⟩
            refine Own.to_arr ho.base ho.apart (setRow_heap w g _ _ E (0, 0) hrow) ?_ (by rw [List.length_append]; exact hroom) h3 (by
              intro e he
              rcases List.mem_append.1 he with he | he
              · exact h4 e he
              · exact hyk e he) (xs := cur.take (es.length * i.size) ++ news) ?_ (by rw [List.flatten_append]; exact h5.append hnr) (by
              intro x hx
              rcases List.mem_append.1 hx with hx | hx
              · exact h6 x hx
              · exact hn1 x hx)
            · simp only [List.length_append, List.length_take, List.length_drop]
              rw [List.size_toArray] at hfit
              omega
            · have hle : es.length * i.size ≤ cur.length := by rw [h1]; exact Nat.mul_le_mul_right _ h2
              have hl0 : (cur.take (es.length * i.size)).length = es.length * i.size := by rw [List.length_take]; omega
              have hl : (cur.take (es.length * i.size) ++ news).length = (es ++ ys).length * i.size := by
                rw [List.length_append, hl0, hnl, List.length_append, Nat.add_mul]
              rw [← hl]
              exact List.take_left
          · intro b e
            cases e
            refine ⟨hs.lin t g hL, fun u _ eu => ?_⟩
            simp only [Lset] at eu
            split at eu
            · cases eu
            · rename_i hu; exact hu (hs.linj u t g eu hL)
        · have hxl : (cur.take (es.length * i.size)).length = es.length * i.size := by rw [List.length_take, h1]; exact Nat.min_eq_left (Nat.mul_le_mul_right _ h2)
          have holds : ∀ j u, (cur.take (es.length * i.size))[j]? = some u → w.cell? ((⟨g, 0, none⟩ : Addr).add j) = some u := by
            intro j u hu
            rw [addr_add, Nat.zero_add, cell_of_row w g j _ _ _ hrow]
            rw [List.getElem?_take] at hu
            split at hu
            · simpa using hu
            · cases hu
          have hr := run_append_grow (P := P) w T o.type E i v hT hi hiz ⟨g, 0, none⟩ es.length cap (cur.take (es.length * i.size)) hxl holds ad ys.length c news hnl hnc (by omega) (by omega) (growslice_fits (by omega) hb1)
          obtain ⟨L', hn'⟩ := newarr (cur.take (es.length * i.size)) cap hxl h5 h4 h6
          exact finish _ _ none (by rw [hyv, hv]; exact hr) ⟨L', hn'⟩
end
end Go.Px

namespace Go.Px
def CallOK (P : Program) (f : FuncId) : Prop := ∃ fn, P.funcs[f]? = some fn ∧ (fn.name == "runtime.NumGoroutine") = false ∧ fn.body.isNone = false
def Ev (P : Program) (f : FuncId) (args : List AV) (res : AV) : Prop :=
  CallOK P f ∧ ∀ (S : Snap) (w : World) (vs : List Value), S.In w → RepL S args vs →
    Calls P f vs.toArray w (fun e w' => ∃ v S' g, e = .returned v ∧ S.Le S' ∧ S'.In w' ∧ (∀ b, S'.has b → S.has b ∨ w.heap.size ≤ b) ∧ RowKit.Below w.heap.size w w' ∧ RepT (fun b => w.heap.size ≤ b) S' w' g res v)
def SubL (ps qs : List AV) : Prop := ∀ (S : Snap) (vs : List Value), RepL S ps vs → RepL S qs vs
theorem SubL.refl (ps : List AV) : SubL ps ps := fun _ _ h => h
theorem SubL.cons {p : AV} {ps qs : List AV} (h : SubL ps qs) : SubL (p :: ps) (p :: qs) := by
  intro S vs hr
  simp only [RepL] at hr ⊢
  obtain ⟨c, cs', e, h1, h2⟩ := hr
  exact ⟨c, cs', e, h1, h S cs' h2⟩
theorem SubL.nilSl {k : Nat} {ps qs : List AV} (h : SubL ps qs) : SubL (.nil :: ps) (.sl k [] :: qs) := by
  intro S vs hr
  simp only [RepL, Rep] at hr ⊢
  obtain ⟨c, cs', e, h1, h2⟩ := hr
  exact ⟨c, cs', e, .inl ⟨⟨_, h1⟩, trivial⟩, h S cs' h2⟩
section
variable {P : Program} {r : Option Nat} {N : Nat} {env : Env} {H : Heap} {D : List Nat} {dst : Option Nat} {K : Env → Heap → List Nat → Prop}
theorem calls_Fw {f : FuncId} {args : Array Value} {w : World} {R : Ending → World → Prop} (h : Calls P f args w R) (r : Option Nat) : CallsIn (Fw r) 0 P f args w R := by
  have h1 : CallsIn Fence.wide 0 P f args w R := callsIn_wide.2 h
  cases r with
  | none => exact h1
  | some l => exact CallsIn.inRound l h1
theorem Oper.wpIn_enter {o : Oper} {l : LOp} (hl : Lo P o l) (hno : ∀ op, l ≠ .other op) {a : Act} {w w' : World} {f : FuncId} {args : Array Value}
    (h : (execOp a.eval o).run P w = .ok (.enter f args) w') {next : Act → World → Prop} {Q : Exit → Act → World → Prop}
    (k : Calls P f args w' (fun e w'' => ∃ v, e = .returned v ∧ next (a.put o.dst v) w'')) : o.wpIn (Fw r) 0 P a w next Q := by
  refine ⟨fun _ _ => trivial, ?_⟩
  show o.uponIn (Fw r) 0 P a next Q ((o.semAt r a.eval).run P w)
  rw [hl.semAt hno, h]
  refine ⟨fun hd => by simp [Fw, Fence.wide] at hd, (calls_Fw k r).mono ?_⟩
  rintro e w'' ⟨v, rfl, hk⟩
  exact hk
theorem run_callFunc {f : FuncId} (h : CallOK P f) (args : Array Value) (w : World) : (callFunc f args).run P w = .ok (.enter f args) w := by
  obtain ⟨fn, hf, hn, hb⟩ := h
  simp only [callFunc, Sem.run_bind, run_program, Result.andThen_ok, hf, hn, hb, Bool.false_eq_true, if_false, Sem.run_pure]
theorem RepT.base_mono {B B' : Nat → Prop} {S : Snap} {w : World} {g : Option Nat} {p : AV} {y : Value} (h : RepT B S w g p y) (hB : ∀ b, B b → B' b) : RepT B' S w g p y := by
  cases p
  case lin T k es =>
    simp only [RepT] at h ⊢
    rcases h with h | ⟨b, cap, hb, hy, ho⟩
    · exact .inl h
    · exact .inr ⟨b, cap, hb, hy, hB _ ho.base, ho.apart, ho.holds⟩
  case lbox T cs =>
    simp only [RepT] at h ⊢
    obtain ⟨b, hb, hy, ho⟩ := h
    exact ⟨b, hb, hy, hB _ ho.base, ho.apart, ho.holds⟩
  case linV T k es ad cap' =>
    simp only [RepT] at h ⊢
    obtain ⟨h1, h⟩ := h
    refine ⟨h1, ?_⟩
    rcases h with h | ⟨b, cap, hb, hy, ho⟩
    · exact .inl h
    · exact .inr ⟨b, cap, hb, hy, hB _ ho.base, ho.apart, ho.holds⟩
  case lmap cs es =>
    simp only [RepT] at h ⊢
    obtain ⟨g, bb, off, hb, hy, hc, ho⟩ := h
    exact ⟨g, bb, off, hb, hy, hc, hB _ ho.base, ho.apart, ho.holds⟩
  all_goals exact h
theorem RepT.base_of {B : Nat → Prop} {S : Snap} {w : World} {b : Nat} {p : AV} {y : Value} (h : RepT B S w (some b) p y) : B b ∧ ¬ S.has b := by
  cases p <;> simp only [RepT] at h
  case lin =>
    rcases h with ⟨_, _, h⟩ | ⟨g, cap, hb, _, ho⟩
    · cases h
    · cases hb; exact ⟨ho.base, ho.apart⟩
  case lbox => obtain ⟨g, hb, _, ho⟩ := h; cases hb; exact ⟨ho.base, ho.apart⟩
  case linV =>
    rcases h.2 with ⟨_, _, h⟩ | ⟨g, cap, hb, _, ho⟩
    · cases h
    · cases hb; exact ⟨ho.base, ho.apart⟩
  case lmap => obtain ⟨g, bb, off, hb, _, _, ho⟩ := h; cases hb; exact ⟨ho.base, ho.apart⟩
  all_goals (obtain ⟨h, _⟩ := h; cases h)
theorem Sat.called {C : Ctx} {a : Act} {w : World} {S : Snap} {L : Nat → Option Nat} (hs : Sat C env H D a w S L) (hd : ∀ d, dst = some d → d < C.N) {w' : World} {S' : Snap} {g : Option Nat} {p : AV} {v : Value}
    (hle : S.Le S') (hin : S'.In w') (hnew : ∀ b, S'.has b → S.has b ∨ w.heap.size ≤ b) (hb : RowKit.Below w.heap.size w w') (hr : RepT (fun b => w.heap.size ≤ b) S' w' g p v) :
    ∃ L', Sat C (updO env dst p) H D (a.put dst v) w' S' L' := by
  have hs1 := (hs.grow hb).snap hle hin (fun b hh => (hnew b hh).imp id (fun h1 => hs.fresh h1))
    (fun e he hh => by
      have hlt := hs.own_lt (b := e.1) (List.mem_map.2 ⟨e, he, rfl⟩)
      rcases hnew _ hh with h1 | h1
      · rcases List.mem_append.1 he with he | he
        · exact (hs.heap e he).apart h1
        · exact (hs.frame e he).apart h1
      · omega)
    (fun t b e hh => by
      have hlt := hs.L_lt e
      rcases hnew _ hh with h1 | h1
      · exact hs.L_apart e h1
      · omega)
  cases dst with
  | none => exact ⟨L, hs1⟩
  | some d =>
    refine ⟨_, hs1.putLin (d := d) (g := g) (Nat.lt_of_lt_of_le (hd d rfl) hs.size) (hr.base_mono (fun _ hb => hs.fresh hb)) ?_⟩
    intro b e
    subst e
    have := hr.base_of
    refine ⟨fun hm => ?_, fun t _ e => ?_⟩
    · have := hs.own_lt hm; omega
    · have := hs.L_lt e; omega
theorem Op1.call {f : FuncId} {args : List Operand} {ty : TypeId} {ps qs : List AV} {res : AV} (hev : Ev P f qs res) (hps : args.map (evO env) = ps) (hlin : ps.all (fun p => !p.isLin) = true) (hsub : SubL ps qs)
    (k : K (updO env dst res) H D) : Op1 P r N (.call f args ty) dst env H D K := by
  intro o hdst hd hlo C a w S L hN hs next Q hnext
  have hl0 : ∀ p ∈ ps, p.isLin = false := fun p hp => by simpa using List.all_eq_true.1 hlin p hp
  have hargs := hsub S _ (hs.repOs args hps hl0)
  cases hlo with
  | call hop hf hn hb =>
    rename_i xs ts fn
    refine Oper.wpIn_enter (.call hop hf hn hb) (by simp) (f := f) (args := xs.map a.eval) (w' := w) ?_ ?_
    · simp [execOp, hop, resolve, Deferred.ofValue, Act.eval, invoke, run_callFunc hev.1]
    · have h := hev.2 S w _ hs.sin hargs
      have e : (List.map a.eval xs.toList).toArray = xs.map a.eval := by rw [← Array.toList_map]
      rw [e] at h
      refine h.mono ?_
      rintro e w' ⟨v, S', g, rfl, hle, hin, hnew, hbel, hr⟩
      obtain ⟨L', hs'⟩ := hs.called (dst := dst) (fun d e => hN ▸ hd d e) hle hin hnew hbel hr
      exact ⟨v, rfl, by rw [hdst]; exact hnext _ _ _ _ _ _ _ k hs' hle⟩
theorem Op1.callv {x : Operand} {args : List Operand} {ty : TypeId} {f : FuncId} {first caps ps qs : List AV} {res : AV} (hx : evO env x = .fn (.func f) first caps) (hev : Ev P f qs res)
    (hps : args.map (evO env) = ps) (hlin : ps.all (fun p => !p.isLin) = true) (hsub : SubL (first ++ ps ++ caps) qs) (k : K (updO env dst res) H D) : Op1 P r N (.callv x args ty) dst env H D K := by
  intro o hdst hd hlo C a w S L hN hs next Q hnext
  have hl0 : ∀ p ∈ ps, p.isLin = false := fun p hp => by simpa using List.all_eq_true.1 hlin p hp
  have hxr := hs.repO x hx rfl
  simp only [Rep] at hxr
  obtain ⟨fs, cs, hxv, hfr, hcr⟩ := hxr
  have hargs := hsub S _ ((hfr.append (hs.repOs args hps hl0)).append hcr)
  cases hlo with
  | callv hop =>
    rename_i xs ts
    refine Oper.wpIn_enter (.callv hop) (by simp) (f := f) (args := (fs ++ xs.toList.map a.eval ++ cs).toArray) (w' := w) ?_ ?_
    · have e : fs.toArray ++ xs.map a.eval ++ cs.toArray = (fs ++ xs.toList.map a.eval ++ cs).toArray := by
        apply Array.toList_inj.1; simp
      simp [execOp, hop, resolve, Deferred.ofValue, hxv, invoke, run_callFunc hev.1]
    · refine (hev.2 S w _ hs.sin hargs).mono ?_
      rintro e w' ⟨v, S', g, rfl, hle, hin, hnew, hbel, hr⟩
      obtain ⟨L', hs'⟩ := hs.called (dst := dst) (fun d e => hN ▸ hd d e) hle hin hnew hbel hr
      exact ⟨v, rfl, by rw [hdst]; exact hnext _ _ _ _ _ _ _ k hs' hle⟩
end
end Go.Px

namespace Go.Px
inductive LCode where
  | skip
  | ops (l : List LOper)
  | dops (l : List (LOper × List Nat))
  | seq (a b : LCode)
  | ite (c : Operand) (a b : LCode)
  | block (id : Nat) (a : LCode)
  | loop (a : LCode)
  | exit (id : Nat)
  | ret
  | scope (a : LCode)
  | label (l : Nat)
  | goto (l : Nat)
  | rfun (f : Operand) (ps : List Nat) (assign body : LCode)
def lowerGuard (arr : Array Oper) : Option (Nat × Bool) → Option (Option (Nat × Bool))
  | none => some none
  | some (j, b) => match (arr[j]?).bind (·.dst) with
    | some t => some (some (t, b))
    | none => none
def dstOK (N : Nat) : Option Nat → Bool
  | none => true
  | some d => Nat.blt d N
def lowerOper (P : Program) (N : Nat) (arr : Array Oper) (o : Oper) : Option LOper :=
  match lowerOp P o, lowerGuard arr o.guard, dstOK N o.dst with
  | some l, some g, true => some ⟨o.dst, g, l⟩
  | _, _, _ => none
def lowerOps (P : Program) (N : Nat) (arr : Array Oper) : List Oper → Option (List LOper)
  | [] => some []
  | o :: os => match lowerOper P N arr o, lowerOps P N arr os with
    | some l, some ls => some (l :: ls)
    | _, _ => none
def boundBy (o : Oper) : List Nat := (o.after.toList.filter (Region.binds .any)).map (·.on)
def lowerCode (P : Program) (N : Nat) : Code → Option LCode
  | .skip => some .skip
  | .region _ arr false => (lowerOps P N arr arr.toList).map .ops
  | .region _ arr true => (lowerOps P N arr arr.toList).map fun ls => .dops (ls.zip (arr.toList.map boundBy))
  | .seq a b => match lowerCode P N a, lowerCode P N b with
    | some x, some y => some (.seq x y)
    | _, _ => none
  | .cond c a b => match lowerCode P N a, lowerCode P N b with
    | some x, some y => some (.ite c x y)
    | _, _ => none
  | .block id a => (lowerCode P N a).map (.block id)
  | .loop a => (lowerCode P N a).map .loop
  | .exit id => some (.exit id)
  | .ret => some .ret
  | .scope a => (lowerCode P N a).map .scope
  | .label l => some (.label l)
  | .goto l => some (.goto l)
  | .rangeFunc f ps a b => match lowerCode P N a, lowerCode P N b with
    | some x, some y => some (.rfun f ps.toList x y)
    | _, _ => none
  | .refuse _ => none
theorem lowerOper_match {P : Program} {N : Nat} {arr : Array Oper} {i : Nat} {o : Oper} {l : LOper} (ho : arr[i]? = some o) (h : lowerOper P N arr o = some l) : Match1 P N arr i l := by
  unfold lowerOper at h
  split at h
  · rename_i x g hx hg hd
    cases h
    refine ⟨o, ho, rfl, ?_, lowerOp_lo hx, ?_⟩
    · intro d e
      simp only at e
      rw [e] at hd
      exact Nat.lt_of_lt_of_le (Nat.lt_succ_self d) (Nat.le_of_ble_eq_true hd)
    · unfold lowerGuard at hg
      split at hg
      · rename_i e; cases hg; exact .inl ⟨rfl, e⟩
      · rename_i j b e
        split at hg
        · rename_i t et
          cases hg
          exact .inr ⟨j, t, b, rfl, e, et⟩
        · cases hg
  · cases h
theorem lowerOps_match {P : Program} {N : Nat} {arr : Array Oper} : ∀ (os : List Oper) (i : Nat) (ls : List LOper), arr.toList.drop i = os → lowerOps P N arr os = some ls → MatchL P N arr (List.range' i os.length) ls
  | [], i, ls, _, h => by simp only [lowerOps, Option.some.injEq] at h; subst h; simp [MatchL]
  | o :: os, i, ls, e, h => by
    simp only [lowerOps] at h
    split at h
    · rename_i l ls' hl hls
      cases h
      have ho : arr[i]? = some o := by
        have : (arr.toList.drop i)[0]? = some o := by rw [e]; rfl
        rw [List.getElem?_drop] at this
        simpa using this
      have hrest : arr.toList.drop (i + 1) = os := by
        rw [← List.tail_drop, e]; rfl
      simp only [List.length_cons, List.range'_succ, MatchL]
      exact ⟨l, ls', rfl, lowerOper_match ho hl, lowerOps_match os (i + 1) ls' hrest hls⟩
    · cases h
inductive Lc (P : Program) (N : Nat) : Code → LCode → Prop where
  | skip : Lc P N .skip .skip
  | ops {id arr ls} : MatchL P N arr (List.range arr.size) ls → Lc P N (.region id arr false) (.ops ls)
  | dops {id arr ls} : MatchL P N arr (List.range arr.size) ls → Lc P N (.region id arr true) (.dops (ls.zip (arr.toList.map boundBy)))
  | seq {a b x y} : Lc P N a x → Lc P N b y → Lc P N (.seq a b) (.seq x y)
  | ite {c a b x y} : Lc P N a x → Lc P N b y → Lc P N (.cond c a b) (.ite c x y)
  | block {id a x} : Lc P N a x → Lc P N (.block id a) (.block id x)
  | loop {a x} : Lc P N a x → Lc P N (.loop a) (.loop x)
  | exit {id} : Lc P N (.exit id) (.exit id)
  | ret : Lc P N .ret .ret
  | scope {a x} : Lc P N a x → Lc P N (.scope a) (.scope x)
  | label {l} : Lc P N (.label l) (.label l)
  | goto {l} : Lc P N (.goto l) (.goto l)
  | rfun {f ps a b x y} : Lc P N a x → Lc P N b y → Lc P N (.rangeFunc f ps a b) (.rfun f ps.toList x y)
theorem lowerOps_all {P : Program} {N : Nat} {arr : Array Oper} {ls : List LOper} (h : lowerOps P N arr arr.toList = some ls) : MatchL P N arr (List.range arr.size) ls := by
  have := lowerOps_match (P := P) (N := N) (arr := arr) arr.toList 0 ls (by simp) h
  rw [List.range_eq_range']
  simpa using this
theorem lowerCode_lc {P : Program} {N : Nat} : ∀ {c : Code} {lc : LCode}, lowerCode P N c = some lc → Lc P N c lc
  | .skip, _, h => by simp only [lowerCode, Option.some.injEq] at h; subst h; exact .skip
  | .region _ arr false, _, h => by
    simp only [lowerCode, Option.map_eq_some_iff] at h
    obtain ⟨ls, h, rfl⟩ := h
    exact .ops (lowerOps_all h)
  | .region _ arr true, _, h => by
    simp only [lowerCode, Option.map_eq_some_iff] at h
    obtain ⟨ls, h, rfl⟩ := h
    exact .dops (lowerOps_all h)
  | .seq a b, _, h => by
    simp only [lowerCode] at h
    split at h
    · rename_i x y ha hb; cases h; exact .seq (lowerCode_lc ha) (lowerCode_lc hb)
    · cases h
  | .cond c a b, _, h => by
    simp only [lowerCode] at h
    split at h
    · rename_i x y ha hb; cases h; exact .ite (lowerCode_lc ha) (lowerCode_lc hb)
    · cases h
  | .block id a, _, h => by simp only [lowerCode, Option.map_eq_some_iff] at h; obtain ⟨x, h, rfl⟩ := h; exact .block (lowerCode_lc h)
  | .loop a, _, h => by simp only [lowerCode, Option.map_eq_some_iff] at h; obtain ⟨x, h, rfl⟩ := h; exact .loop (lowerCode_lc h)
  | .exit id, _, h => by simp only [lowerCode, Option.some.injEq] at h; subst h; exact .exit
  | .ret, _, h => by simp only [lowerCode, Option.some.injEq] at h; subst h; exact .ret
  | .scope a, _, h => by simp only [lowerCode, Option.map_eq_some_iff] at h; obtain ⟨x, h, rfl⟩ := h; exact .scope (lowerCode_lc h)
  | .label l, _, h => by simp only [lowerCode, Option.some.injEq] at h; subst h; exact .label
  | .goto l, _, h => by simp only [lowerCode, Option.some.injEq] at h; subst h; exact .goto
  | .rangeFunc f ps a b, _, h => by
    simp only [lowerCode] at h
    split at h
    · rename_i x y ha hb; cases h; exact .rfun (lowerCode_lc ha) (lowerCode_lc hb)
    · cases h
  | .refuse _, _, h => by simp only [lowerCode, reduceCtorEq] at h
def LWp (P : Program) (r : Option Nat) (N : Nat) (lc : LCode) (Q : Post) (env : Env) (H : Heap) (D : List Nat) : Prop :=
  ∀ c, Lc P N c lc → ∀ (C : Ctx) (a : Act) (w : World) (S : Snap) (L : Nat → Option Nat), C.N = N → Sat C env H D a w S L → c.wpIn (Fw r) 0 P (PostC C Q) a w
def thenP (K : Env → Heap → List Nat → Prop) (Q : Post) : Post := fun e env H D => match e with
  | .normal => K env H D
  | e => Q e env H D
def blockP (id : Nat) (Q : Post) : Post := fun e env H D => match e with
  | .exit id' => if id' = id then Q .normal env H D else Q (.exit id') env H D
  | e => Q e env H D
def scopeP (Q : Post) : Post := fun e env H D => match e with
  | .goto _ => False
  | e => Q e env H D
section
variable {P : Program} {r : Option Nat} {N : Nat} {Q : Post} {env : Env} {H : Heap} {D : List Nat}
theorem LWp.skip (h : Q .normal env H D) : LWp P r N .skip Q env H D := by
  intro c hc C a w S L hN hs
  cases hc
  exact wpIn_skip ⟨env, H, D, S, L, hs, h⟩
theorem LWp.label {l : Nat} (h : Q .normal env H D) : LWp P r N (.label l) Q env H D := by
  intro c hc C a w S L hN hs
  cases hc
  exact wpIn_label ⟨env, H, D, S, L, hs, h⟩
theorem LWp.exit {id : Nat} (h : Q (.exit id) env H D) : LWp P r N (.exit id) Q env H D := by
  intro c hc C a w S L hN hs
  cases hc
  exact wpIn_exit ⟨env, H, D, S, L, hs, h⟩
theorem LWp.ret (h : Q .ret env H D) : LWp P r N .ret Q env H D := by
  intro c hc C a w S L hN hs
  cases hc
  exact wpIn_ret ⟨env, H, D, S, L, hs, h⟩
theorem LWp.ops {ls : List LOper} (h : WOps P r N ls Q env H D) : LWp P r N (.ops ls) Q env H D := by
  intro c hc C a w S L hN hs
  cases hc with
  | ops hm => exact wpIn_region (h _ _ hm C a w S L hN hs)
theorem LWp.seq {x y : LCode} (h : LWp P r N x (thenP (fun e h d => LWp P r N y Q e h d) Q) env H D) : LWp P r N (.seq x y) Q env H D := by
  intro c hc C a w S L hN hs
  cases hc with
  | seq ha hb =>
    refine wpIn_seq (wpIn_mono (h _ ha C a w S L hN hs) ?_)
    rintro e a' w' ⟨env', H', D', S', L', hs', hq⟩
    cases e with
    | normal => exact hq _ hb C a' w' S' L' hN hs'
    | _ => exact ⟨env', H', D', S', L', hs', hq⟩
theorem LWp.ite {c : Operand} {x y : LCode} {b : Bool} (hc : evO env c = .v (.bool b)) (ht : b = true → LWp P r N x Q env H D) (hf : b = false → LWp P r N y Q env H D) : LWp P r N (.ite c x y) Q env H D := by
  intro cc hcc C a w S L hN hs
  cases hcc with
  | ite ha hb => exact wpIn_cond_split (hs.int hc) (fun h => ht h _ ha C a w S L hN hs) (fun h => hf h _ hb C a w S L hN hs)
theorem LWp.block {id : Nat} {x : LCode} (h : LWp P r N x (blockP id Q) env H D) : LWp P r N (.block id x) Q env H D := by
  intro c hc C a w S L hN hs
  cases hc with
  | block ha =>
    refine wpIn_block (wpIn_mono (h _ ha C a w S L hN hs) ?_)
    rintro e a' w' ⟨env', H', D', S', L', hs', hq⟩
    cases e with
    | exit id' =>
      simp only [blockP] at hq
      simp only [Exit.inBlock]
      split
      · rename_i h; rw [if_pos h] at hq; exact ⟨env', H', D', S', L', hs', hq⟩
      · rename_i h; rw [if_neg h] at hq; exact ⟨env', H', D', S', L', hs', hq⟩
    | _ => exact ⟨env', H', D', S', L', hs', hq⟩
theorem stepR_scope {b : Frame} {a : Act} {k : List Item} {cs : List Frame} {w : World} {c : Code} : step P (lone (b.atR a (.code (.scope c) :: k)) cs w) = .next (lone (b.atR a (.code c :: .inScope c :: k)) cs w) :=
  step_lone_go (by simp [stepG, stepG.exec, Frame.atR])
theorem stepR_inScope {b : Frame} {a : Act} {k : List Item} {cs : List Frame} {w : World} {c : Code} : step P (lone (b.atR a (.inScope c :: k)) cs w) = .next (lone (b.atR a k) cs w) :=
  step_lone_go (by simp [stepG, stepG.exec, Frame.atR])
theorem wpIn_scope_straight {F : Fence} {n : Nat} {QQ : Exit → Act → World → Prop} {a : Act} {w : World} {c : Code} (h : c.wpIn F n P (Exit.noGoto QQ) a w) : (Code.scope c).wpIn F n P QQ a w := by
  intro b k cs hro hb hr
  have h0 : (lone (b.atR a (.code (.scope c) :: k)) cs w).fenced P F := fenced_calm hb hr rfl
  obtain ⟨e, a₁, w₁, hq, harr⟩ := h b (.inScope c :: k) cs hro hb hr
  cases e with
  | normal => exact ⟨.normal, a₁, w₁, hq, .head h0 stepR_scope (StepsIn.trans harr (.one (fenced_calm hb hr rfl) stepR_inScope))⟩
  | exit id =>
    have hx : exitTo id (.inScope c :: k) = exitTo id k := by simp [exitTo]
    exact ⟨.exit id, a₁, w₁, hq, fun k' hk => .head h0 stepR_scope (harr.1 k' (by rw [hx]; exact hk)),
      fun hr' hk => let ⟨k₁, h1, h2⟩ := harr.2 hr' (by rw [hx]; exact hk); ⟨k₁, h1, .head h0 stepR_scope h2⟩⟩
  | goto l => exact hq.elim
  | ret => exact ⟨_, a₁, w₁, hq, .of_steps (.one h0 stepR_scope) harr⟩
  | panic ch => exact ⟨_, a₁, w₁, hq, .of_steps (.one h0 stepR_scope) harr⟩
  | outgrown => exact ⟨_, a₁, w₁, hq, .of_steps (.one h0 stepR_scope) harr⟩
theorem LWp.scope {x : LCode} (h : LWp P r N x (scopeP Q) env H D) : LWp P r N (.scope x) Q env H D := by
  intro c hc C a w S L hN hs
  cases hc with
  | scope ha =>
    refine wpIn_scope_straight (wpIn_mono (h _ ha C a w S L hN hs) ?_)
    rintro e a' w' ⟨env', H', D', S', L', hs', hq⟩
    cases e with
    | goto l => exact hq.elim
    | _ => exact ⟨env', H', D', S', L', hs', hq⟩
theorem LWp.ent {x : LCode} {env' : Env} {H' : Heap} {D' : List Nat} (h : Ent env H D env' H' D') (k : LWp P r N x Q env' H' D') : LWp P r N x Q env H D :=
  fun c hc C a w S L hN hs => by obtain ⟨S', L', _, hs'⟩ := h C a w S L hs; exact k c hc C a w S' L' hN hs'
theorem LWp.share {x : LCode} {t T kk : Nat} {es : List (List AV)} (ht : env t = .lin T kk es)
    (h0 : es = [] → LWp P r N x Q (upd env t .nil) H D) (h1 : ∀ b cap, LWp P r N x Q (upd env t (.so b es.length cap)) ((b, .arr T kk cap es) :: H) D) : LWp P r N x Q env H D :=
  fun c hc C a w S L hN hs => by
    rcases hs.share ht with ⟨he, h⟩ | ⟨b, cap, h⟩
    · exact h0 he c hc C a w S _ hN h
    · exact h1 b cap c hc C a w S _ hN h
theorem LWp.loop {X : Type} (E : X → Env) (Hh : X → Heap) (Dd : X → List Nat) (m : X → Nat) {x : LCode} (x0 : X) (h0 : Ent env H D (E x0) (Hh x0) (Dd x0))
    (hb : ∀ i, LWp P r N x (thenP (fun env' H' D' => ∃ i', m i' < m i ∧ Ent env' H' D' (E i') (Hh i') (Dd i')) Q) (E i) (Hh i) (Dd i)) : LWp P r N (.loop x) Q env H D := by
  intro c hc C a w S L hN hs
  cases hc with
  | loop ha =>
    rename_i cb
    obtain ⟨S0, L0, _, hs0⟩ := h0 C a w S L hs
    intro b k cs hro hbb hr
    have key : ∀ (j : Nat) (i : X) (a : Act) (w : World) (S : Snap) (L : Nat → Option Nat), m i = j → Sat C (E i) (Hh i) (Dd i) a w S L →
        ∃ e a' w', PostC C Q e a' w' ∧ ArrivesIn (Machine.fenced P (Fw r)) P (lone (b.atR a (.code cb :: .inLoop cb :: k)) cs w) b k cs e a' w' := by
      intro j
      induction j using Nat.strongRecOn with
      | _ j ih =>
        intro i a w S L hm hs
        obtain ⟨e, a₁, w₁, ⟨env', H', D', S', L', hs', hq⟩, harr⟩ := hb i cb ha C a w S L hN hs b (.inLoop cb :: k) cs hro hbb hr
        cases e with
        | normal =>
          obtain ⟨i', hlt, hent⟩ := hq
          obtain ⟨S2, L2, _, hs2⟩ := hent C a₁ w₁ S' L' hs'
          obtain ⟨e₂, a₂, w₂, hq₂, harr₂⟩ := ih (m i') (hm ▸ hlt) i' a₁ w₁ S2 L2 rfl hs2
          exact ⟨e₂, a₂, w₂, hq₂, .of_steps (StepsIn.trans harr (.one (fenced_calm hbb hr rfl) stepR_inLoop)) harr₂⟩
        | exit id => exact ⟨_, a₁, w₁, ⟨env', H', D', S', L', hs', hq⟩, .pass (x := .inLoop cb) rfl (fun _ _ => .inl (by simp)) harr⟩
        | goto l => exact ⟨_, a₁, w₁, ⟨env', H', D', S', L', hs', hq⟩, .pass (x := .inLoop cb) rfl (fun _ _ => .inl (by simp)) harr⟩
        | ret => exact ⟨_, a₁, w₁, ⟨env', H', D', S', L', hs', hq⟩, .pass (x := .inLoop cb) rfl (fun _ _ => .inl (by simp)) harr⟩
        | panic ch => exact ⟨_, a₁, w₁, ⟨env', H', D', S', L', hs', hq⟩, .pass (x := .inLoop cb) rfl (fun _ _ => .inl (by simp)) harr⟩
        | outgrown => exact ⟨_, a₁, w₁, ⟨env', H', D', S', L', hs', hq⟩, .pass (x := .inLoop cb) rfl (fun _ _ => .inl (by simp)) harr⟩
    obtain ⟨e, a', w', hq, harr⟩ := key _ x0 a w S0 L0 rfl hs0
    exact ⟨e, a', w', hq, .of_steps (.one (fenced_calm hbb hr rfl) stepR_loop) harr⟩
end
end Go.Px

namespace Go.Px
def argEnv (args : List AV) : Env := fun i => (args[i]?).getD .any
def DropD : Heap → List Nat → Heap → Prop
  | H, [], H' => H = H'
  | H, r :: D, H' => ∃ i : Nat, H[i]? = some (r, .dfr) ∧ DropD (H.eraseIdx i) D H'
inductive ResAV (P : Program) (env : Env) (H : Heap) : ResultVar → AV → Prop where
  | tmp {t p} : env t = p → p.isLin = false → ResAV P env H (.tmp t) p
  | cellI {t T : Nat} {n : Option Nat} {cs : List AV} {p : AV} : env t = .pi cs → aggN P T = some n → loadAV n cs = some p → ResAV P env H (.cell t T) p
  | cellO {t T : Nat} {n : Option Nat} {b off i T' : Nat} {cs : List AV} {p : AV} : env t = .po b off → H[i]? = some (b, HObj.cells T' cs) → aggN P T = some n → loadAV n (cs.drop off) = some p → ResAV P env H (.cell t T) p
def resRun (tmps : Array Value) : ResultVar → Sem Value
  | .tmp t => Pure.pure (tmps.getD t undef)
  | .cell a t => do loadVar t (← asAddr (tmps.getD a undef))
section
variable {P : Program}
theorem ResAV.run {env : Env} {H : Heap} {rv : ResultVar} {p : AV} (h : ResAV P env H rv p) {C : Ctx} {D : List Nat} {a : Act} {w : World} {S : Snap} {L : Nat → Option Nat} (hs : Sat C env H D a w S L) :
    ∃ v, (resRun a.tmps rv).run P w = .ok v w ∧ Rep S p v := by
  cases h with
  | tmp ht hp => exact ⟨_, rfl, hs.rep ht hp⟩
  | cellI ht hn hp =>
    have hr := hs.rep ht rfl
    simp only [Rep] at hr
    obtain ⟨b, off, hv, hc⟩ := hr
    obtain ⟨l, rl, _, hi⟩ := hc.cells _ (Nat.le_refl _)
    rw [List.take_length] at rl
    obtain ⟨y, hy, hrep⟩ := run_loadAV (P := P) (w := w) hn hp rl (b := b) (o := off) (fun j c hj => by
      have := hi j (by rw [← rl.length]; exact get_lt hj)
      rw [hj] at this
      exact hs.sin.cell _ _ _ this)
    exact ⟨y, by simp [resRun, hv, asAddr, hy], hrep⟩
  | cellO ht hH hn hp =>
    have hv := hs.rep ht rfl
    simp only [Rep] at hv
    obtain ⟨l, hrow, hr, h1⟩ := (hs.at_ hH).row
    rename_i t T n b off i T' cs
    obtain ⟨y, hy, hrep⟩ := run_loadAV (P := P) (w := w) hn hp (hr.drop off) (b := b) (o := off) (fun j c hj => by
      rw [cell_of_row w b _ _ _ _ hrow]
      simpa using hj)
    exact ⟨y, by simp [resRun, hv, asAddr, hy], hrep⟩
theorem resRun_list {env : Env} {H : Heap} {C : Ctx} {D : List Nat} {a : Act} {w : World} {S : Snap} {L : Nat → Option Nat} (hs : Sat C env H D a w S L) : ∀ {rs : List ResultVar} {ps : List AV}, All2 (ResAV P env H) rs ps →
    ∃ vs : List Value, (rs.mapM (resRun a.tmps)).run P w = .ok vs w ∧ RepL S ps vs
  | [], [], _ => ⟨[], by simp, by simp [RepL]⟩
  | rv :: rs, p :: ps, h => by
    obtain ⟨v, hv, hr⟩ := h.1.run hs
    obtain ⟨vs, hvs, hrs⟩ := resRun_list hs h.2
    exact ⟨v :: vs, by rw [List.mapM_cons]; simp [hv, hvs], by simp only [RepL]; exact ⟨v, vs, rfl, hr, hrs⟩⟩
  | [], _ :: _, h => h.elim
  | _ :: _, [], h => h.elim
theorem results_eq (fn : Func) (tmps : Array Value) (w : World) : (results fn tmps).run P w = ((fn.results.toList.mapM (resRun tmps)).run P w).andThen fun vs w' => .ok (match vs with | [v] => v | vs => .tuple vs.toArray) w' := by
  have e : results fn tmps = (do
      let vs ← fn.results.mapM (resRun tmps)
      Pure.pure (if h : vs.size = 1 then vs[0] else .tuple vs)) := by
    unfold results
    congr 1
  rw [e, Array.mapM_eq_mapM_toList]
  simp only [Sem.run_bind, Sem.run_map]
  cases (fn.results.toList.mapM (resRun tmps)).run P w with
  | ok vs w' =>
    simp only [Result.andThen_ok, Sem.run_pure]
    congr 1
    match vs with
    | [] => rfl
    | [v] => rfl
    | v :: u :: vs => simp
  | halt h w' => rfl
inductive ResOK (P : Program) (env : Env) (H : Heap) : List ResultVar → AV → Prop where
  | one {rv p} : ResAV P env H rv p → ResOK P env H [rv] p
  | lin {t p} : env t = p → p.isLin = true → ResOK P env H [.tmp t] p
  | many {rs ps} : rs.length ≠ 1 → All2 (ResAV P env H) rs ps → ResOK P env H rs (.tup ps)
def retP (P : Program) (rs : List ResultVar) (res : AV) : Post := fun e env H D => (e = .normal ∨ e = .ret) ∧ ∃ H', DropD H D H' ∧ ResOK P env H' rs res
theorem all2_length {α β : Type} {R : α → β → Prop} : ∀ {l : List α} {m : List β}, All2 R l m → l.length = m.length
  | [], [], _ => rfl
  | _ :: l, _ :: m, h => by simp [all2_length h.2]
  | [], _ :: _, h => h.elim
  | _ :: _, [], h => h.elim
theorem ResOK.run {env : Env} {H : Heap} {fn : Func} {res : AV} (h : ResOK P env H fn.results.toList res) {C : Ctx} {D : List Nat} {a : Act} {w : World} {S : Snap} {L : Nat → Option Nat} (hs : Sat C env H D a w S L) :
    ∃ v g, (results fn a.tmps).run P w = .ok v w ∧ RepT C.A S w g res v ∧ ∀ b, g = some b → ∃ t, L t = some b := by
  rw [results_eq]
  generalize fn.results.toList = rs at h
  cases h with
  | one h1 =>
    obtain ⟨v, hv, hr⟩ := h1.run hs
    exact ⟨v, none, by simp [hv], RepT.of_rep hr.not_lin hr, fun _ e => by cases e⟩
  | lin ht hp =>
    rename_i t
    have := hs.env t
    rw [ht] at this
    exact ⟨_, _, by simp [resRun], this, fun b e => ⟨t, e⟩⟩
  | many hl h2 =>
    rename_i ps
    obtain ⟨vs, hvs, hr⟩ := resRun_list hs h2
    have hlen : vs.length ≠ 1 := by rw [hr.length, ← all2_length h2]; exact hl
    refine ⟨.tuple vs.toArray, none, ?_, RepT.of_rep rfl (by simp only [Rep]; exact ⟨vs, rfl, hr⟩), fun _ e => by cases e⟩
    rw [hvs]
    simp only [Result.andThen_ok]
    match vs, hlen with
    | [], _ => rfl
    | _ :: _ :: _, _ => rfl
theorem leaves_of {fn : Func} {env : Env} {res : AV} {R : Ending → World → Prop} {C : Ctx} {S : Snap} {L : Nat → Option Nat} : ∀ (D : List Nat) {H H' : Heap} {a : Act} {w : World}, DropD H D H' → ResOK P env H' fn.results.toList res →
    Sat C env H D a w S L → (∀ v g a' w', Sat C env H' [] a' w' S L → RepT C.A S w' g res v → (∀ b, g = some b → ∃ t, L t = some b) → R (.returned v) w') → LeavesInM Fence.wide 0 P fn a.tmps R a.defers .returning w
  | [], H, H', a, w, hD, hr, hs, k => by
    cases hD
    rw [hs.dfs]
    obtain ⟨v, g, hv, hrep, hg⟩ := hr.run hs
    exact ⟨v, hv, k v g _ w hs hrep hg⟩
  | r :: D, H, H', a, w, hD, hr, hs, k => by
    obtain ⟨i, hi, hD'⟩ := hD
    rw [hs.dfs]
    have hown := hs.at_ hi
    obtain ⟨o, ho, hx⟩ := hown.holds
    simp only [Holds] at hx
    subst hx
    have hrlt : r < w.heap.size := (Array.getElem?_eq_some_iff.1 ho).1
    have hs1 := hs.replace hi (y := .raw (.deferred none)) (w' := { w with heap := w.heap.setIfInBounds r (.deferred none) }) (o := .deferred none)
      (by simp [hrlt]) rfl (by simp) (fun g hg => by
        show (w.heap.setIfInBounds r (.deferred none))[g]? = w.heap[g]?
        rw [Array.getElem?_setIfInBounds, if_neg (fun e => hg e.symm)]) rfl rfl rfl
    have hs2 := hs1.drop i
    rw [List.eraseIdx_set_eq] at hs2
    have hs3 : Sat C env (H.eraseIdx i) D { a with defers := D.map markOf } { w with heap := w.heap.setIfInBounds r (.deferred none) } S L := { hs2 with dfs := rfl, size := hs2.size }
    refine ⟨by simp, .inl ⟨r, { w with heap := w.heap.setIfInBounds r (.deferred none) }, rfl, ?_, ?_⟩⟩
    · exact run_takeDeferred ho
    · exact leaves_of D hD' hr hs3 k
structure FnOK (P : Program) (f : FuncId) (N : Nat) (rs : List ResultVar) (lc : LCode) : Prop where
  fn : ∃ fn : Func, P.funcs[f]? = some fn ∧ (fn.name == "runtime.NumGoroutine") = false ∧ fn.ntmps = N ∧ fn.results.toList = rs ∧ fn.body.bind (lowerCode P N) = some lc
theorem Ev.intro {f : FuncId} {N : Nat} {rs : List ResultVar} {lc : LCode} {args : List AV} {res : AV} (ok : FnOK P f N rs lc) (h : LWp P none N lc (retP P rs res) (argEnv args) [] []) : Ev P f args res := by
  obtain ⟨fn, hf, hn, hN, hrs, hlc⟩ := ok.fn
  obtain ⟨c, hb, hlc⟩ := Option.bind_eq_some_iff.1 hlc
  refine ⟨⟨fn, hf, hn, by rw [hb]; rfl⟩, ?_⟩
  intro S w vs hin hargs
  rw [← callsIn_wide (n := 0)]
  refine callsIn_of_wp_marks hf hb trivial ?_
  let C : Ctx := { A := fun b => w.heap.size ≤ b, w0 := w, S0 := S, F := [], N := N, hA := fun _ h => h }
  have hs : Sat C (argEnv args) [] [] { tmps := vs.toArray ++ Array.replicate (fn.ntmps - vs.toArray.size) undef, defers := [] } w S (fun _ => none) := by
    refine
      { size := ?_, dfs := rfl, le := Snap.Le.refl S, sin := hin, snew := fun _ h => .inl h, below := BelowA.refl _ _, env := ?_, heap := by simp, frame := by simp [C], nodup := by simp [C], lin := by simp, linj := by simp }
    · show N ≤ _
      simp only [Array.size_append, List.size_toArray, Array.size_replicate]; omega
    · intro t
      have hget : (argEnv args t) = .any ∨ ∃ p, args[t]? = some p ∧ argEnv args t = p := by
        unfold argEnv
        cases h : args[t]? with
        | none => exact .inl rfl
        | some p => exact .inr ⟨p, rfl, rfl⟩
      rcases hget with he | ⟨p, hp, he⟩
      · rw [he]; exact RepT.of_rep rfl (by simp [Rep])
      · obtain ⟨c, hc, hr⟩ := hargs.get hp
        have hlt := get_lt hc
        have hv : (vs.toArray ++ Array.replicate (fn.ntmps - vs.toArray.size) undef).getD t undef = c := by
          rw [Array.getD_eq_getD_getElem?, Array.getElem?_append_left (by simpa using hlt)]
          simp [hc]
        rw [he, hv]
        exact RepT.of_rep hr.not_lin hr
  refine wpIn_mono (h c (lowerCode_lc hlc) C _ w S _ rfl hs) ?_
  rintro e a' w' ⟨env', H', D', S', L', hs', he, H'', hD, hres⟩
  have fin : LeavesInM Fence.wide 0 P fn a'.tmps (fun e w' => ∃ v S' g, e = .returned v ∧ S.Le S' ∧ S'.In w' ∧ (∀ b, S'.has b → S.has b ∨ w.heap.size ≤ b) ∧ RowKit.Below w.heap.size w w' ∧ RepT (fun b => w.heap.size ≤ b) S' w' g res v) a'.defers .returning w' := by
    rw [← hrs] at hres
    exact leaves_of D' hD hres hs' (fun v g a'' w'' hs'' hrep _ => have hbel := hs''.below; ⟨v, S', g, rfl, hs''.le, hs''.sin, hs''.snew, ⟨hbel.os, hbel.tape, hbel.output, hbel.size, fun k hk => hbel.block k hk (by show ¬ w.heap.size ≤ k; omega)⟩, hrep⟩)
  rcases he with rfl | rfl
  · exact fin
  · exact fin
end
end Go.Px

namespace Go.Px
abbrev I (n : Int) : AV := .v (.int .i64 n)
abbrev B (b : Bool) : AV := .v (.bool b)
abbrev U (n : Int) : AV := .v (.int .u8 n)
def el : List (Nat × AV) → Env
  | [], _ => .any
  | (t, p) :: l, i => bif Nat.beq i t then p else el l i
def ElOK (env : Env) : List (Nat × AV) → Prop
  | [] => True
  | (t, p) :: l => env t = p ∧ ElOK env l
theorem el_or {env : Env} : ∀ {l : List (Nat × AV)}, ElOK env l → ∀ t, el l t = .any ∨ el l t = env t
  | [], _, t => .inl rfl
  | (u, p) :: l, h, t => by
    simp only [el]
    cases hb : Nat.beq t u with
    | true =>
      have := Nat.eq_of_beq_eq_true hb
      subst this
      exact .inr h.1.symm
    | false => exact el_or h.2 t
section
variable {P : Program} {r : Option Nat} {N : Nat} {Q : Post} {env : Env} {H : Heap} {D : List Nat}
theorem Ent.weak {env' : Env} (h : ∀ t, env' t = .any ∨ env' t = env t) : Ent env H D env' H D := by
  intro C a w S L hs
  refine ⟨S, fun t => if (env' t).isLin then L t else none, Snap.Le.refl S, { hs with env := ?_, lin := ?_, linj := ?_ }⟩
  · intro t
    rcases h t with e | e
    · rw [e]; exact RepT.of_rep rfl (by simp [Rep])
    · have hr := hs.env t
      rw [← e] at hr
      cases hl : (env' t).isLin with
      | true => simpa [hl] using hr
      | false => exact RepT.of_rep hl (hr.rep hl).2
  · intro t b e
    try dsimp only at e
    split at e
    · exact hs.lin t b e
    · cases e
  · intro t u b e1 e2
    try dsimp only at e1 e2
    split at e1
    · split at e2
      · exact hs.linj t u b e1 e2
      · cases e2
    · cases e1
theorem Ent.el {l : List (Nat × AV)} (h : ElOK env l) : Ent env H D (Px.el l) H D := Ent.weak (el_or h)
theorem LWp.pure {ls : List LOper} {env' : Env} (h : prun ls env = (env', [])) (k : Q .normal env' H D) : LWp P r N (.ops ls) Q env H D :=
  LWp.ops (WOps.run h (WOps.nil k))
theorem WOps.step {ls ls' : List LOper} {env' : Env} {dst : Option Nat} {l : LOp} (h : prun ls env = (env', ⟨dst, none, l⟩ :: ls')) (k : Op1 P r N l dst env' H D (fun e h d => WOps P r N ls' Q e h d)) : WOps P r N ls Q env H D :=
  WOps.run h (WOps.cons k)
theorem WOps.done {ls : List LOper} {env' : Env} (h : prun ls env = (env', [])) (k : Q .normal env' H D) : WOps P r N ls Q env H D := WOps.run h (WOps.nil k)
theorem LWp.seqBlock {id : Nat} {x y : LCode} (h : LWp P r N x (blockP id (thenP (fun e h d => LWp P r N y Q e h d) Q)) env H D) : LWp P r N (.seq (.block id x) y) Q env H D := LWp.seq (LWp.block h)
theorem retT {rs : List ResultVar} {res : AV} {e : Exit} (he : e = .normal ∨ e = .ret) (h : ResOK P env H rs res) : retP P rs res e env H [] := ⟨he, H, rfl, h⟩
end
end Go.Px

namespace Go.Px
def updL : Env → List (Nat × AV) → Env
  | env, [] => env
  | env, (d, p) :: W => updL (upd env d p) W
theorem updL_out {W : List (Nat × AV)} : ∀ {env : Env} {t : Nat}, t ∉ W.map (·.1) → updL env W t = env t := by
  induction W with
  | nil => intro env t _; rfl
  | cons q W ih =>
    intro env t h
    simp only [List.map_cons, List.mem_cons, not_or] at h
    simp only [updL]
    rw [ih h.2, upd_other _ _ h.1]
theorem updL_in {W : List (Nat × AV)} : ∀ {env env' : Env} {t : Nat}, t ∈ W.map (·.1) → updL env W t = updL env' W t := by
  induction W with
  | nil => intro env env' t h; cases h
  | cons q W ih =>
    intro env env' t h
    simp only [updL]
    by_cases hw : t ∈ W.map (·.1)
    · exact ih hw
    · rw [updL_out hw, updL_out hw]
      simp only [List.map_cons, List.mem_cons] at h
      rcases h with rfl | h
      · rw [upd_same, upd_same]
      · exact absurd h hw
theorem updL_congr {W : List (Nat × AV)} {env env' : Env} {t : Nat} (h : env t = env' t) : updL env W t = updL env' W t := by
  by_cases hw : t ∈ W.map (·.1)
  · exact updL_in hw
  · rw [updL_out hw, updL_out hw, h]
def Pre (S : Snap) (p : AV) (y : Value) (b : Nat) (x : HObj) : Prop := match p with
  | .lin T k es => ∃ cap, y = .slice (some ⟨b, 0, none⟩) es.length cap ∧ x = .arr T k cap es
  | .lbox T cs => y = .pointer (some ⟨b, 0, none⟩) ∧ x = .cells T cs
  | .linV T k es ad cap' => y = .slice ad es.length cap' ∧ ∃ cap, y = .slice (some ⟨b, 0, none⟩) es.length cap ∧ x = .arr T k cap es
  | .lmap cs es => (∃ bb off, y = .pointer (some ⟨bb, off, none⟩) ∧ RepC S (cs ++ [.mo b]) bb off) ∧ x = .map es
  | _ => False
theorem RepT.pre {B : Nat → Prop} {S : Snap} {w : World} {b : Nat} {p : AV} {y : Value} (h : RepT B S w (some b) p y) : ∃ x, Pre S p y b x ∧ Own B S w b x := by
  cases p <;> simp only [RepT] at h
  case lin T k es =>
    rcases h with ⟨_, _, h⟩ | ⟨g, cap, hb, hy, ho⟩
    · cases h
    · cases hb; exact ⟨_, ⟨cap, hy, rfl⟩, ho⟩
  case lbox T cs => obtain ⟨g, hb, hy, ho⟩ := h; cases hb; exact ⟨_, ⟨hy, rfl⟩, ho⟩
  case linV T k es ad cap' =>
    obtain ⟨h1, h⟩ := h
    rcases h with ⟨_, _, h⟩ | ⟨g, cap, hb, hy, ho⟩
    · cases h
    · cases hb; exact ⟨_, ⟨h1, cap, hy, rfl⟩, ho⟩
  case lmap cs es => obtain ⟨g, bb, off, hb, hy, hc, ho⟩ := h; cases hb; exact ⟨_, ⟨⟨bb, off, hy, hc⟩, rfl⟩, ho⟩
  all_goals (obtain ⟨h, _⟩ := h; cases h)
theorem Pre.mono {S S' : Snap} (hle : S.Le S') {p : AV} {y : Value} {b : Nat} {x : HObj} (h : Pre S p y b x) : Pre S' p y b x := by
  cases p <;> simp only [Pre] at h ⊢
  case lmap cs es => obtain ⟨⟨bb, off, hy, hc⟩, rfl⟩ := h; exact ⟨⟨bb, off, hy, RepC.mono hle _ _ _ hc⟩, rfl⟩
  all_goals exact h
theorem Pre.repT {B : Nat → Prop} {S : Snap} {w : World} {b : Nat} {p : AV} {y : Value} {x : HObj} (h : Pre S p y b x) (ho : Own B S w b x) : RepT B S w (some b) p y := by
  cases p <;> simp only [Pre] at h
  case lin T k es => obtain ⟨cap, hy, rfl⟩ := h; simp only [RepT]; exact .inr ⟨b, cap, rfl, hy, ho⟩
  case lbox T cs => obtain ⟨hy, rfl⟩ := h; simp only [RepT]; exact ⟨b, rfl, hy, ho⟩
  case linV T k es ad cap' => obtain ⟨h1, cap, hy, rfl⟩ := h; simp only [RepT]; exact ⟨h1, .inr ⟨b, cap, rfl, hy, ho⟩⟩
  case lmap cs es => obtain ⟨⟨bb, off, hy, hc⟩, rfl⟩ := h; simp only [RepT]; exact ⟨b, bb, off, rfl, hy, hc, ho⟩
theorem RepT.none_mono {B : Nat → Prop} {S S' : Snap} {w w' : World} {p : AV} {y : Value} (h : RepT B S w none p y) (hle : S.Le S') : RepT B S' w' none p y := by
  cases hp : p.isLin with
  | false => exact RepT.of_rep hp (Rep.mono hle _ _ (h.rep hp).2)
  | true =>
    cases p <;> simp only [AV.isLin, Bool.false_eq_true] at hp
    case lin T k es =>
      simp only [RepT] at h ⊢
      rcases h with h | ⟨g, cap, hb, _⟩
      · exact .inl h
      · cases hb
    case lbox T cs => simp only [RepT] at h; obtain ⟨g, hb, _⟩ := h; cases hb
    case lmap cs es => simp only [RepT] at h; obtain ⟨g, bb, off, hb, _⟩ := h; cases hb
    case linV T k es ad cap' =>
      simp only [RepT] at h ⊢
      obtain ⟨h1, h⟩ := h
      refine ⟨h1, ?_⟩
      rcases h with h | ⟨g, cap, hb, _⟩
      · exact .inl h
      · cases hb
section
variable {P : Program} {r : Option Nat} {N : Nat} {env env0 : Env} {H : Heap} {D : List Nat}
theorem lins_list {C : Ctx} {a : Act} {w : World} {S : Snap} {L : Nat → Option Nat} (hs : Sat C env H D a w S L) (R : Nat → Prop) : ∀ n : Nat, ∃ F' : Heap,
    (∀ e ∈ F', Own C.A S w e.1 e.2) ∧ (∀ t, t < n → ∀ b, L t = some b → R t → ∃ x, (b, x) ∈ F' ∧ Pre S (env t) (a.tmps.getD t undef) b x) ∧ (∀ e ∈ F', ∃ t, t < n ∧ L t = some e.1 ∧ R t) ∧ (F'.map (·.1)).Nodup := by
  intro n
  induction n with
  | zero => exact ⟨[], by simp, by intro t ht; omega, by simp, by simp⟩
  | succ n ih =>
    obtain ⟨F', h1, h2, h3, h4⟩ := ih
    by_cases hn : ∃ b, L n = some b ∧ R n
    · obtain ⟨b, hb, hR⟩ := hn
      have hr := hs.env n
      rw [hb] at hr
      obtain ⟨x, hx, ho⟩ := hr.pre
      refine ⟨(b, x) :: F', ?_, ?_, ?_, ?_⟩
      · intro e he
        rcases List.mem_cons.1 he with rfl | he
        · exact ho
        · exact h1 e he
      · intro t ht b' hb' hR'
        by_cases e : t = n
        · subst e
          rw [hb] at hb'; cases hb'
          exact ⟨x, by simp, hx⟩
        · obtain ⟨x', hx1, hx2⟩ := h2 t (by omega) b' hb' hR'
          exact ⟨x', by simp [hx1], hx2⟩
      · intro e he
        rcases List.mem_cons.1 he with rfl | he
        · exact ⟨n, by omega, hb, hR⟩
        · obtain ⟨t, ht, e1, e2⟩ := h3 e he; exact ⟨t, by omega, e1, e2⟩
      · simp only [List.map_cons, List.nodup_cons]
        refine ⟨fun hm => ?_, h4⟩
        obtain ⟨e, he, heb⟩ := List.mem_map.1 hm
        obtain ⟨t, ht, e1, _⟩ := h3 e he
        rw [heb] at e1
        have := hs.linj t n b e1 hb
        omega
    · refine ⟨F', h1, ?_, ?_, h4⟩
      · intro t ht b' hb' hR'
        by_cases e : t = n
        · subst e; exact absurd ⟨b', hb', hR'⟩ hn
        · exact h2 t (by omega) b' hb' hR'
      · intro e he; obtain ⟨t, ht, e1, e2⟩ := h3 e he; exact ⟨t, by omega, e1, e2⟩
theorem Sat.L_size {C : Ctx} {a : Act} {w : World} {S : Snap} {L : Nat → Option Nat} (hs : Sat C env H D a w S L) {t b : Nat} (h : L t = some b) : t < a.tmps.size := by
  apply Decidable.byContradiction
  intro hge
  have hr := hs.env t
  rw [h] at hr
  obtain ⟨x, hx, _⟩ := hr.pre
  have hu : a.tmps.getD t undef = undef := by simp [Array.getD, hge]
  rw [hu] at hx
  cases hp : env t <;> rw [hp] at hx <;> simp only [Pre] at hx
  case lin => obtain ⟨cap, hy, _⟩ := hx; cases hy
  case lbox => obtain ⟨hy, _⟩ := hx; cases hy
  case linV => obtain ⟨hy, _⟩ := hx; cases hy
  case lmap => obtain ⟨⟨_, _, hy, _⟩, _⟩ := hx; cases hy
def Q1g (P : Program) (r : Option Nat) (N : Nat) (l : LOp) (dst : Option Nat) (env : Env) (H H1 : Heap) (D : List Nat) (W : List (Nat × AV)) : Prop :=
  Op1 P r N l dst env H D (fun e h d => e = updL env W ∧ h = H1 ∧ d = D)
abbrev Q1 (P : Program) (r : Option Nat) (N : Nat) (l : LOp) (dst : Option Nat) (env : Env) (H : Heap) (D : List Nat) (W : List (Nat × AV)) : Prop := Q1g P r N l dst env H H D W
open Classical in
theorem Q1g.frame {H1 : Heap} (hkeys : H1.map (·.1) = H.map (·.1)) {l : LOp} {dst : Option Nat} {W : List (Nat × AV)} (hsub : ∀ t, env0 t = .any ∨ env0 t = env t) (h : Q1g P r N l dst env0 H H1 D W) (hdst : ∀ d, dst = some d → d ∈ W.map (·.1)) : Q1g P r N l dst env H H1 D W := by
  intro o ho hd hlo C a w S L hN hs next Q hnext
  obtain ⟨F', f1, f2, f3, f4⟩ := lins_list hs (fun t => env0 t = .any) a.tmps.size
  have hs0 : Sat { C with F := C.F ++ F' } env0 H D a w S (fun t => if (env0 t).isLin then L t else none) := by
    refine { hs with env := ?_, frame := ?_, nodup := ?_, lin := ?_, linj := ?_ }
    · intro t
      rcases hsub t with e | e
      · rw [e]; exact RepT.of_rep rfl (by simp [Rep])
      · have hr := hs.env t
        rw [← e] at hr
        cases hl : (env0 t).isLin with
        | true => simpa [hl] using hr
        | false => exact RepT.of_rep hl (hr.rep hl).2
    · intro e he
      rcases List.mem_append.1 he with he | he
      · exact hs.frame e he
      · exact f1 e he
    · show ((H ++ (C.F ++ F')).map (·.1)).Nodup
      rw [← List.append_assoc, List.map_append, List.nodup_append]
      refine ⟨hs.nodup, f4, ?_⟩
      intro b hb b' hb' e
      subst e
      obtain ⟨e, he, rfl⟩ := List.mem_map.1 hb'
      obtain ⟨t, _, e1, _⟩ := f3 e he
      exact hs.lin t _ e1 hb
    · intro t b e hm
      have e' : (env0 t).isLin = true ∧ L t = some b := by
        split at e
        · rename_i hl; exact ⟨hl, e⟩
        · cases e
      have hm' : b ∈ (H ++ (C.F ++ F')).map (·.1) := hm
      rw [← List.append_assoc, List.map_append, List.mem_append] at hm'
      rcases hm' with hm' | hm'
      · exact hs.lin t b e'.2 hm'
      · obtain ⟨en, he, hb⟩ := List.mem_map.1 hm'
        obtain ⟨u, _, e1, e2⟩ := f3 en he
        rw [hb] at e1
        have := hs.linj t u b e'.2 e1
        subst this
        rw [e2] at e'
        simp [AV.isLin] at e'
    · intro t u b e1 e2
      split at e1
      · split at e2
        · exact hs.linj t u b e1 e2
        · cases e2
      · cases e1
  refine h o ho hd hlo { C with F := C.F ++ F' } a w S _ hN hs0 next Q ?_
  rintro env' H' D' y w' S' L' ⟨rfl, rfl, rfl⟩ hs' hle
  refine hnext (updL env W) H' D' y w' S' (fun t => if t ∈ W.map (·.1) ∨ env0 t ≠ .any then L' t else L t) ⟨rfl, rfl, rfl⟩ ?_ hle
  have hput : ∀ t, t ∉ W.map (·.1) → (a.put dst y).tmps.getD t undef = a.tmps.getD t undef := by
    intro t ht
    cases dst with
    | none => rfl
    | some d => exact getD_set_other (fun e => ht (e ▸ hdst d rfl))
  have hin : ∀ t, env0 t = .any → ∀ b, L t = some b → ∃ x, (b, x) ∈ F' ∧ Pre S (env t) (a.tmps.getD t undef) b x := fun t e b hb => f2 t (hs.L_size hb) b hb e
  refine { hs' with env := ?_, frame := ?_, nodup := ?_, lin := ?_, linj := ?_ }
  · intro t
    by_cases hw : t ∈ W.map (·.1)
    · simp only [hw, true_or, if_true]
      rw [updL_in (env' := env0) hw]
      exact hs'.env t
    · rw [updL_out hw]
      rcases hsub t with e | e
      · simp only [hw, e, ne_eq, not_true_eq_false, or_self, if_false]
        rw [hput t hw]
        cases hL : L t with
        | none => exact (hL ▸ hs.env t).none_mono hle
        | some b =>
          obtain ⟨x, hx1, hx2⟩ := hin t e b hL
          exact (hx2.mono hle).repT (hs'.frame (b, x) (List.mem_append.2 (.inr hx1)))
      · by_cases ha : env0 t = .any
        · have ha' : env t = .any := by rw [← e, ha]
          simp only [hw, ha, ne_eq, not_true_eq_false, or_self, if_false]
          rw [hput t hw]
          cases hL : L t with
          | none => exact (hL ▸ hs.env t).none_mono hle
          | some b =>
            obtain ⟨x, hx1, hx2⟩ := hin t ha b hL
            exact (hx2.mono hle).repT (hs'.frame (b, x) (List.mem_append.2 (.inr hx1)))
        · simp only [hw, ha, ne_eq, not_false_eq_true, or_true, if_true]
          rw [← e]
          have := hs'.env t
          rw [updL_out hw] at this
          exact this
  · intro e he
    exact hs'.frame e (List.mem_append.2 (.inl he))
  · have := hs'.nodup
    have e : H' ++ (C.F ++ F') = H' ++ C.F ++ F' := by rw [List.append_assoc]
    have hn : ((H' ++ (C.F ++ F')).map (·.1)).Nodup := this
    rw [e, List.map_append] at hn
    exact (List.nodup_append.1 hn).1
  · intro t b e hm
    split at e
    · refine hs'.lin t b e ?_
      show b ∈ (H' ++ (C.F ++ F')).map (·.1)
      rw [← List.append_assoc, List.map_append, List.mem_append]
      exact .inl hm
    · refine hs.lin t b e ?_
      rw [List.map_append, ← hkeys, ← List.map_append]; exact hm
  · intro t u b e1 e2
    have mixed : ∀ t u, (t ∈ W.map (·.1) ∨ env0 t ≠ .any) → ¬ (u ∈ W.map (·.1) ∨ env0 u ≠ .any) → L' t = some b → L u = some b → False := by
      intro t u _ hu e1 e2
      simp only [not_or, Decidable.not_not] at hu
      obtain ⟨x, hx1, _⟩ := hin u hu.2 b e2
      refine hs'.lin t b e1 ?_
      show b ∈ (H' ++ (C.F ++ F')).map (·.1)
      simp only [List.map_append, List.mem_append, List.mem_map]
      exact .inr (.inr ⟨(b, x), hx1, rfl⟩)
    split at e1
    · rename_i ht
      split at e2
      · exact hs'.linj t u b e1 e2
      · rename_i hu; exact (mixed t u ht hu e1 e2).elim
    · rename_i ht
      split at e2
      · rename_i hu; exact (mixed u t hu ht e2 e1).elim
      · exact hs.linj t u b e1 e2
theorem Q1.frame {l : LOp} {dst : Option Nat} {W : List (Nat × AV)} (hsub : ∀ t, env0 t = .any ∨ env0 t = env t) (h : Q1 P r N l dst env0 H D W) (hdst : ∀ d, dst = some d → d ∈ W.map (·.1)) : Q1 P r N l dst env H D W := Q1g.frame rfl hsub h hdst
end
end Go.Px

