/- Part 3 of the proofs of the statements of this seat (a logic of pure contracts, the functions lowered, their contracts). No conditions. -/
import Derived.Test.YtcioapljmakidaaGreatD2
import Derived.DeepKeys3
import Derived.MapFrom
import Derived.Maps.RangeRun
import Derived.Laws.CopyOwn
import Derived.Laws.IdiomStrings
import Derived.MapKept
namespace Go.Px
section
variable {P : Program} {r : Option Nat} {N : Nat} {env : Env} {H : Heap} {D : List Nat} {dst : Option Nat} {K : Env → Heap → List Nat → Prop} {Q : Post}
theorem Op1.rangeS {T d : Nat} {x : Operand} {s : ByteArray} (hx : evO env x = .v (.string s)) (k : ∀ b, K (upd env d (.po b 0)) ((b, .raw (.stringIter s 0)) :: H) D) : Op1 P r N (.range T x true) (some d) env H D K := by
  intro o hdst hd hlo C a w S L hN hs next Q hnext
  have hs1 := hs.alloc (x := .raw (.stringIter s 0)) (o := .stringIter s 0) rfl
  have hs2 := hs1.put (d := d) (Nat.lt_of_lt_of_le (hN ▸ hd d rfl) hs.size) (p := .po w.heap.size 0) (y := .pointer (some ⟨w.heap.size, 0, none⟩)) rfl (by simp [Rep])
  cases hlo with
  | rangeS hop hT =>
    refine Oper.wpIn_value (.rangeS hop hT) (by simp) (y := .pointer (some ⟨w.heap.size, 0, none⟩)) (w' := w.alloc (.stringIter s 0)) ?_ (by rw [hdst]; exact hnext _ _ _ _ _ _ _ (k _) hs2 (Snap.Le.refl _))
    simp [execOp, hop, Instr.range, underlying, hT, hs.int hx, newObj, Sem.run]
theorem Op1.nextS {ty : TypeId} {x : Operand} {s : ByteArray} {b i pos : Nat} (hx : evO env x = .po b 0) (hH : H[i]? = some (b, .raw (.stringIter s pos)))
    (h1 : pos < s.size → K (updO env dst (.tup [B true, I pos, .v (.int .i32 (Utf8.decode s pos).1)])) (H.set i (b, .raw (.stringIter s (pos + (Utf8.decode s pos).2)))) D)
    (h2 : ¬ pos < s.size → K (updO env dst (.tup [B false])) H D) : Op1 P r N (.next x true ty) dst env H D K := by
  intro o hdst hd hlo C a w S L hN hs next Q hnext
  obtain ⟨ob, hrow, hx'⟩ := (hs.at_ hH).holds
  simp only [Holds] at hx'
  subst hx'
  have hv := hs.repO x hx rfl
  simp only [Rep] at hv
  have hlt : b < w.heap.size := (Array.getElem?_eq_some_iff.1 hrow).1
  generalize hst : true = st at hlo
  cases hlo with
  | next hop =>
    subst hst
    by_cases hp : pos < s.size
    · have hs1 := hs.replace hH (y := .raw (.stringIter s (pos + (Utf8.decode s pos).2))) (w' := { w with heap := w.heap.setIfInBounds b (.stringIter s (pos + (Utf8.decode s pos).2)) }) (o := .stringIter s (pos + (Utf8.decode s pos).2))
        (by simp [hlt]) rfl (by simp) (fun g hg => by
          show (w.heap.setIfInBounds b _)[g]? = w.heap[g]?
          rw [Array.getElem?_setIfInBounds, if_neg (fun e => hg e.symm)]) rfl rfl rfl
      obtain ⟨L', hs'⟩ := hs1.putO (dst := dst) (fun d e => hN ▸ hd d e) (p := .tup [B true, I pos, .v (.int .i32 (Utf8.decode s pos).1)]) (y := .tuple #[.bool true, .int .i64 pos, .int .i32 (Utf8.decode s pos).1]) rfl
        (by simp only [Rep]; exact ⟨[.bool true, .int .i64 pos, .int .i32 (Utf8.decode s pos).1], rfl, by simp [RepL, Rep]⟩)
      refine Oper.wpIn_value (.next hop) (by simp) (y := .tuple #[.bool true, .int .i64 pos, .int .i32 (Utf8.decode s pos).1]) (w' := { w with heap := w.heap.setIfInBounds b (.stringIter s (pos + (Utf8.decode s pos).2)) }) ?_
        (by rw [hdst]; exact hnext _ _ _ _ _ _ _ (h1 hp) hs' (Snap.Le.refl _))
      simp [execOp, hop, Instr.next, hv, getObj, setObj, Sem.run, hrow, hp, goInt]
    · obtain ⟨L', hs'⟩ := hs.putO (dst := dst) (fun d e => hN ▸ hd d e) (p := .tup [B false]) (y := .tuple #[.bool false]) rfl (by simp only [Rep]; exact ⟨[.bool false], rfl, by simp [RepL, Rep]⟩)
      refine Oper.wpIn_value (.next hop) (by simp) (y := .tuple #[.bool false]) (w' := w) ?_ (by rw [hdst]; exact hnext _ _ _ _ _ _ _ (h2 hp) hs' (Snap.Le.refl _))
      simp [execOp, hop, Instr.next, hv, getObj, Sem.run, hrow, hp]
end
end Go.Px

namespace Go.Px
def AH (w : World) (Hin : Heap) : Nat → Prop := fun b => w.heap.size ≤ b ∨ b ∈ Hin.map (·.1)
def EffR (S : Snap) (w : World) (Hin : Heap) (R : AV → Heap → Prop) : Ending → World → Prop := fun e w' => ∃ v S' g res Hout, e = .returned v ∧ R res Hout ∧ S.Le S' ∧ S'.In w' ∧ (∀ b, S'.has b → S.has b ∨ AH w Hin b) ∧
  BelowA (AH w Hin) w w' ∧ RepT (AH w Hin) S' w' g res v ∧ (∀ e ∈ Hout, Own (AH w Hin) S' w' e.1 e.2) ∧ (Hout.map (·.1)).Nodup ∧ ∀ b, g = some b → b ∉ Hout.map (·.1)
def EvR (P : Program) (f : FuncId) (args : List AV) (Hin : Heap) (R : AV → Heap → Prop) : Prop :=
  CallOK P f ∧ ∀ (S : Snap) (w : World) (vs : List Value), S.In w → RepL S args vs → (∀ e ∈ Hin, Own (fun _ => True) S w e.1 e.2) → (Hin.map (·.1)).Nodup →
    Calls P f vs.toArray w (EffR S w Hin R)
def EvY (P : Program) (l : Nat) (args : List AV) (Hin : Heap) (R : AV → Heap → Prop) : Prop :=
  ∀ (S : Snap) (w : World) (vs : List Value), S.In w → RepL S args vs → (∀ e ∈ Hin, Own (fun _ => True) S w e.1 e.2) → (Hin.map (·.1)).Nodup →
    ∃ lp : Loop, w.heap[l]? = some (.loop lp) ∧ vs.length = lp.params.size ∧
      RoundIn Fence.wide 0 P l lp.fn ((lp.params.zip vs.toArray).foldl (fun tmps (t, a) => tmps.setIfInBounds t a) lp.tmps) lp.assign lp.body w (EffR S w Hin R)
def EvF (P : Program) (fn : Fn) (caps args : List AV) (Hin : Heap) (R : AV → Heap → Prop) : Prop := match fn with
  | .func f => EvR P f args Hin R
  | .yield l => caps = [] ∧ EvY P l args Hin R
  | _ => False
theorem RepT.base_any {B B' : Nat → Prop} {S : Snap} {w : World} {g : Option Nat} {p : AV} {y : Value} (h : RepT B S w g p y) (hB : ∀ b, g = some b → B b → B' b) : RepT B' S w g p y := by
  cases p
  case lin T k es =>
    simp only [RepT] at h ⊢
    rcases h with h | ⟨b, cap, hb, hy, ho⟩
    · exact .inl h
    · exact .inr ⟨b, cap, hb, hy, hB _ hb ho.base, ho.apart, ho.holds⟩
  case lbox T cs =>
    simp only [RepT] at h ⊢
    obtain ⟨b, hb, hy, ho⟩ := h
    exact ⟨b, hb, hy, hB _ hb ho.base, ho.apart, ho.holds⟩
  case linV T k es ad cap' =>
    simp only [RepT] at h ⊢
    obtain ⟨h1, h⟩ := h
    refine ⟨h1, ?_⟩
    rcases h with h | ⟨b, cap, hb, hy, ho⟩
    · exact .inl h
    · exact .inr ⟨b, cap, hb, hy, hB _ hb ho.base, ho.apart, ho.holds⟩
  case lmap cs es =>
    simp only [RepT] at h ⊢
    obtain ⟨g, bb, off, hb, hy, hc, ho⟩ := h
    exact ⟨g, bb, off, hb, hy, hc, hB _ hb ho.base, ho.apart, ho.holds⟩
  all_goals exact h
theorem Own.base_any {B B' : Nat → Prop} {S : Snap} {w : World} {b : Nat} {x : HObj} (h : Own B S w b x) (hB : B b → B' b) : Own B' S w b x := ⟨hB h.base, h.apart, h.holds⟩
section
variable {P : Program} {r : Option Nat} {N : Nat} {env : Env} {H : Heap} {D : List Nat} {dst : Option Nat} {K : Env → Heap → List Nat → Prop} {Q : Post}
variable {C : Ctx} {a : Act} {w : World} {S : Snap} {L : Nat → Option Nat}
theorem Sat.subH (hs : Sat C env H D a w S L) {H' : Heap} (h1 : ∀ e ∈ H', e ∈ H) (h2 : (H'.map (·.1)).Nodup) : Sat C env H' D a w S L := by
  have hm : ∀ b, b ∈ (H' ++ C.F).map (·.1) → b ∈ (H ++ C.F).map (·.1) := by
    intro b hb
    simp only [List.map_append, List.mem_append, List.mem_map] at hb ⊢
    rcases hb with ⟨e, he, rfl⟩ | hb
    · exact .inl ⟨e, h1 e he, rfl⟩
    · exact .inr hb
  refine { hs with heap := fun e he => hs.heap e (h1 e he), nodup := ?_, lin := fun t b e hb => hs.lin t b e (hm b hb) }
  have hnd := hs.nodup
  rw [List.map_append, List.nodup_append] at hnd ⊢
  refine ⟨h2, hnd.2.1, ?_⟩
  intro b hb b' hb' e
  obtain ⟨x, hx, rfl⟩ := List.mem_map.1 hb
  exact hnd.2.2 x.1 (List.mem_map.2 ⟨x, h1 x hx, rfl⟩) b' hb' e
theorem Sat.addH (hs : Sat C env H D a w S L) {G : Heap} (h1 : ∀ e ∈ G, Own C.A S w e.1 e.2) (h2 : (G.map (·.1)).Nodup) (h3 : ∀ b, b ∈ G.map (·.1) → b ∉ (H ++ C.F).map (·.1)) (h4 : ∀ t b, L t = some b → b ∉ G.map (·.1)) :
    Sat C env (G ++ H) D a w S L := by
  refine { hs with heap := ?_, nodup := ?_, lin := ?_ }
  · intro e he
    rcases List.mem_append.1 he with he | he
    · exact h1 e he
    · exact hs.heap e he
  · rw [List.append_assoc, List.map_append, List.nodup_append]
    exact ⟨h2, hs.nodup, fun b hb b' hb' e => h3 b hb (e ▸ hb')⟩
  · intro t b e hb
    rw [List.append_assoc, List.map_append, List.mem_append] at hb
    rcases hb with hb | hb
    · exact h4 t b e hb
    · exact hs.lin t b e hb
theorem Sat.calledR {Hin H0 Hout : Heap} (hs : Sat C env (Hin ++ H0) D a w S L) (hd : ∀ d, dst = some d → d < C.N) {w' : World} {S' : Snap} {g : Option Nat} {p : AV} {v : Value}
    (hle : S.Le S') (hin : S'.In w') (hnew : ∀ b, S'.has b → S.has b ∨ AH w Hin b) (hb : BelowA (AH w Hin) w w') (hr : RepT (AH w Hin) S' w' g p v)
    (ho : ∀ e ∈ Hout, Own (AH w Hin) S' w' e.1 e.2) (hnd : (Hout.map (·.1)).Nodup) (hg : ∀ b, g = some b → b ∉ Hout.map (·.1)) :
    ∃ L', Sat C (updO env dst p) (Hout ++ H0) D (a.put dst v) w' S' L' := by
  have hndH := hs.nodup
  rw [List.append_assoc, List.map_append, List.nodup_append] at hndH
  have hnd0 : (H0.map (·.1)).Nodup := by
    have := hndH.2.1
    rw [List.map_append, List.nodup_append] at this
    exact this.1
  have h0 := hs.subH (H' := H0) (fun e he => List.mem_append.2 (.inr he)) hnd0
  have inA : ∀ b, AH w Hin b → C.A b := by
    rintro b (hb | hb)
    · exact hs.fresh hb
    · obtain ⟨e, he, rfl⟩ := List.mem_map.1 hb
      exact (hs.heap e (List.mem_append.2 (.inl he))).base
  have notA : ∀ b, b < w.heap.size → b ∉ Hin.map (·.1) → ¬ AH w Hin b := by
    rintro b h1 h2 (h | h)
    · omega
    · exact h2 h
  have restA : ∀ b, b ∈ (H0 ++ C.F).map (·.1) → ¬ AH w Hin b := fun b hb => notA b (h0.own_lt hb) (fun hh => hndH.2.2 b hh b hb rfl)
  have linA : ∀ t b, L t = some b → ¬ AH w Hin b := fun t b e => notA b (hs.L_lt e) (fun hh => hs.lin t b e (by
    rw [List.append_assoc, List.map_append, List.mem_append]; exact .inl hh))
  have snapA : ∀ b, S.has b → ¬ AH w Hin b := fun b hb => notA b (hs.sin.lt hb) (fun hh => by
    obtain ⟨e, he, rfl⟩ := List.mem_map.1 hh
    exact (hs.heap e (List.mem_append.2 (.inl he))).apart hb)
  have h1 := h0.world (w' := w') (hb.mono (fun k _ hk => inA k hk)) (fun b hb' => hb.block b (hs.sin.lt hb') (snapA b hb')) (fun b hb' => hb.block b (h0.own_lt hb') (restA b hb')) (fun t b e => hb.block b (hs.L_lt e) (linA t b e))
  have h2 := h1.snap hle hin (fun b hh => (hnew b hh).imp id (inA b))
    (fun e he hh => by
      have hmem : e.1 ∈ (H0 ++ C.F).map (·.1) := List.mem_map.2 ⟨e, he, rfl⟩
      rcases hnew _ hh with h | h
      · rcases List.mem_append.1 he with he | he
        · exact (h0.heap e he).apart h
        · exact (h0.frame e he).apart h
      · exact restA _ hmem h)
    (fun t b e hh => by
      rcases hnew _ hh with h | h
      · exact hs.L_apart e h
      · exact linA t b e h)
  have ho' : ∀ e ∈ Hout, AH w Hin e.1 := fun e he => (ho e he).base
  have h3 := h2.addH (G := Hout) (fun e he => (ho e he).base_any (inA _)) hnd
    (fun b hb' hm => by obtain ⟨e, he, rfl⟩ := List.mem_map.1 hb'; exact restA _ hm (ho' e he))
    (fun t b e hm => by obtain ⟨x, hx, rfl⟩ := List.mem_map.1 hm; exact linA t _ e (ho' x hx))
  cases dst with
  | none => exact ⟨L, h3⟩
  | some d =>
    refine ⟨_, h3.putLin (d := d) (g := g) (Nat.lt_of_lt_of_le (hd d rfl) hs.size) (hr.base_any (fun b _ hb' => inA b hb')) ?_⟩
    intro b e
    subst e
    have hbA := hr.base_of.1
    refine ⟨fun hm => ?_, fun t _ e => linA t b e hbA⟩
    rw [List.append_assoc, List.map_append, List.mem_append] at hm
    rcases hm with hm | hm
    · exact hg b rfl hm
    · exact restA b hm hbA
theorem Oper.wpIn_round {o : Oper} {l : LOp} (hl : Lo P o l) (hno : ∀ op, l ≠ .other op) {a : Act} {w w' : World} {lo : Nat} {f : FuncId} {tmps : Array Value} {assign body : Code}
    (h : (execOp a.eval o).run P w = .ok (.round lo f tmps assign body) w') {next : Act → World → Prop} {Q : Exit → Act → World → Prop}
    (k : RoundIn Fence.wide 0 P lo f tmps assign body w' (fun e w'' => ∃ v, e = .returned v ∧ next (a.put o.dst v) w'')) : o.wpIn (Fw r) 0 P a w next Q := by
  refine ⟨fun _ _ => trivial, ?_⟩
  show o.uponIn (Fw r) 0 P a next Q ((o.semAt r a.eval).run P w)
  rw [hl.semAt hno, h]
  refine ⟨fun hd => by simp [Fw, Fence.wide] at hd, ?_⟩
  have k' : RoundIn (Fw r) 0 P lo f tmps assign body w' (fun e w'' => ∃ v, e = .returned v ∧ next (a.put o.dst v) w'') := by
    cases r with
    | none => exact k
    | some _ => exact k
  refine k'.mono ?_
  rintro e w'' ⟨v, rfl, hk⟩
  exact hk
theorem Sat.ownHin {Hin H0 : Heap} (hs : Sat C env (Hin ++ H0) D a w S L) : (∀ e ∈ Hin, Own (fun _ => True) S w e.1 e.2) ∧ (Hin.map (·.1)).Nodup := by
  have hnd := hs.nodup
  rw [List.append_assoc, List.map_append, List.nodup_append] at hnd
  exact ⟨fun e he => (hs.heap e (List.mem_append.2 (.inl he))).base_any (fun _ => trivial), hnd.1⟩
theorem Op1.callR {f : FuncId} {args : List Operand} {ty : TypeId} {ps qs : List AV} {Hin H0 : Heap} {R : AV → Heap → Prop} (hev : EvR P f qs Hin R) (hps : args.map (evO env) = ps) (hlin : ps.all (fun p => !p.isLin) = true) (hsub : SubL ps qs)
    (hH : H = Hin ++ H0) (k : ∀ res Hout, R res Hout → K (updO env dst res) (Hout ++ H0) D) : Op1 P r N (.call f args ty) dst env H D K := by
  subst hH
  intro o hdst hd hlo C a w S L hN hs next Q hnext
  have hl0 : ∀ p ∈ ps, p.isLin = false := fun p hp => by simpa using List.all_eq_true.1 hlin p hp
  have hargs := hsub S _ (hs.repOs args hps hl0)
  cases hlo with
  | call hop hf hn hb =>
    rename_i xs ts fn
    refine Oper.wpIn_enter (.call hop hf hn hb) (by simp) (f := f) (args := xs.map a.eval) (w' := w) ?_ ?_
    · simp [execOp, hop, resolve, Deferred.ofValue, Act.eval, invoke, run_callFunc hev.1]
    · have h := hev.2 S w _ hs.sin hargs hs.ownHin.1 hs.ownHin.2
      have e : (List.map a.eval xs.toList).toArray = xs.map a.eval := by rw [← Array.toList_map]
      rw [e] at h
      refine h.mono ?_
      rintro e w' ⟨v, S', g, res, Hout, rfl, hR, hle, hin, hnew, hbel, hr, ho, hnd, hg⟩
      obtain ⟨L', hs'⟩ := hs.calledR (dst := dst) (fun d e => hN ▸ hd d e) hle hin hnew hbel hr ho hnd hg
      exact ⟨v, rfl, by rw [hdst]; exact hnext _ _ _ _ _ _ _ (k res Hout hR) hs' hle⟩
theorem Op1.callvR {x : Operand} {args : List Operand} {ty : TypeId} {fn : Fn} {first caps ps qs : List AV} {Hin H0 : Heap} {R : AV → Heap → Prop} (hx : evO env x = .fn fn first caps) (hev : EvF P fn caps qs Hin R)
    (hps : args.map (evO env) = ps) (hlin : ps.all (fun p => !p.isLin) = true) (hsub : SubL (first ++ ps ++ caps) qs) (hH : H = Hin ++ H0) (k : ∀ res Hout, R res Hout → K (updO env dst res) (Hout ++ H0) D) :
    Op1 P r N (.callv x args ty) dst env H D K := by
  subst hH
  intro o hdst hd hlo C a w S L hN hs next Q hnext
  have hl0 : ∀ p ∈ ps, p.isLin = false := fun p hp => by simpa using List.all_eq_true.1 hlin p hp
  have hxr := hs.repO x hx rfl
  simp only [Rep] at hxr
  obtain ⟨fs, cs, hxv, hfr, hcr⟩ := hxr
  have hargs := hsub S _ ((hfr.append (hs.repOs args hps hl0)).append hcr)
  have fin : ∀ e w', EffR S w Hin R e w' → ∃ v, e = .returned v ∧ next (a.put o.dst v) w' := by
    rintro e w' ⟨v, S', g, res, Hout, rfl, hR, hle, hin, hnew, hbel, hr, ho, hnd, hg⟩
    obtain ⟨L', hs'⟩ := hs.calledR (dst := dst) (fun d e => hN ▸ hd d e) hle hin hnew hbel hr ho hnd hg
    exact ⟨v, rfl, by rw [hdst]; exact hnext _ _ _ _ _ _ _ (k res Hout hR) hs' hle⟩
  cases hlo with
  | callv hop =>
    rename_i xs ts
    have e : fs.toArray ++ xs.map a.eval ++ cs.toArray = (fs ++ xs.toList.map a.eval ++ cs).toArray := by
      apply Array.toList_inj.1; simp
    cases fn with
    | func f =>
      refine Oper.wpIn_enter (.callv hop) (by simp) (f := f) (args := (fs ++ xs.toList.map a.eval ++ cs).toArray) (w' := w) ?_ ?_
      · simp [execOp, hop, resolve, Deferred.ofValue, hxv, invoke, run_callFunc hev.1]
      · exact (hev.2 S w _ hs.sin hargs hs.ownHin.1 hs.ownHin.2).mono fin
    | yield l =>
      obtain ⟨rfl, hev⟩ := hev
      simp only [RepL] at hcr
      subst hcr
      obtain ⟨lp, hlp, hlen, hround⟩ := hev S w _ hs.sin hargs hs.ownHin.1 hs.ownHin.2
      have hsz : (fs ++ xs.toList.map a.eval ++ []).toArray.size = lp.params.size := by simpa using hlen
      have hdef : (execOp a.eval o).run P w = .ok (.round l lp.fn ((lp.params.zip (fs ++ xs.toList.map a.eval ++ []).toArray).foldl (fun tmps (t, a) => tmps.setIfInBounds t a) lp.tmps) lp.assign lp.body) w := by
        have hy : (Instr.yield l (fs ++ xs.toList.map a.eval ++ []).toArray).run P w = .ok (.round l lp.fn ((lp.params.zip (fs ++ xs.toList.map a.eval ++ []).toArray).foldl (fun tmps (t, a) => tmps.setIfInBounds t a) lp.tmps) lp.assign lp.body) w := by
          simp only [Instr.yield, Instr.getLoop, getObj, Sem.run_bind, Sem.run, hlp, Result.andThen_ok, Sem.run_pure, hsz]
          simp
        have e' : fs.toArray ++ xs.map a.eval = (fs ++ xs.toList.map a.eval ++ []).toArray := by
          apply Array.toList_inj.1; simp
        simp only [execOp, hop, resolve, Deferred.ofValue, hxv, Sem.run_bind, Sem.run_pure, Result.andThen_ok, invoke, e']
        exact hy
      exact Oper.wpIn_round (.callv hop) (by simp) hdef (hround.mono fin)
    | _ => exact hev.elim
end
end Go.Px

namespace Go.Px
def retR (P : Program) (rs : List ResultVar) (R : AV → Heap → Prop) : Post := fun e env H D => (e = .normal ∨ e = .ret) ∧ ∃ H' res Hout, DropD H D H' ∧ ResOK P env H' rs res ∧ R res Hout ∧ Hout.Sublist H'
theorem sub_nodup {H Hout : Heap} (h : Hout.Sublist H) (hn : (H.map (·.1)).Nodup) : (Hout.map (·.1)).Nodup := hn.sublist (h.map _)
section
variable {P : Program} {env : Env} {H : Heap} {D : List Nat} {Q : Post}
theorem EvR.intro {f : FuncId} {N : Nat} {rs : List ResultVar} {lc : LCode} {args : List AV} {Hin : Heap} {R : AV → Heap → Prop} (ok : FnOK P f N rs lc) (h : LWp P none N lc (retR P rs R) (argEnv args) Hin []) : EvR P f args Hin R := by
  obtain ⟨fn, hf, hn, hN, hrs, hlc⟩ := ok.fn
  obtain ⟨c, hb, hlc⟩ := Option.bind_eq_some_iff.1 hlc
  refine ⟨⟨fn, hf, hn, by rw [hb]; rfl⟩, ?_⟩
  intro S w vs hin hargs hHin hnd
  rw [← callsIn_wide (n := 0)]
  refine callsIn_of_wp_marks hf hb trivial ?_
  let C : Ctx := { A := AH w Hin, w0 := w, S0 := S, F := [], N := N, hA := fun _ h => .inl h }
  have hs : Sat C (argEnv args) Hin [] { tmps := vs.toArray ++ Array.replicate (fn.ntmps - vs.toArray.size) undef, defers := [] } w S (fun _ => none) := by
    refine
      { size := ?_, dfs := rfl, le := Snap.Le.refl S, sin := hin, snew := fun _ h => .inl h, below := BelowA.refl _ _, env := ?_, heap := ?_, frame := by simp [C], nodup := by simpa [C] using hnd, lin := by simp, linj := by simp }
    · show N ≤ _
      simp only [Array.size_append, List.size_toArray, Array.size_replicate]; omega
    · intro t
      have hget : (argEnv args t) = .any ∨ ∃ p, args[t]? = some p ∧ argEnv args t = p := by
        unfold argEnv
        cases h : args[t]? with
        | none => exact .inl rfl
        | some p => exact .inr ⟨p, rfl, rfl⟩
      rcases hget with he | ⟨p, hp, he⟩
      · rw [he]; exact RepT.of_rep rfl (by simp [Rep])
      · obtain ⟨c, hc, hr⟩ := hargs.get hp
        have hlt := get_lt hc
        have hv : (vs.toArray ++ Array.replicate (fn.ntmps - vs.toArray.size) undef).getD t undef = c := by
          rw [Array.getD_eq_getD_getElem?, Array.getElem?_append_left (by simpa using hlt)]
          simp [hc]
        rw [he, hv]
        exact RepT.of_rep hr.not_lin hr
    · intro e he
      exact (hHin e he).base_any (fun _ => .inr (List.mem_map.2 ⟨e, he, rfl⟩))
  refine wpIn_mono (h c (lowerCode_lc hlc) C _ w S _ rfl hs) ?_
  rintro e a' w' ⟨env', H', D', S', L', hs', he, H'', res, Hout, hD, hres, hR, hsub⟩
  have fin : LeavesInM Fence.wide 0 P fn a'.tmps (EffR S w Hin R) a'.defers .returning w' := by
    rw [← hrs] at hres
    refine leaves_of D' hD hres hs' (fun v g a'' w'' hs'' hrep hg => ⟨v, S', g, res, Hout, rfl, hR, hs''.le, hs''.sin, hs''.snew, hs''.below, hrep, fun e he => hs''.heap e (hsub.subset he), ?_, ?_⟩)
    · have := hs''.nodup
      rw [List.map_append, List.nodup_append] at this
      exact sub_nodup hsub this.1
    · intro b e hm
      obtain ⟨t, ht⟩ := hg b e
      refine hs''.lin t b ht ?_
      rw [List.map_append, List.mem_append]
      exact .inl ((hsub.map _).subset hm)
  rcases he with rfl | rfl
  · exact fin
  · exact fin
theorem Ev.toR {f : FuncId} {args : List AV} {res : AV} (h : Ev P f args res) (Hin : Heap) : EvR P f args Hin (fun r Ho => r = res ∧ Ho = Hin) := by
  refine ⟨h.1, fun S w vs hin hargs hHin hnd => (h.2 S w vs hin hargs).mono ?_⟩
  rintro e w' ⟨v, S', g, rfl, hle, hin', hnew, hb, hr⟩
  have hlt : ∀ e ∈ Hin, e.1 < w.heap.size := fun e he => (hHin e he).lt
  refine ⟨v, S', g, res, Hin, rfl, ⟨rfl, rfl⟩, hle, hin', fun b hb' => (hnew b hb').imp id .inl, ⟨hb.os, hb.tape, hb.output, hb.size, fun k hk _ => hb.block k hk⟩, hr.base_any (fun b _ h => .inl h), ?_, hnd, ?_⟩
  · intro e he
    obtain ⟨o, ho, hx⟩ := (hHin e he).holds
    refine ⟨.inr (List.mem_map.2 ⟨e, he, rfl⟩), fun hh => ?_, o, (hb.block _ (hlt e he)).trans ho, hx.mono hle⟩
    rcases hnew _ hh with h | h
    · exact (hHin e he).apart h
    · have := hlt e he; omega
  · intro b e hm
    subst e
    obtain ⟨x, hx, rfl⟩ := List.mem_map.1 hm
    have := hr.base_of.1
    have := hlt x hx
    omega
theorem Ent.subH {H' : Heap} (h : H'.Sublist H) : Ent env H D env H' D := fun _ _ _ S L hs => ⟨S, L, Snap.Le.refl _, hs.subH (fun _ he => h.subset he) (by
  have := hs.nodup
  rw [List.map_append, List.nodup_append] at this
  exact sub_nodup h this.1)⟩
theorem Ent.perm {H' : Heap} (h : H.Perm H') : Ent env H D env H' D := fun _ _ _ S L hs => ⟨S, L, Snap.Le.refl _, hs.subH (fun _ he => h.symm.subset he) (by
  have := hs.nodup
  rw [List.map_append, List.nodup_append] at this
  exact (h.map _).nodup_iff.1 this.1)⟩
variable {C : Ctx} {a : Act} {w : World} {S : Snap} {L : Nat → Option Nat}
theorem Sat.unframe (hs : Sat C env H D a w S L) : Sat { C with F := [] } env (H ++ C.F) D a w S L :=
  { hs with heap := fun e he => (List.mem_append.1 he).elim (hs.heap e) (hs.frame e), frame := by simp, nodup := by simpa using hs.nodup, lin := by simpa using hs.lin }
theorem Sat.reframe {G : Heap} (hs : Sat C env (H ++ G) D a w S L) (hF : C.F = []) : Sat { C with F := G } env H D a w S L :=
  { hs with
    heap := fun e he => hs.heap e (List.mem_append.2 (.inl he)), frame := fun e he => hs.heap e (List.mem_append.2 (.inr he))
    nodup := by have := hs.nodup; rw [hF, List.append_nil] at this; exact this
    lin := by have := hs.lin; rw [hF, List.append_nil] at this; exact this }
theorem Sat.frameSet {l : Nat} {x y : HObj} (hs : Sat C env H D a w S L) (hF : C.F = [(l, x)]) {o : Obj} (hy : Holds S y o) : Sat { C with F := [(l, y)] } env H D a { w with heap := w.heap.setIfInBounds l o } S L := by
  have h1 := hs.unframe
  rw [hF] at h1
  have hi : (H ++ [(l, x)])[H.length]? = some (l, x) := by simp
  have hlt : l < w.heap.size := (h1.at_ hi).lt
  have h2 := h1.replace hi (y := y) (w' := { w with heap := w.heap.setIfInBounds l o }) (o := o) (by simp [hlt]) hy (by simp) (fun g hg => by
    show (w.heap.setIfInBounds l o)[g]? = w.heap[g]?
    rw [Array.getElem?_setIfInBounds, if_neg (fun e => hg e.symm)]) rfl rfl rfl
  have e : (H ++ [(l, x)]).set H.length (l, y) = H ++ [(l, y)] := by simp
  rw [e] at h2
  exact h2.reframe rfl
def setPs : List Nat → List AV → Env → Env
  | t :: ps, p :: args, env => setPs ps args (upd env t p)
  | _, _, env => env
theorem setPs_rep {N : Nat} : ∀ {ps : List Nat} {args : List AV} {vs : List Value} {env : Env} {tmps : Array Value}, RepL S args vs → N ≤ tmps.size → (∀ t, Rep S (env t) (tmps.getD t undef)) → (∀ t ∈ ps, t < N) →
    N ≤ ((ps.zip vs).foldl (fun tmps (x : Nat × Value) => tmps.setIfInBounds x.1 x.2) tmps).size ∧ ∀ t, Rep S (setPs ps args env t) (((ps.zip vs).foldl (fun tmps (x : Nat × Value) => tmps.setIfInBounds x.1 x.2) tmps).getD t undef)
  | [], args, vs, env, tmps, _, hN, h, _ => by simp only [List.zip_nil_left, List.foldl_nil]; cases args <;> exact ⟨hN, h⟩
  | p :: ps, [], vs, env, tmps, hr, hN, h, _ => by
    simp only [RepL] at hr
    subst hr
    simp only [List.zip_nil_right, List.foldl_nil]; exact ⟨hN, h⟩
  | p :: ps, q :: args, vs, env, tmps, hr, hN, h, hps => by
    simp only [RepL] at hr
    obtain ⟨c, cs', rfl, h1, h2⟩ := hr
    simp only [List.zip_cons_cons, List.foldl_cons, setPs]
    refine setPs_rep h2 (by simpa using hN) ?_ (fun t ht => hps t (by simp [ht]))
    intro t
    have hp : p < tmps.size := Nat.lt_of_lt_of_le (hps p (by simp)) hN
    by_cases e : t = p
    · subst e
      rw [upd_same]
      have : (tmps.setIfInBounds t c).getD t undef = c := by simp [Array.getD_eq_getD_getElem?, hp]
      rw [this]; exact h1
    · rw [upd_other _ _ e, getD_set_other e]
      exact h t
theorem zip_foldl (ps : Array Nat) (vs : List Value) (tmps : Array Value) : (ps.zip vs.toArray).foldl (fun tmps (t, a) => tmps.setIfInBounds t a) tmps = (ps.toList.zip vs).foldl (fun tmps (x : Nat × Value) => tmps.setIfInBounds x.1 x.2) tmps := by
  rw [← Array.foldl_toList]
  congr 1
  simp
theorem EvY.loop {l N : Nat} {fn : FuncId} {env0 : Env} {ps : Array Nat} {assign body : Code} {dfr : Nat} {H1 H2 : Heap} {args : List AV} {la lb : LCode} (ha : Lc P N assign la) (hb : Lc P N body lb) (hlen : args.length = ps.size)
    (hps : ∀ t ∈ ps.toList, t < N)
    (h : LWp P (some l) N la (fun e env' H' D' => e = .normal ∧ LWp P (some l) N lb (fun e _env' H' _D' => e = .normal ∧ H2.Sublist H') env' H' D') (setPs ps.toList args env0) H1 []) :
    EvY P l args ((l, .loopA .ready none fn N env0 ps assign body dfr) :: H1) (fun res Ho => res = B true ∧ Ho = (l, .loopA .ready none fn N env0 ps assign body dfr) :: H2) := by
  intro S w vs hin hargs hHin hnd
  have hloop := hHin _ (List.mem_cons_self ..)
  obtain ⟨o, ho, tmps, rfl, hN, hrep⟩ := hloop.holds
  refine ⟨_, ho, by simp only; rw [← hlen, hargs.length], ?_⟩
  rw [zip_foldl]
  obtain ⟨hsz, hrep'⟩ := setPs_rep (N := N) hargs hN hrep hps
  generalize (ps.toList.zip vs).foldl (fun tmps (x : Nat × Value) => tmps.setIfInBounds x.1 x.2) tmps = tmps' at hsz hrep'
  simp only [List.map_cons, List.nodup_cons] at hnd
  let Hin : Heap := (l, .loopA .ready none fn N env0 ps assign body dfr) :: H1
  let C : Ctx := { A := AH w Hin, w0 := w, S0 := S, F := [(l, .loopA .ready none fn N env0 ps assign body dfr)], N := N, hA := fun _ h => .inl h }
  have nl : ∀ {S : Snap} {p : AV} {y : Value}, Rep S p y → p.isLin = false := fun h => h.not_lin
  have hs : Sat C (setPs ps.toList args env0) H1 [] { tmps := tmps', defers := [] } w S (fun _ => none) := by
    refine
      { size := hsz, dfs := rfl, le := Snap.Le.refl S, sin := hin, snew := fun _ h => .inl h, below := BelowA.refl _ _, env := fun t => RepT.of_rep (nl (hrep' t)) (hrep' t), heap := ?_, frame := ?_, nodup := ?_, lin := by simp, linj := by simp }
    · intro e he
      exact (hHin e (List.mem_cons_of_mem _ he)).base_any (fun _ => .inr (List.mem_map.2 ⟨e, List.mem_cons_of_mem _ he, rfl⟩))
    · intro e he
      simp only [C, List.mem_singleton] at he
      subst he
      exact hloop.base_any (fun _ => .inr (List.mem_map.2 ⟨_, List.mem_cons_self .., rfl⟩))
    · simp only [C, List.map_append, List.map_cons, List.map_nil]
      rw [List.nodup_append]
      refine ⟨hnd.2, by simp, ?_⟩
      intro b hb b' hb' e
      simp only [List.mem_singleton] at hb'
      subst hb' e
      exact hnd.1 hb
  have hround : ∀ (S' : Snap) (w' : World) (x : HObj) (st : LoopState), Own C.A S' w' l (.loopA st none fn N env0 ps assign body dfr) →
      ∃ tmps, w'.heap[l]? = some (.loop { state := st, pending := none, fn := fn, tmps := tmps, params := ps, assign := assign, body := body, defers := dfr }) ∧ N ≤ tmps.size ∧ ∀ t, Rep S' (env0 t) (tmps.getD t undef) := by
    intro S' w' x st ho
    obtain ⟨o, ho, tmps, rfl, h1, h2⟩ := ho.holds
    exact ⟨tmps, ho, h1, h2⟩
  refine roundIn_of_wpIn trivial ?_
  refine wpIn_mono (h assign ha C _ w S _ rfl hs) ?_
  rintro e a₁ w₁ ⟨env', H', D', S', L', hs', rfl, hbody⟩
  obtain ⟨tmps1, hl1, hN1, hr1⟩ := hround S' w₁ .dfr .ready (hs'.frame (l, .loopA .ready none fn N env0 ps assign body dfr) (by simp [C]))
  have hs2 := hs'.frameSet (l := l) (x := .loopA .ready none fn N env0 ps assign body dfr) rfl (y := .loopA .busy none fn N env0 ps assign body dfr)
    (o := .loop { state := .busy, pending := none, fn := fn, tmps := tmps1, params := ps, assign := assign, body := body, defers := dfr }) ⟨tmps1, rfl, hN1, hr1⟩
  refine ⟨_, ?_, wpIn_mono (hbody body hb _ a₁ _ S' L' rfl hs2) ?_⟩
  · simp [Instr.beginRound, Instr.getLoop, getObj, setObj, Sem.run, hl1]
  rintro e a₂ w₂ ⟨env'', H'', D'', S'', L'', hs'', rfl, hsub⟩
  obtain ⟨tmps2, hl2, hN2, hr2⟩ := hround S'' w₂ .dfr .busy (hs''.frame (l, .loopA .busy none fn N env0 ps assign body dfr) (by simp))
  have hs3 := hs''.frameSet (l := l) (x := .loopA .busy none fn N env0 ps assign body dfr) rfl (y := .loopA .ready none fn N env0 ps assign body dfr)
    (o := .loop { state := .ready, pending := none, fn := fn, tmps := tmps2, params := ps, assign := assign, body := body, defers := dfr }) ⟨tmps2, rfl, hN2, hr2⟩
  refine ⟨.bool true, _, ?_, .bool true, S'', none, B true, _, rfl, ⟨rfl, rfl⟩, hs3.le, hs3.sin, hs3.snew, hs3.below, RepT.of_rep rfl (by simp [Rep]), ?_, ?_, fun _ e => by cases e⟩
  · simp [Instr.endRound, Instr.getLoop, getObj, setObj, Sem.run, hl2]
  · intro e he
    rcases List.mem_cons.1 he with rfl | he
    · exact hs3.frame (l, .loopA .ready none fn N env0 ps assign body dfr) (by simp)
    · exact hs3.heap e (hsub.subset he)
  · have hnd3 := hs3.nodup
    simp only [List.map_append, List.map_cons, List.map_nil] at hnd3
    rw [List.nodup_append] at hnd3
    simp only [List.map_cons, List.nodup_cons]
    refine ⟨fun hm => ?_, sub_nodup hsub hnd3.1⟩
    exact hnd3.2.2 l ((hsub.map _).subset hm) l (by simp) rfl
end
end Go.Px

namespace Go.Px
section
variable {P : Program} {N : Nat} {env : Env} {H : Heap} {D : List Nat} {Q : Post}
theorem Sat.permH {C : Ctx} {a : Act} {w : World} {S : Snap} {L : Nat → Option Nat} (hs : Sat C env H D a w S L) {H' : Heap} (h : H.Perm H') : Sat C env H' D a w S L :=
  hs.subH (fun _ he => h.symm.subset he) (by
    have := hs.nodup
    rw [List.map_append, List.nodup_append] at this
    exact (h.map _).nodup_iff.1 this.1)
theorem LWp.rfun {X : Type} {f : Operand} {ps : List Nat} {la lb : LCode} {g : FuncId} {first caps : List AV} (HS : X → Heap) {H0 : Heap} (x0 : X) (Fin : X → Prop) (Y : X → List AV → X → Prop) (env0 : Env)
    (hx : evO env f = .fn (.func g) first caps) (hH : H = HS x0 ++ H0) (h0 : ∀ t, env0 t = .any ∨ (env0 t = env t ∧ (env t).isLin = false)) (hps : ∀ t ∈ ps, t < N)
    (hbody : ∀ l x args x', Y x args x' → args.length = ps.length ∧
      LWp P (some l) N la (fun e env' H' D' => e = .normal ∧ LWp P (some l) N lb (fun e _ H' _ => e = .normal ∧ (HS x').Sublist H') env' H' D') (setPs ps args env0) (HS x) [])
    (hiter : ∀ (l : Nat) (lo : HObj), (∀ x args x', Y x args x' → EvY P l args ((l, lo) :: HS x) (fun res Ho => res = B true ∧ Ho = (l, lo) :: HS x')) →
      EvR P g (first ++ [.fn (.yield l) [] []] ++ caps) ((l, lo) :: HS x0) (fun _ Ho => ∃ x', Fin x' ∧ Ho = (l, lo) :: HS x'))
    (k : ∀ x' rD, Fin x' → Q .normal env ((rD, .dfr) :: (HS x' ++ H0)) (rD :: D)) : LWp P none N (.rfun f ps la lb) Q env H D := by
  subst hH
  intro c hc C a w S L hN hs
  cases hc with
  | rfun ha hb =>
    rename_i psA ca cb
    refine wpIn_rangeFunc (fun fn _ => ?_)
    have hxr := hs.repO f hx rfl
    simp only [Rep] at hxr
    obtain ⟨fs, cs, hxv, hfr, hcr⟩ := hxr
    have hs1 := hs.alloc (x := .dfr) (o := .deferred (some [])) rfl
    have hrep0 : ∀ t, Rep S (env0 t) (a.tmps.getD t undef) := by
      intro t
      rcases h0 t with e | ⟨e, hl⟩
      · rw [e]; simp [Rep]
      · rw [e]; exact hs.rep rfl hl
    have hsz : N ≤ a.tmps.size := hN ▸ hs.size
    have hs2 := hs1.alloc (x := .loopA .ready none fn N env0 psA ca cb w.heap.size)
      (o := .loop { state := .ready, pending := none, fn := fn, tmps := a.tmps, params := psA, assign := ca, body := cb, defers := w.heap.size }) ⟨a.tmps, rfl, hsz, hrep0⟩
    generalize hl : (w.alloc (.deferred (some []))).heap.size = l at hs2
    generalize hw2 : (w.alloc (.deferred (some []))).alloc (.loop { state := .ready, pending := none, fn := fn, tmps := a.tmps, params := psA, assign := ca, body := cb, defers := w.heap.size }) = w2 at hs2
    generalize hlo : HObj.loopA .ready none fn N env0 psA ca cb w.heap.size = lo at hs2
    have hdfs : ({ a with defers := [markOf w.heap.size] ++ a.defers } : Act).defers = (w.heap.size :: D).map markOf := by
      show [markOf w.heap.size] ++ a.defers = _
      rw [hs2.dfs]
      rfl
    have hs3 : Sat C env ((l, lo) :: (w.heap.size, .dfr) :: (HS x0 ++ H0)) (w.heap.size :: D) { a with defers := [markOf w.heap.size] ++ a.defers } w2 S L :=
      { hs2 with dfs := hdfs, size := hs2.size }
    have hs4 := hs3.permH (H' := ((l, lo) :: HS x0) ++ ((w.heap.size, .dfr) :: H0)) (by
      rw [List.cons_append]
      exact (List.perm_middle).symm.cons _)
    have hy : ∀ x args x', Y x args x' → EvY P l args ((l, lo) :: HS x) (fun res Ho => res = B true ∧ Ho = (l, lo) :: HS x') := by
      intro x args x' hY
      obtain ⟨h1, h2⟩ := hbody l x args x' hY
      rw [← hlo]
      exact EvY.loop ha hb (by rw [h1]; simp) hps h2
    have hev := hiter l lo hy
    have hargs : RepL S (first ++ [.fn (.yield l) [] []] ++ caps) (fs ++ [Value.func (.yield l) #[] #[]] ++ cs) :=
      (hfr.append (by simp only [RepL, Rep]; exact ⟨_, [], rfl, ⟨[], [], rfl, rfl, rfl⟩, rfl⟩)).append hcr
    refine ⟨l, [markOf w.heap.size], w2, { target := .fn (.func g) cs.toArray, args := (fs ++ [Value.func (.yield l) #[] #[]]).toArray }, w2, g, (fs ++ [Value.func (.yield l) #[] #[]] ++ cs).toArray, w2, ?_, ?_, fun _ _ => trivial, ?_, fun hd => by simp [Fw, Fence.wide] at hd, ?_⟩
    · rw [← hl, ← hw2]
      simp [Instr.enterLoop, newObj, Sem.run, Fw, Fence.wide, markOf]
    · have e1 : a.eval (.const (.func (.yield l) #[] #[])) = .func (.yield l) #[] #[] := rfl
      simp [resolve, Deferred.ofValue, hxv, e1]
    · have e : (fs ++ [Value.func (.yield l) #[] #[]]).toArray ++ cs.toArray = (fs ++ [Value.func (.yield l) #[] #[]] ++ cs).toArray := by
        apply Array.toList_inj.1; simp
      simp only [invoke, e, run_callFunc hev.1]
    · refine calls_Fw ((hev.2 S w2 _ hs4.sin hargs hs4.ownHin.1 hs4.ownHin.2).mono ?_) none
      rintro e w' ⟨v, S', gg, res, Hout, rfl, ⟨x', hfin, rfl⟩, hle, hin, hnew, hbel, hr, ho, hnd, hg⟩
      obtain ⟨L', hs5⟩ := hs4.calledR (dst := none) (fun d e => by cases e) hle hin hnew hbel hr ho hnd hg
      have hi : ((l, lo) :: HS x' ++ ((w.heap.size, HObj.dfr) :: H0))[0]? = some (l, lo) := rfl
      have hown := hs5.at_ hi
      obtain ⟨o, hrow, hx'⟩ := hown.holds
      rw [← hlo] at hx'
      obtain ⟨tmps, rfl, hN', hr'⟩ := hx'
      have hlt : l < w'.heap.size := (Array.getElem?_eq_some_iff.1 hrow).1
      have hs6 := hs5.replace hi (y := .raw (.loop { state := .exhausted, pending := none, fn := fn, tmps := tmps, params := psA, assign := ca, body := cb, defers := w.heap.size }))
        (w' := { w' with heap := w'.heap.setIfInBounds l (.loop { state := .exhausted, pending := none, fn := fn, tmps := tmps, params := psA, assign := ca, body := cb, defers := w.heap.size }) })
        (o := .loop { state := .exhausted, pending := none, fn := fn, tmps := tmps, params := psA, assign := ca, body := cb, defers := w.heap.size })
        (by simp [hlt]) rfl (by simp) (fun g hg => by
          show (w'.heap.setIfInBounds l _)[g]? = w'.heap[g]?
          rw [Array.getElem?_setIfInBounds, if_neg (fun e => hg e.symm)]) rfl rfl rfl
      have hs7 := hs6.drop 0
      have hs8 := hs7.permH (H' := (w.heap.size, .dfr) :: (HS x' ++ H0)) (by
        simp only [List.cons_append, List.set_cons_zero, List.eraseIdx_cons_zero]
        exact List.perm_middle)
      refine ⟨none, _, ?_, env, _, _, S', L', hs8, k x' w.heap.size hfin⟩
      simp [Instr.endLoop, Instr.getLoop, getObj, setObj, Sem.run, hrow]
end
end Go.Px

namespace Go.Px
structure KeyOK (P : Program) (K : TypeId) (ks : Value → Prop) : Prop where
  check : ∀ k, ks k → ∀ (em : Bool) (w : World), (Instr.checkKey em 10000 K k).run P w = .ok () w
  find : ∀ (k : Value) (l : List MapEntry), ks k → (∀ x ∈ l, ks x.key) → ∀ w : World, ((Instr.findKey K k l).run P w = .ok none w ∧ ∀ x ∈ l, x.key ≠ k) ∨
    ∃ j e, (Instr.findKey K k l).run P w = .ok (some (j, e.val)) w ∧ l[j]? = some e ∧ e.key = k
  same : ∀ k, ks k → Instr.sameBits 10000 k k = true
def AllV : List AV → Option (List Value)
  | [] => some []
  | .v x :: l => (AllV l).map (x :: ·)
  | _ => none
def valOf : AV → Option Value
  | .v x => some x
  | .agg l => (AllV l).map fun vs => .agg vs.toArray
  | _ => none
theorem allV_eq : ∀ {l : List AV} {vs : List Value}, AllV l = some vs → l = vs.map .v
  | [], vs, h => by simp only [AllV, Option.some.injEq] at h; subst h; rfl
  | a :: l, vs, h => by
    cases a <;> simp only [AllV, Option.map_eq_some_iff, reduceCtorEq] at h
    obtain ⟨us, hu, rfl⟩ := h
    rw [allV_eq hu]; rfl
theorem valOf_rep {S : Snap} {p : AV} {u y : Value} (h : valOf p = some u) (r : Rep S p y) : y = u := by
  cases p <;> simp only [valOf, Option.map_eq_some_iff, Option.some.injEq, reduceCtorEq] at h
  case v x => subst h; simp only [Rep] at r; exact r
  case agg l =>
    obtain ⟨vs, hv, rfl⟩ := h
    have e := allV_eq hv
    subst e
    simp only [Rep] at r
    obtain ⟨cs, rfl, rl⟩ := r
    rw [(repL_v_iff S vs cs).1 rl]
theorem valOf_lin {p : AV} {u : Value} (h : valOf p = some u) : p.isLin = false := by
  cases p <;> simp only [valOf, reduceCtorEq] at h <;> rfl
theorem RepM.get {S : Snap} : ∀ {es : List (Value × AV)} {l : List MapEntry}, RepM S es l → es.length = l.length ∧ (∀ (j : Nat) (k : Value) (p : AV), es[j]? = some (k, p) → ∃ e, l[j]? = some e ∧ e.key = k ∧ Rep S p e.val) ∧
    (∀ (j : Nat) (e : MapEntry), l[j]? = some e → ∃ p, es[j]? = some (e.key, p) ∧ Rep S p e.val)
  | [], l, h => by simp only [RepM] at h; subst h; simp
  | (k, a) :: es, l, h => by
    simp only [RepM] at h
    obtain ⟨e, es', rfl, hk, hr, h2⟩ := h
    obtain ⟨i1, i2, i3⟩ := h2.get
    refine ⟨by simp [i1], ?_, ?_⟩
    · intro j k' p hj
      cases j with
      | zero => simp at hj; obtain ⟨rfl, rfl⟩ := hj; exact ⟨e, rfl, hk, hr⟩
      | succ j => simpa using i2 j k' p (by simpa using hj)
    · intro j e' hj
      cases j with
      | zero => simp at hj; subst hj; exact ⟨a, by simp [hk], hr⟩
      | succ j => simpa using i3 j e' (by simpa using hj)
theorem RepM.set {S : Snap} : ∀ {es : List (Value × AV)} {l : List MapEntry} (j : Nat) {k : Value} {p : AV} {e : MapEntry}, RepM S es l → e.key = k → Rep S p e.val → RepM S (es.set j (k, p)) (l.set j e)
  | [], l, j, k, p, e, h, _, _ => by simp only [RepM] at h; subst h; simp [RepM]
  | (k0, a) :: es, l, j, k, p, e, h, hk, hr => by
    simp only [RepM] at h
    obtain ⟨e0, es', rfl, hk0, hr0, h2⟩ := h
    cases j with
    | zero => simp only [List.set_cons_zero, RepM]; exact ⟨e, es', rfl, hk, hr, h2⟩
    | succ j => simp only [List.set_cons_succ, RepM]; exact ⟨e0, _, rfl, hk0, hr0, h2.set j hk hr⟩
theorem RepM.append {S : Snap} : ∀ {es : List (Value × AV)} {l : List MapEntry} {k : Value} {p : AV} {e : MapEntry}, RepM S es l → e.key = k → Rep S p e.val → RepM S (es ++ [(k, p)]) (l ++ [e])
  | [], l, k, p, e, h, hk, hr => by simp only [RepM] at h; subst h; simp only [List.nil_append, RepM]; exact ⟨e, [], rfl, hk, hr, rfl⟩
  | (k0, a) :: es, l, k, p, e, h, hk, hr => by
    simp only [RepM] at h
    obtain ⟨e0, es', rfl, hk0, hr0, h2⟩ := h
    simp only [List.cons_append, RepM]
    exact ⟨e0, _, rfl, hk0, hr0, h2.append hk hr⟩
inductive MAt (es : List (Value × AV)) (k : Value) : Option (Nat × AV) → Prop where
  | none : (∀ e ∈ es, e.1 ≠ k) → MAt es k none
  | some {j p} : es[j]? = some (k, p) → MAt es k (some (j, p))
section
variable {P : Program} {r : Option Nat} {N : Nat} {env : Env} {H : Heap} {D : List Nat} {dst : Option Nat} {K : Env → Heap → List Nat → Prop} {Q : Post}
theorem Sq.empty : Sq #[] 0 := ⟨rfl, by simp, by simp⟩
theorem Op1.mmap {T d : Nat} (k : ∀ b, K (upd env d (.mo b)) ((b, .map []) :: H) D) : Op1 P r N (.mmap T) (some d) env H D K := by
  intro o hdst hd hlo C a w S L hN hs next Q hnext
  have hs1 := hs.alloc (x := .map []) (o := .map #[] 0) ⟨#[], 0, rfl, by simp [RepM], Sq.empty⟩
  have hs2 := hs1.put (d := d) (Nat.lt_of_lt_of_le (hN ▸ hd d rfl) hs.size) (p := .mo w.heap.size) (y := .map (some w.heap.size)) rfl (by simp [Rep])
  cases hlo with
  | mmap hop =>
    refine Oper.wpIn_value (.mmap hop) (by simp) (y := .map (some w.heap.size)) (w' := w.alloc (.map #[] 0)) ?_ (by rw [hdst]; exact hnext _ _ _ _ _ _ _ (k _) hs2 (Snap.Le.refl _))
    simp [execOp, hop, Instr.makeMap, newObj, Sem.run]
theorem find_at {KK : TypeId} {ks : Value → Prop} (hK : KeyOK P KK ks) {S : Snap} {es : List (Value × AV)} {ents : Array MapEntry} {clock : Nat} (hm : RepM S es ents.toList) (hsq : Sq ents clock) (hks : ∀ e ∈ es, ks e.1) {k : Value} (hk : ks k)
    {o : Option (Nat × AV)} (ho : MAt es k o) (w : World) : match o with
      | none => (Instr.findKey KK k ents.toList).run P w = .ok none w
      | some (j, p) => ∃ e, (Instr.findKey KK k ents.toList).run P w = .ok (some (j, e.val)) w ∧ ents[j]? = some e ∧ e.key = k ∧ Rep S p e.val := by
  obtain ⟨h1, h2, h3⟩ := hm.get
  have hks' : ∀ x ∈ ents.toList, ks x.key := by
    intro x hx
    obtain ⟨j, hj⟩ := List.mem_iff_getElem?.1 hx
    obtain ⟨p, hp, _⟩ := h3 j x hj
    exact hks _ (List.mem_of_getElem? hp)
  rcases hK.find k ents.toList hk hks' w with ⟨hf, hne⟩ | ⟨j, e, hf, hj, he⟩
  · cases ho with
    | none _ => exact hf
    | some hp =>
      obtain ⟨e, he, hek, _⟩ := h2 _ _ _ hp
      exact absurd hek (hne e (List.mem_of_getElem? he))
  · cases ho with
    | none hne =>
      obtain ⟨p, hp, _⟩ := h3 j e hj
      exact absurd he (hne _ (List.mem_of_getElem? hp))
    | some hp =>
      rename_i j' p'
      obtain ⟨e', he', hek', hr'⟩ := h2 _ _ _ hp
      have hjj : j = j' := by
        have hnd := hsq.2.2
        have a1 : (ents.toList.map (·.key))[j]? = some k := by simp only [List.getElem?_map, hj, Option.map_some, he]
        have a2 : (ents.toList.map (·.key))[j']? = some k := by simp only [List.getElem?_map, he', Option.map_some, hek']
        exact (List.getElem?_inj (get_lt a1) hnd).1 (a1.trans a2.symm)
      subst hjj
      have : e = e' := by rw [hj] at he'; cases he'; rfl
      subst this
      exact ⟨e, hf, by simpa using hj, he, hr'⟩
theorem run_zero {E : TypeId} {zv : Value} (h : (P.info? E).bind (·.zero) = some zv) (w : World) : (zeroValue E).run P w = .ok zv w := by
  cases hi : P.info? E with
  | none => rw [hi] at h; cases h
  | some i =>
    rw [hi] at h
    have h : i.zero = some zv := h
    simp [zeroValue, typeInfo, hi, h]
def lkRes (ok : Bool) (zp : AV) : Option (Nat × AV) → AV
  | some (_, p) => match ok with | true => .tup [p, .v (.bool true)] | false => p
  | none => match ok with | true => .tup [zp, .v (.bool false)] | false => zp
def LkV (S : Snap) (zv v : Value) : Option (Nat × AV) → Prop
  | none => v = zv
  | some (_, p) => Rep S p v
theorem lkRes_rep {S : Snap} {ok : Bool} {zv v : Value} {o : Option (Nat × AV)} (h : LkV S zv v o) :
    Rep S (lkRes ok (cv zv) o) (if ok = true then .tuple #[v, .bool o.isSome] else v) := by
  cases o with
  | none =>
    simp only [LkV] at h
    subst h
    cases ok
    · simpa [lkRes] using rep_cv S v
    · simp only [lkRes, Rep, if_true]
      exact ⟨[v, .bool false], rfl, by simp only [RepL]; exact ⟨_, _, rfl, rep_cv S v, _, _, rfl, by simp [Rep], rfl⟩⟩
  | some jp =>
    obtain ⟨j, p⟩ := jp
    simp only [LkV] at h
    cases ok
    · simpa [lkRes] using h
    · simp only [lkRes, Rep, if_true]
      exact ⟨[v, .bool true], rfl, by simp only [RepL]; exact ⟨_, _, rfl, h, _, _, rfl, by simp [Rep], rfl⟩⟩
theorem run_lookup {T KK E : TypeId} {ks : Value → Prop} (hT : P.underlying T = some (.map KK E)) (hK : KeyOK P KK ks) {zv : Value} (hz : (P.info? E).bind (·.zero) = some zv) {S : Snap} {es : List (Value × AV)} {ents : Array MapEntry} {clock : Nat}
    (hm : RepM S es ents.toList) (hsq : Sq ents clock) (hks : ∀ e ∈ es, ks e.1) {k : Value} (hk : ks k) {o : Option (Nat × AV)} (ho : MAt es k o) {w : World} {b : Nat} (hb : w.heap[b]? = some (.map ents clock)) (ok : Bool) :
    ∃ v, (Instr.lookup T (.map (some b)) k ok).run P w = .ok (if ok = true then .tuple #[v, .bool o.isSome] else v) w ∧ LkV S zv v o := by
  have hf := find_at hK hm hsq hks hk ho w
  have hc := hK.check k hk ents.isEmpty w
  cases o with
  | none =>
    simp only at hf
    refine ⟨zv, ?_, rfl⟩
    simp [Instr.lookup, underlying, hT, MapKept.run_getObj_map hb, hc, hf, run_zero hz]
  | some jp =>
    obtain ⟨j, p⟩ := jp
    obtain ⟨e, hf, _, _, hr⟩ := hf
    refine ⟨e.val, ?_, hr⟩
    simp [Instr.lookup, underlying, hT, MapKept.run_getObj_map hb, hc, hf]
theorem Op1.lookupO {T KK E : TypeId} {x i : Operand} {ok : Bool} {z : List Value} {ks : Value → Prop} (hK : KeyOK P KK ks) {zv : Value} (hz : (P.info? E).bind (·.zero) = some zv) {b n : Nat} {es : List (Value × AV)} (hx : evO env x = .mo b)
    (hH : H[n]? = some (b, .map es)) {kv : Value} (hi : valOf (evO env i) = some kv) (hk : ks kv) (hks : ∀ e ∈ es, ks e.1) {o : Option (Nat × AV)} (ho : MAt es kv o) (k : K (updO env dst (lkRes ok (cv zv) o)) H D) :
    Op1 P r N (.lookup T x i ok KK E z) dst env H D K := by
  intro op hdst hd hlo C a w S L hN hs next Q hnext
  obtain ⟨ob, hrow, ents, clock, rfl, hm, hsq⟩ := (hs.at_ hH).holds
  have hxv := hs.repO x hx rfl
  simp only [Rep] at hxv
  have hiv := valOf_rep hi (hs.repO i rfl (valOf_lin hi))
  cases hlo with
  | lookup hop hT hzo =>
    obtain ⟨v, hrun, hv⟩ := run_lookup hT hK hz hm hsq hks hk ho hrow ok
    have hrep := lkRes_rep (S := S) (ok := ok) hv
    obtain ⟨L', hs'⟩ := hs.putO (dst := dst) (fun d e => hN ▸ hd d e) hrep.not_lin hrep
    refine Oper.wpIn_value (.lookup hop hT hzo) (by simp) ?_ (by rw [hdst]; exact hnext _ _ _ _ _ _ _ k hs' (Snap.Le.refl _))
    simp only [execOp, hop, hxv, hiv, hrun, Sem.run_bind, Sem.run_pure, Result.andThen_ok]
def mput (es : List (Value × AV)) (k : Value) (v : AV) : Option (Nat × AV) → List (Value × AV)
  | some (j, _) => es.set j (k, v)
  | none => es ++ [(k, v)]
def mpos (es : List (Value × AV)) : Option (Nat × AV) → Nat
  | some (j, _) => j
  | none => es.length
theorem Sq.modify {ents : Array MapEntry} {clock j : Nat} {e : MapEntry} (h : Sq ents clock) (hj : ents[j]? = some e) (f : MapEntry → MapEntry) (hf : ∀ x, (f x).born = x.born) (hk : (f e).key = e.key) : Sq (ents.modify j f) clock := by
  obtain ⟨h1, h2, h3⟩ := h
  refine ⟨by simpa using h1, ?_, ?_⟩
  · intro i x hx
    rw [Array.getElem?_modify] at hx
    split at hx
    · simp only [Option.map_eq_some_iff] at hx
      obtain ⟨y, hy, rfl⟩ := hx
      rw [hf]; exact h2 i y hy
    · exact h2 i x hx
  · have e1 : (ents.modify j f).toList.map (·.key) = ents.toList.map (·.key) := by
      apply List.ext_getElem?
      intro i
      rw [List.getElem?_map, List.getElem?_map, Array.getElem?_toList, Array.getElem?_toList, Array.getElem?_modify]
      split
      · rename_i hij
        subst hij
        rw [hj]; simp [hk]
      · rfl
    rw [e1]; exact h3
theorem Sq.push {ents : Array MapEntry} {clock : Nat} (h : Sq ents clock) {k v : Value} (hk : ∀ x ∈ ents.toList, x.key ≠ k) : Sq (ents.push { key := k, val := v, born := clock }) (clock + 1) := by
  obtain ⟨h1, h2, h3⟩ := h
  refine ⟨by simp [h1], ?_, ?_⟩
  · intro i x hx
    rw [Array.getElem?_push] at hx
    split at hx
    · rename_i e; cases hx; simp [e, h1]
    · exact h2 i x hx
  · simp only [Array.toList_push, List.map_append, List.map_cons, List.map_nil]
    rw [List.nodup_append]
    refine ⟨h3, by simp, ?_⟩
    intro a ha b hb e
    simp only [List.mem_singleton] at hb
    subst hb e
    obtain ⟨x, hx, rfl⟩ := List.mem_map.1 ha
    exact hk x hx rfl
theorem modify_list {ents : Array MapEntry} {j : Nat} {e : MapEntry} (hj : ents[j]? = some e) (f : MapEntry → MapEntry) : (ents.modify j f).toList = ents.toList.set j (f e) := by
  apply List.ext_getElem?
  intro i
  rw [Array.getElem?_toList, Array.getElem?_modify, List.getElem?_set]
  have hlt := (Array.getElem?_eq_some_iff.1 hj).1
  split
  · rename_i hij; subst hij
    rw [hj]; simp [hlt]
  · rw [Array.getElem?_toList]
def setObjW (w : World) (b : Nat) (o : Obj) : World := { w with heap := w.heap.setIfInBounds b o }
theorem Sat.setObj {C : Ctx} {a : Act} {w : World} {S : Snap} {L : Nat → Option Nat} (hs : Sat C env H D a w S L) {i b : Nat} {x y : HObj} (h : H[i]? = some (b, x)) {o : Obj} (hy : Holds S y o) : Sat C env (H.set i (b, y)) D a (setObjW w b o) S L := by
  have hlt : b < w.heap.size := (hs.at_ h).lt
  exact hs.replace h (y := y) (w' := setObjW w b o) (o := o) (by simp [setObjW, hlt]) hy (by simp [setObjW]) (fun g hg => by
    show (w.heap.setIfInBounds b o)[g]? = w.heap[g]?
    rw [Array.getElem?_setIfInBounds, if_neg (fun e => hg e.symm)]) rfl rfl rfl
theorem not_at {S : Snap} {es : List (Value × AV)} {l : List MapEntry} (hm : RepM S es l) {k : Value} (h : ∀ e ∈ es, e.1 ≠ k) : ∀ x ∈ l, x.key ≠ k := by
  intro x hx
  obtain ⟨j, hj⟩ := List.mem_iff_getElem?.1 hx
  obtain ⟨p, hp, _⟩ := hm.get.2.2 j x hj
  exact h _ (List.mem_of_getElem? hp)
theorem Op1.mapup {T KK E : TypeId} {x i y : Operand} {ks : Value → Prop} (hK : KeyOK P KK ks) {b n : Nat} {es : List (Value × AV)} {q : AV} (hx : evO env x = .mo b) (hH : H[n]? = some (b, .map es)) {kv : Value}
    (hi : valOf (evO env i) = some kv) (hk : ks kv) (hks : ∀ e ∈ es, ks e.1) {o : Option (Nat × AV)} (ho : MAt es kv o) (hy : evO env y = q) (hq : q.isLin = false)
    (k : K (updO env dst .any) (H.set n (b, .map (mput es kv q o))) D) : Op1 P r N (.mapup T x i y KK E) dst env H D K := by
  intro op hdst hd hlo C a w S L hN hs next Q hnext
  obtain ⟨ob, hrow, ents, clock, rfl, hm, hsq⟩ := (hs.at_ hH).holds
  have hxv := hs.repO x hx rfl
  simp only [Rep] at hxv
  have hiv := valOf_rep hi (hs.repO i rfl (valOf_lin hi))
  have hyr := hs.repO y hy hq
  have hf := fun w => find_at hK hm hsq hks hk ho w
  have hc := fun w => hK.check kv hk false w
  have fin : ∀ ents' clock', (Instr.mapUpdate T (.map (some b)) kv (a.eval y)).run P w = .ok () (setObjW w b (.map ents' clock')) → Holds S (.map (mput es kv q o)) (.map ents' clock') → op.wpIn (Fw r) 0 P a w next Q := by
    intro ents' clock' hrun hh
    have hs1 := hs.setObj hH (y := .map (mput es kv q o)) hh
    obtain ⟨L', hs'⟩ := hs1.putO (dst := dst) (fun d e => hN ▸ hd d e) (p := .any) (y := undef) rfl (by simp [Rep])
    cases hlo with
    | mapup hop hT =>
      refine Oper.wpIn_skip (.mapup hop hT) (by simp) (w' := setObjW w b (.map ents' clock')) ?_ (by rw [hdst]; exact hnext _ _ _ _ _ _ _ k hs' (Snap.Le.refl _))
      rcases hop with hop | hop <;> simp [execOp, hop, hxv, hiv, hrun]
  cases hlo with
  | mapup hop hT =>
    cases ho with
    | none hne =>
      have hf := hf w
      simp only at hf
      refine fin (ents.push { key := kv, val := a.eval y, born := clock }) (clock + 1) ?_ ⟨_, _, rfl, ?_, hsq.push (not_at hm hne)⟩
      · simp [Instr.mapUpdate, underlying, hT, MapKept.run_getObj_map hrow, hc w, hf, MapKept.run_setObj_map _ hrow, setObjW]
      · rw [Array.toList_push]; exact hm.append rfl hyr
    | some hp =>
      rename_i j p
      obtain ⟨e, hf, hj, hek, _⟩ := hf w
      refine fin (ents.modify j fun e => { e with key := kv, val := a.eval y }) clock ?_ ⟨_, _, rfl, ?_, hsq.modify hj _ (fun _ => rfl) hek.symm⟩
      · simp [Instr.mapUpdate, underlying, hT, MapKept.run_getObj_map hrow, hc w, hf, MapKept.run_setObj_map _ hrow, setObjW, hj, hek, Instr.keyThatStays, hK.same kv hk]
      · rw [modify_list hj]; exact hm.set j rfl hyr
theorem Op1.mapent {T KK E : TypeId} {x i : Operand} {z : List Value} {ks : Value → Prop} (hK : KeyOK P KK ks) {zv : Value} (hz : (P.info? E).bind (·.zero) = some zv) {b n : Nat} {es : List (Value × AV)} (hx : evO env x = .mo b) (hH : H[n]? = some (b, .map es)) {kv : Value}
    (hi : valOf (evO env i) = some kv) (hk : ks kv) (hks : ∀ e ∈ es, ks e.1) {o : Option (Nat × AV)} (ho : MAt es kv o)
    (k : K (updO env dst (.tup [lkRes false (cv zv) o, .v (.int .i64 (mpos es o))])) (H.set n (b, .map (mput es kv (lkRes false (cv zv) o) o))) D) : Op1 P r N (.mapent T x i KK E z) dst env H D K := by
  intro op hdst hd hlo C a w S L hN hs next Q hnext
  obtain ⟨ob, hrow, ents, clock, rfl, hm, hsq⟩ := (hs.at_ hH).holds
  have hxv := hs.repO x hx rfl
  simp only [Rep] at hxv
  have hiv := valOf_rep hi (hs.repO i rfl (valOf_lin hi))
  have hf := fun w => find_at hK hm hsq hks hk ho w
  have hc := fun w => hK.check kv hk false w
  have fin : ∀ ents' clock' v, (Instr.mapEntry T (.map (some b)) kv).run P w = .ok (.tuple #[v, .int .i64 (mpos es o)]) (setObjW w b (.map ents' clock')) → Rep S (lkRes false (cv zv) o) v → Holds S (.map (mput es kv (lkRes false (cv zv) o) o)) (.map ents' clock') → op.wpIn (Fw r) 0 P a w next Q := by
    intro ents' clock' v hrun hv hh
    have hs1 := hs.setObj hH (y := .map (mput es kv (lkRes false (cv zv) o) o)) hh
    obtain ⟨L', hs'⟩ := hs1.putO (dst := dst) (fun d e => hN ▸ hd d e) (p := .tup [lkRes false (cv zv) o, .v (.int .i64 (mpos es o))]) (y := .tuple #[v, .int .i64 (mpos es o)]) rfl
      (by simp only [Rep]; exact ⟨[v, .int .i64 (mpos es o)], rfl, by simp only [RepL]; exact ⟨_, _, rfl, hv, _, _, rfl, by simp [Rep], rfl⟩⟩)
    cases hlo with
    | mapent hop hT hzo =>
      refine Oper.wpIn_value (.mapent hop hT hzo) (by simp) (w' := setObjW w b (.map ents' clock')) ?_ (by rw [hdst]; exact hnext _ _ _ _ _ _ _ k hs' (Snap.Le.refl _))
      simp [execOp, hop, hxv, hiv, hrun]
  cases hlo with
  | mapent hop hT hzo =>
    cases ho with
    | none hne =>
      have hf := hf w
      simp only at hf
      have hlen : (es.length : Int) = (clock : Int) := by rw [hsq.1, hm.get.1]; simp
      refine fin (ents.push { key := kv, val := zv, born := clock }) (clock + 1) zv ?_ (rep_cv S zv) ⟨_, _, rfl, ?_, hsq.push (not_at hm hne)⟩
      · simp [Instr.mapEntry, underlying, hT, MapKept.run_getObj_map hrow, hc w, hf, run_zero hz, MapKept.run_setObj_map _ hrow, setObjW, mpos, goInt, hlen]
      · rw [Array.toList_push]; exact hm.append rfl (rep_cv S zv)
    | some hp =>
      rename_i j p
      obtain ⟨e, hf, hj, hek, hr⟩ := hf w
      have hb := hsq.2.1 j e hj
      refine fin (ents.modify j fun e => { e with key := kv }) clock e.val ?_ hr ⟨_, _, rfl, ?_, hsq.modify hj _ (fun _ => rfl) hek.symm⟩
      · simp [Instr.mapEntry, underlying, hT, MapKept.run_getObj_map hrow, hc w, hf, MapKept.run_setObj_map _ hrow, setObjW, hj, hek, Instr.keyThatStays, hK.same kv hk, mpos, goInt, hb]
      · rw [modify_list hj]; exact hm.set j rfl hr
theorem Op1.entst {T : TypeId} {x s y : Operand} {b n j : Nat} {es : List (Value × AV)} {q p : AV} {kv : Value} (hx : evO env x = .mo b) (hH : H[n]? = some (b, .map es)) (hs0 : evO env s = .v (.int .i64 j)) (hj : es[j]? = some (kv, p))
    (hy : evO env y = q) (hq : q.isLin = false) (k : K (updO env dst .any) (H.set n (b, .map (es.set j (kv, q)))) D) : Op1 P r N (.entst T x s y) dst env H D K := by
  intro op hdst hd hlo C a w S L hN hs next Q hnext
  obtain ⟨ob, hrow, ents, clock, rfl, hm, hsq⟩ := (hs.at_ hH).holds
  have hxv := hs.repO x hx rfl
  simp only [Rep] at hxv
  have hsv := hs.int hs0
  have hyr := hs.repO y hy hq
  obtain ⟨e, he, hek, _⟩ := hm.get.2.1 _ _ _ hj
  have he' : ents[j]? = some e := by simpa using he
  have hlt := (Array.getElem?_eq_some_iff.1 he').1
  have hfi : ents.findIdx? (fun e => (e.born : Int) == (j : Int)) = some j := by
    rw [Array.findIdx?_eq_some_iff_getElem]
    refine ⟨hlt, ?_, ?_⟩
    · have := hsq.2.1 j ents[j] (by simp [hlt]); simp [this]
    · intro i hi
      have := hsq.2.1 i ents[i] (by simp [show i < ents.size by omega])
      simp [this]; omega
  have hs1 := hs.setObj hH (y := .map (es.set j (kv, q))) (o := .map (ents.modify j fun e => { e with val := a.eval y }) clock)
    ⟨_, _, rfl, by rw [modify_list he']; exact hm.set j hek hyr, hsq.modify he' _ (fun _ => rfl) rfl⟩
  obtain ⟨L', hs'⟩ := hs1.putO (dst := dst) (fun d e => hN ▸ hd d e) (p := .any) (y := undef) rfl (by simp [Rep])
  cases hlo with
  | entst hop =>
    refine Oper.wpIn_skip (.entst hop) (by simp) (w' := setObjW w b (.map (ents.modify j fun e => { e with val := a.eval y }) clock)) ?_ (by rw [hdst]; exact hnext _ _ _ _ _ _ _ k hs' (Snap.Le.refl _))
    simp [execOp, hop, Instr.entryStore, hxv, hsv, asInt, asIntOf, MapKept.run_getObj_map hrow, hfi, MapKept.run_setObj_map _ hrow, setObjW]
end
end Go.Px

namespace Go.Px
section
variable {P : Program} {r : Option Nat} {N : Nat} {env : Env} {H : Heap} {D : List Nat} {dst : Option Nat} {K : Env → Heap → List Nat → Prop} {Q : Post}
theorem Sq.born_nodup {ents : Array MapEntry} {clock : Nat} (h : Sq ents clock) : (ents.toList.map (·.born)).Nodup := by
  have e : ents.toList.map (·.born) = List.range ents.size := by
    apply List.ext_getElem?
    intro i
    rw [List.getElem?_map]
    by_cases hi : i < ents.size
    · have h1 := h.2.1 i ents[i] (by simp [hi])
      simp [hi, h1]
    · simp [hi]
  rw [e]
  exact List.nodup_range
theorem Op1.rangeM {T d : Nat} {x : Operand} {es : List (Value × AV)} (hx : evO env x = .mi es) (k : ∀ b m, K (upd env d (.po b 0)) ((b, .miter m es []) :: H) D) : Op1 P r N (.range T x false) (some d) env H D K := by
  intro o hdst hd hlo C a w S L hN hs next Q hnext
  have hxv := hs.repO x hx rfl
  simp only [Rep] at hxv
  obtain ⟨m, ents, clock, hxv, hmap, hm, hsq⟩ := hxv
  have hrow := hs.sin.map _ _ hmap
  have hs1 := hs.alloc (x := .miter m es []) (o := .mapIter (some m) clock #[] clock) ⟨ents, clock, #[], rfl, hmap, hm, hsq, rfl⟩
  have hs2 := hs1.put (d := d) (Nat.lt_of_lt_of_le (hN ▸ hd d rfl) hs.size) (p := .po w.heap.size 0) (y := .pointer (some ⟨w.heap.size, 0, none⟩)) rfl (by simp [Rep])
  generalize hst : false = st at hlo
  cases hlo with
  | rangeS hop hT => cases hst
  | rangeM hop hT =>
    refine Oper.wpIn_value (.rangeM hop hT) (by simp) (y := .pointer (some ⟨w.heap.size, 0, none⟩)) (w' := w.alloc (.mapIter (some m) clock #[] clock)) ?_ (by rw [hdst]; exact hnext _ _ _ _ _ _ _ (k _ _) hs2 (Snap.Le.refl _))
    simp [execOp, hop, Instr.range, underlying, hT, hxv, getObj, hrow, newObj, Sem.run]
theorem Op1.nextM {ty : TypeId} {x : Operand} {b i m : Nat} {es : List (Value × AV)} {seen : List Nat} (hx : evO env x = .po b 0) (hH : H[i]? = some (b, .miter m es seen))
    (h1 : ∀ (j : Nat) (kv : Value) (p : AV), j ∉ seen → es[j]? = some (kv, p) → K (updO env dst (.tup [B true, cv kv, p])) (H.set i (b, .miter m es (seen ++ [j]))) D)
    (h2 : (∀ j, j < es.length → j ∈ seen) → K (updO env dst (.tup [B false])) H D) : Op1 P r N (.next x false ty) dst env H D K := by
  intro o hdst hd hlo C a w S L hN hs next Q hnext
  obtain ⟨ob, hrow, ents, clock, sn, rfl, hmap, hm, hsq, hsn⟩ := (hs.at_ hH).holds
  have hv := hs.repO x hx rfl
  simp only [Rep] at hv
  have hmrow := hs.sin.map _ _ hmap
  have hborn : ∀ y ∈ ents.toList, y.born < clock := by
    intro y hy
    obtain ⟨j, hj⟩ := List.mem_iff_getElem?.1 hy
    have := hsq.2.1 j y (by simpa using hj)
    have hlt := get_lt hj
    rw [this, hsq.1]; simpa using hlt
  generalize hst : false = st at hlo
  cases hlo with
  | next hop =>
    subst hst
    rcases run_next_at (P := P) w o.type b m clock clock sn ents clock hrow hmrow hborn (Nat.le_refl _) with ⟨h0, hrun⟩ | ⟨e, he, w1, hw1, hrun⟩
    · obtain ⟨L', hs'⟩ := hs.putO (dst := dst) (fun d e => hN ▸ hd d e) (p := .tup [B false]) (y := .tuple #[.bool false]) rfl (by simp only [Rep]; exact ⟨[.bool false], rfl, by simp [RepL, Rep]⟩)
      have hall : ∀ j, j < es.length → j ∈ seen := by
        intro j hj
        have hj' : j < ents.size := by rw [hm.get.1] at hj; simpa using hj
        have hE : leftOf ents sn = #[] := Array.eq_empty_of_size_eq_zero h0
        unfold leftOf at hE
        rw [Array.filter_eq_empty_iff] at hE
        have h3 := hE ents[j] (by simp)
        have hb := hsq.2.1 j ents[j] (by simp [hj'])
        rw [hb] at h3
        simp only [Bool.not_eq_true', Bool.not_eq_false] at h3
        have : j ∈ sn := by simpa using h3
        rw [← hsn]; simpa using this
      exact Oper.wpIn_value (.next hop) (by simp) (y := .tuple #[.bool false]) (w' := w) (by simp [execOp, hop, hv, hrun]) (by rw [hdst]; exact hnext _ _ _ _ _ _ _ (h2 hall) hs' (Snap.Le.refl _))
    · have he' : e ∈ ents.toList ∧ e.born ∉ sn := by
        unfold leftOf at he
        simp at he
        exact ⟨by simpa using he.1, he.2⟩
      obtain ⟨j, hj⟩ := List.mem_iff_getElem?.1 he'.1
      have hbj := hsq.2.1 j e (by simpa using hj)
      obtain ⟨p, hp, hr⟩ := hm.get.2.2 j e hj
      have hnot : j ∉ seen := by
        rw [← hsn]; intro hh; exact he'.2 (by rw [hbj]; simpa using hh)
      have hsw : Sat C env H D a w1 S L := by
        rcases hw1 with rfl | rfl
        · exact hs
        · exact hs.grow ⟨rfl, rfl, rfl, Nat.le_refl _, fun _ _ => rfl⟩
      have hs1 := hsw.setObj hH (y := .miter m es (seen ++ [j])) (o := .mapIter (some m) clock (sn.push e.born) clock) ⟨ents, clock, sn.push e.born, rfl, hmap, hm, hsq, by rw [Array.toList_push, hsn, hbj]⟩
      obtain ⟨L', hs'⟩ := hs1.putO (dst := dst) (fun d e => hN ▸ hd d e) (p := .tup [B true, cv e.key, p]) (y := .tuple #[.bool true, e.key, e.val]) rfl
        (by simp only [Rep]; exact ⟨[.bool true, e.key, e.val], rfl, by simp only [RepL]; exact ⟨_, _, rfl, by simp [Rep], _, _, rfl, rep_cv S _, _, _, rfl, hr, rfl⟩⟩)
      exact Oper.wpIn_value (.next hop) (by simp) (y := .tuple #[.bool true, e.key, e.val]) (w' := setObjW w1 b (.mapIter (some m) clock (sn.push e.born) clock)) (by simp [execOp, hop, hv, hrun, setObjW, ChangeMaps.setBlock])
        (by rw [hdst]; exact hnext _ _ _ _ _ _ _ (h1 j e.key p hnot hp) hs' (Snap.Le.refl _))
theorem Op1.entry {x : Operand} {b i m j : Nat} {es : List (Value × AV)} {seen : List Nat} {kv : Value} {p : AV} (hx : evO env x = .po b 0) (hH : H[i]? = some (b, .miter m es (seen ++ [j]))) (hj : es[j]? = some (kv, p))
    (k : K (updO env dst (.tup [cv kv, p])) H D) : Op1 P r N (.entry x) dst env H D K := by
  intro o hdst hd hlo C a w S L hN hs next Q hnext
  obtain ⟨ob, hrow, ents, clock, sn, rfl, hmap, hm, hsq, hsn⟩ := (hs.at_ hH).holds
  have hv := hs.repO x hx rfl
  simp only [Rep] at hv
  have hmrow := hs.sin.map _ _ hmap
  obtain ⟨e, he, hek, hr⟩ := hm.get.2.1 _ _ _ hj
  have hbj := hsq.2.1 j e (by simpa using he)
  have hsn' : sn = (seen.toArray).push e.born := by
    apply Array.toList_inj.1
    rw [hsn, Array.toList_push, hbj]
  rw [hsn'] at hrow
  have hrun := run_entry_at (P := P) w b m clock seen.toArray ents clock e hrow hmrow (List.mem_of_getElem? he) hsq.born_nodup
  obtain ⟨L', hs'⟩ := hs.putO (dst := dst) (fun d e => hN ▸ hd d e) (p := .tup [cv kv, p]) (y := .tuple #[e.key, e.val]) rfl
    (by simp only [Rep]; exact ⟨[e.key, e.val], rfl, by simp only [RepL]; exact ⟨_, _, rfl, by rw [← hek]; exact rep_cv S _, _, _, rfl, hr, rfl⟩⟩)
  cases hlo with
  | entry hop =>
    exact Oper.wpIn_value (.entry hop) (by simp) (y := .tuple #[e.key, e.val]) (w' := w) (by simp [execOp, hop, hv, hrun]) (by rw [hdst]; exact hnext _ _ _ _ _ _ _ k hs' (Snap.Le.refl _))
def Snap.addMap (S : Snap) (b : Nat) (m : Array MapEntry × Nat) : Snap := ⟨S.cell, fun b' => if b' = b then some m else S.map b'⟩
def subM (b : Nat) (es : List (Value × AV)) : AV → AV
  | .mo b' => if b' = b then .mi es else .mo b'
  | p => p
theorem Sat.freezeMap {C : Ctx} {a : Act} {w : World} {S : Snap} {L : Nat → Option Nat} (hs : Sat C env H D a w S L) {i b : Nat} {es : List (Value × AV)} (hH : H[i]? = some (b, .map es)) :
    ∃ S' ents clock, S.Le S' ∧ S'.map b = some (ents, clock) ∧ RepM S' es ents.toList ∧ Sq ents clock ∧ Sat C env (H.eraseIdx i) D a w S' L := by
  obtain ⟨ob, hrow, ents, clock, rfl, hm, hsq⟩ := (hs.at_ hH).holds
  have hle : S.Le (S.addMap b (ents, clock)) := ⟨fun _ _ _ h => h, fun b' m h => by
    show (if b' = b then some (ents, clock) else S.map b') = some m
    split
    · rename_i e
      subst e
      exact absurd (.inr ⟨m, h⟩) (hs.at_ hH).apart
    · exact h⟩
  have hhas : ∀ b', (S.addMap b (ents, clock)).has b' → S.has b' ∨ b' = b := by
    rintro b' (⟨o, v, h⟩ | ⟨m, h⟩)
    · exact .inl (.inl ⟨o, v, h⟩)
    · have h : (if b' = b then some (ents, clock) else S.map b') = some m := h
      split at h
      · rename_i e; exact .inr e
      · exact .inl (.inr ⟨m, h⟩)
  refine ⟨_, ents, clock, hle, by simp [Snap.addMap], RepM.mono hle _ _ hm, hsq, ?_⟩
  have hap := hs.apart_erase hH
  have hbH : b ∈ (H ++ C.F).map (·.1) := by
    rw [List.map_append, List.mem_append]
    exact .inl (List.mem_map.2 ⟨_, List.mem_of_getElem? hH, rfl⟩)
  refine (hs.drop i).snap hle ⟨fun b' o v h => hs.sin.cell b' o v h, fun b' m h => ?_⟩ (fun b' h => (hhas b' h).imp id (fun e => by rw [e]; exact (hs.at_ hH).base)) ?_ ?_
  · have h : (if b' = b then some (ents, clock) else S.map b') = some m := h
    split at h
    · rename_i e; simp only [Option.some.injEq] at h; subst h; rw [e]; exact hrow
    · exact hs.sin.map b' m h
  · intro e he hh
    rcases hhas _ hh with h | h
    · rcases List.mem_append.1 he with he' | he'
      · exact (hs.heap e (List.mem_of_mem_eraseIdx he')).apart h
      · exact (hs.frame e he').apart h
    · exact hap e he h
  · intro t b' e hh
    rcases hhas _ hh with h | h
    · exact hs.L_apart e h
    · exact hs.lin t b' e (h ▸ hbH)
theorem RepC.subM {S : Snap} {b : Nat} {es : List (Value × AV)} {ents : Array MapEntry} {clock : Nat} (hm : S.map b = some (ents, clock)) (hr : RepM S es ents.toList) (hsq : Sq ents clock) : ∀ {cs : List AV} {g o : Nat}, RepC S cs g o → RepC S (cs.map (subM b es)) g o
  | [], g, o, h => by simp [RepC]
  | a :: cs, g, o, h => by
    simp only [RepC] at h
    simp only [List.map_cons, RepC]
    refine ⟨?_, RepC.subM hm hr hsq h.2⟩
    obtain ⟨c, h1, h2, h3⟩ := h.1
    refine ⟨c, h1, h2, ?_⟩
    cases a <;> simp only [Px.subM] <;> try exact h3
    rename_i b'
    split
    · rename_i e
      subst e
      simp only [Rep] at h3 ⊢
      exact ⟨_, ents, clock, h3, hm, hr, hsq⟩
    · exact h3
theorem Ent.freezeMap {i t b : Nat} {es : List (Value × AV)} {cs : List AV} (ht : env t = .pi cs) (hH : H[i]? = some (b, .map es)) : Ent env H D (upd env t (.pi (cs.map (subM b es)))) (H.eraseIdx i) D := by
  intro C a w S L hs
  obtain ⟨S', ents, clock, hle, hmap, hr, hsq, hs'⟩ := hs.freezeMap hH
  have hv := hs'.rep ht rfl
  simp only [Rep] at hv
  obtain ⟨g, o, hv, hc⟩ := hv
  exact ⟨S', _, hle, hs'.reenv (t := t) rfl (by simp only [Rep]; exact ⟨g, o, hv, RepC.subM hmap hr hsq hc⟩)⟩
end
end Go.Px

namespace Go.Px
def WideKey (P : Program) (D : Nat) (K : TypeId) (k : Value) : Prop := k.formed P K = true ∧ ∃ L, P.keyLits D K k.cells.toList = some L
def isWide (P : Program) (K : TypeId) : Bool := match P.underlying K with | some (.array _ _) | some (.struct _) => true | _ => false
theorem sameBits_cell (n : Nat) (l : Lit) : Instr.sameBits n l.toCell l.toCell = true := by
  cases l <;> simp [Lit.toCell, Instr.sameBits]
  exact (MapKept.bytes_beq _ _).2 rfl
section
variable {P : Program} {K : TypeId} {m : Nat}
theorem wide_agg (hw : isWide P K = true) {k : Value} (h : k.formed P K = true) : ∃ xs, k = .agg xs := by
  unfold isWide at hw
  cases hu : P.underlying K with
  | none => rw [hu] at hw; cases hw
  | some d =>
    rw [hu] at hw
    cases k <;> simp only [Value.formed, hu] at h
    case agg xs => exact ⟨xs, rfl⟩
    all_goals (exfalso; cases d <;> simp at hw h)
theorem wide_inj (hw : isWide P K = true) (ht : P.tiled m K = true) {x y : Value} {D : Nat} {lx ly : List Lit} (fx : x.formed P K = true) (fy : y.formed P K = true) (hx : P.keyLits D K x.cells.toList = some lx) (hy : P.keyLits D K y.cells.toList = some ly) :
    lx = ly ↔ x = y := by
  obtain ⟨xs, rfl⟩ := wide_agg hw fx
  obtain ⟨ys, rfl⟩ := wide_agg hw fy
  have ex := cells_of_lits m K ht D _ _ hx
  have ey := cells_of_lits m K ht D _ _ hy
  constructor
  · intro e
    rw [← e, ← ex] at ey
    simp only [Value.cells] at ey
    rw [Array.toList_inj.1 ey]
  · intro e
    cases e
    rw [hx] at hy
    exact Option.some.inj hy
theorem KeyOK.wide {D : Nat} (hm : m ≤ 10000) (hw : isWide P K = true) (hk : P.keyTypeAt m K = true) (ht : P.tiled m K = true) : KeyOK P K (WideKey P D K) where
  check := by
    rintro k ⟨fk, L, hL⟩ em w
    have := run_checkKey_deep (P := P) em (10000 - m) m K hk w D k L fk hL
    rwa [show 10000 - m + m = 10000 by omega] at this
  same := by
    rintro k ⟨fk, L, hL⟩
    obtain ⟨xs, rfl⟩ := wide_agg hw fk
    have ex := cells_of_lits m K ht D _ _ hL
    simp only [Value.cells] at ex
    show Instr.sameBits (9999 + 1) (.agg xs) (.agg xs) = true
    simp only [Instr.sameBits, beq_self_eq_true, Bool.true_and, List.all_eq_true]
    rintro ⟨a, b⟩ hab
    rw [ex] at hab
    have hz : ∀ (l : List Value) (p : Value × Value), p ∈ l.zip l → p.1 = p.2 ∧ p.1 ∈ l := by
      intro l
      induction l with
      | nil => intro p hp; simp at hp
      | cons c l ih =>
        intro p hp
        simp only [List.zip_cons_cons, List.mem_cons] at hp
        rcases hp with rfl | hp
        · exact ⟨rfl, by simp⟩
        · exact ⟨(ih p hp).1, List.mem_cons_of_mem _ (ih p hp).2⟩
    obtain ⟨h1, h2⟩ := hz _ _ hab
    simp only at h1 h2
    subst h1
    obtain ⟨lit, _, rfl⟩ := List.mem_map.1 h2
    exact sameBits_cell _ lit
  find := by
    intro k l hk1 hl w
    rw [run_findKey_eq w hw]
    have go : ∀ (l : List MapEntry) (i : Nat), (∀ x ∈ l, WideKey P D K x.key) → ((Instr.findAsking K k l i).run P w = .ok none w ∧ ∀ x ∈ l, x.key ≠ k) ∨
        ∃ j e, (Instr.findAsking K k l i).run P w = .ok (some (i + j, e.val)) w ∧ l[j]? = some e ∧ e.key = k := by
      intro l
      induction l with
      | nil => intro i _; exact .inl ⟨by simp [Instr.findAsking], by simp⟩
      | cons e l ih =>
        intro i hl
        obtain ⟨fk, L, hL⟩ := hk1
        obtain ⟨fe, L', hL'⟩ := hl e (by simp)
        obtain ⟨r, hr, hiff⟩ := run_equalIn_deep (P := P) (10000 - m) m K hk w D D k e.key L L' fk fe hL hL'
        rw [show 10000 - m + m = 10000 by omega] at hr
        rw [wide_inj hw ht fk fe hL hL'] at hiff
        cases r with
        | true =>
          refine .inr ⟨0, e, ?_, rfl, (hiff.1 rfl).symm⟩
          simp [Instr.findAsking, Op.equal, Op.maxDepth, hr]
        | false =>
          have hne : e.key ≠ k := fun e => by have := hiff.2 e.symm; cases this
          rcases ih (i + 1) (fun x hx => hl x (by simp [hx])) with ⟨h1, h2⟩ | ⟨j, e', h1, h2, h3⟩
          · refine .inl ⟨by simp [Instr.findAsking, Op.equal, Op.maxDepth, hr, h1], ?_⟩
            intro x hx
            rcases List.mem_cons.1 hx with rfl | hx
            · exact hne
            · exact h2 x hx
          · exact .inr ⟨j + 1, e', by simp [Instr.findAsking, Op.equal, Op.maxDepth, hr, h1]; omega, by simpa using h2, h3⟩
    rcases go l 0 hl with h | ⟨j, e, h1, h2, h3⟩
    · exact .inl h
    · exact .inr ⟨j, e, by simpa using h1, h2, h3⟩
end
end Go.Px

namespace Go.Px
section
variable {P : Program} {r : Option Nat} {N : Nat} {env : Env} {H : Heap} {D : List Nat} {dst : Option Nat} {K : Env → Heap → List Nat → Prop} {Q : Post}
theorem Op1.eqT {neg : Bool} {T : TypeId} {x y : Operand} {m DD : Nat} (hm : m ≤ 10000) (hw : isWide P T = true) (hk : P.keyTypeAt m T = true) (ht : P.tiled m T = true) (hg : P.eqGuardType P.depth T = false) {u v : Value}
    (hx : valOf (evO env x) = some u) (hy : valOf (evO env y) = some v) (hu : WideKey P DD T u) (hv : WideKey P DD T v) (b : Bool) (hb : b = true ↔ u = v) (k : K (updO env dst (.v (.bool (if neg = true then !b else b)))) H D) :
    Op1 P r N (.eqT neg T x y) dst env H D K :=
  Op1.pure rfl (by simp) (fun o hlo C a w S L hs => ⟨.bool (if neg = true then !b else b), by
    have hxv := valOf_rep hx (hs.repO x rfl (valOf_lin hx))
    have hyv := valOf_rep hy (hs.repO y rfl (valOf_lin hy))
    obtain ⟨fu, lu, hlu⟩ := hu
    obtain ⟨fv, lv, hlv⟩ := hv
    obtain ⟨rr, hr, hiff⟩ := run_equalIn_deep (P := P) (10000 - m) m T hk w DD DD u v lu lv fu fv hlu hlv
    rw [show 10000 - m + m = 10000 by omega] at hr
    rw [wide_inj hw ht fu fv hlu hlv] at hiff
    have hrb : rr = b := by rw [Bool.eq_iff_iff, hiff, hb]
    subst hrb
    obtain ⟨xs, rfl⟩ := wide_agg hw fu
    obtain ⟨ys, rfl⟩ := wide_agg hw fv
    have he : (Op.equal T (.agg xs) (.agg ys)).run P w = .ok rr w := hr
    cases hlo with
    | eqT hop hT =>
      cases neg <;> simp [execOp, hop, hxv, hyv, eqGuard, hg, binOp, he], by simp [Rep]⟩) k
end
end Go.Px

namespace Go.Px
section
variable {P : Program} {r : Option Nat} {N : Nat} {env : Env} {H : Heap} {D : List Nat} {Q : Post}
theorem WOps.xAppend {gs : List (Nat × Bool)} : ∀ {l1 l2 : List LOper} {hs : List Hint} {env env' : Env} {hs' : List Hint} {ob : Prop}, xrun P gs H l1 hs env = (env', [], hs', ob) → ob → WOps P r N l2 Q env' H D → WOps P r N (l1 ++ l2) Q env H D
  | [], l2, hs, env, env', hs', ob, h, o, k => by
    simp only [xrun, Prod.mk.injEq] at h
    obtain ⟨rfl, _, rfl, rfl⟩ := h
    exact k
  | l :: ls, l2, hs, env, env', hs', ob, h, o, k => by
    simp only [xrun] at h
    split at h
    · rename_i W hs1 ob1 hx
      obtain ⟨⟨e, rest, h2, o2⟩, hr⟩ : ∃ q, xrun P gs H ls hs1 (updL env W) = q := ⟨_, rfl⟩
      rw [hr] at h
      have h : (e, rest, h2, andP ob1 o2) = (env', [], hs', ob) := by cases ob1 <;> exact h
      simp only [Prod.mk.injEq] at h
      obtain ⟨rfl, rfl, rfl, rfl⟩ := h
      obtain ⟨oa, ob'⟩ := andP_ok o
      exact WOps.qstep (xoper_ok hx oa).1 (WOps.xAppend hr ob' k)
    · simp only [Prod.mk.injEq] at h
      obtain ⟨_, h, _⟩ := h
      cases h
theorem Ent.ofH {H' : Heap} (h : H = H') : Ent env H D env H' D := h ▸ Ent.refl env H D
theorem WOps.xn {gs : List (Nat × Bool)} (n : Nat) {ls ls2 : List LOper} {hs hs' : List Hint} {env' : Env} {ob : Prop} (h : xrun P gs H (ls.take n) hs env = (env', [], hs', ob)) (h2 : ls.drop n = ls2) (o : ob) (k : WOps P r N ls2 Q env' H D) : WOps P r N ls Q env H D := by
  subst h2
  have := WOps.xAppend (l2 := ls.drop n) h o k
  rwa [List.take_append_drop] at this
theorem EvR.mono {f : FuncId} {args : List AV} {Hin : Heap} {R R' : AV → Heap → Prop} (h : EvR P f args Hin R) (k : ∀ r Ho, R r Ho → R' r Ho) : EvR P f args Hin R' :=
  ⟨h.1, fun S w vs h1 h2 h3 h4 => (h.2 S w vs h1 h2 h3 h4).mono (by
    rintro e w' ⟨v, S', g, res, Hout, he, hR, hrest⟩
    exact ⟨v, S', g, res, Hout, he, k _ _ hR, hrest⟩)⟩
theorem DChG.x {Hs : Bool → Heap} {q i : Nat} {l : LOper} {pr : List Nat} {rest : List (LOper × List Nat)} {infos : List InfoG} {suf : List LOper} {env' : Env} {W : List (Nat × AV)} (hs : List Hint) {hs' hs'' : List Hint} {ob ob1 : Option Prop} (hi : i ≠ q)
    (h : xoper P [] (Hs false) hs l (only (footOf l) env) = some (W, hs', ob)) (h1 : xoper P [] (Hs true) hs l (only (footOf l) env) = some (W, hs'', ob1)) (hk : subB (keysOf W) (footOf l) = true) (o : obP ob) (o1 : obP ob1)
    (k : DChG P r N Hs q D (i + 1) (updL env W) rest infos suf env') : DChG P r N Hs q D i env ((l, pr) :: rest) ((footOf l, keysOf W, true, true) :: infos) suf env' :=
  .cons (footOf l) true true hi (fun _ => (xoper_ok h o).1) (fun _ => (xoper_ok h1 o1).1) hk (xoper_ok (r := r) (N := N) (D := D) h o).2 k
end
end Go.Px

namespace Go.Px
section
variable {P : Program} {r : Option Nat} {N : Nat} {env : Env} {H : Heap} {D : List Nat} {dst : Option Nat} {K : Env → Heap → List Nat → Prop} {Q : Post}
theorem Op1.copyA {T U ty E : TypeId} {x y : Operand} {b i cap T' : Nat} {es ys : List (List AV)} (hx : evO env x = .so b es.length cap) (hH : H[i]? = some (b, .arr T' 1 cap es)) (hy : evO env y = .sl 1 ys)
    (k : K (updO env dst (.v (.int .i64 (min ys.length es.length : Nat)))) (H.set i (b, .arr T' 1 cap (ys.take (min ys.length es.length) ++ es.drop (min ys.length es.length)))) D) : Op1 P r N (.copy T U ty x y E 1) dst env H D K := by
  intro o hdst hd hlo C a w S L hN hs next Q hnext
  obtain ⟨cur, hrow, c1, c2, c3, c4, c5, c6⟩ := (hs.at_ hH).arr
  rw [Nat.mul_one] at c1 c5 c6
  have hv := hs.repO x hx rfl
  simp only [Rep] at hv
  have hyr := hs.repO y hy rfl
  generalize hone : (1 : Nat) = one at hlo
  cases hlo with
  | copy hop hT hj =>
    rename_i j
    have hsz : (P.info? E).map (·.size) = some 1 := by rw [hj]; simp [hone]
    have fin : ∀ (w' : World), (Builtin.copy_ #[T, U] o.type #[a.eval x, a.eval y]).run P w = .ok (goInt (min ys.length es.length : Nat)) w' →
        (∃ L', Sat C (updO env dst (.v (.int .i64 (min ys.length es.length : Nat)))) (H.set i (b, .arr T' 1 cap (ys.take (min ys.length es.length) ++ es.drop (min ys.length es.length)))) D (a.put dst (goInt (min ys.length es.length : Nat))) w' S L') → o.wpIn (Fw r) 0 P a w next Q := by
      rintro w' hrun ⟨L', hs'⟩
      refine Oper.wpIn_value (.copy hop hT hj) (by simp) (y := goInt (min ys.length es.length : Nat)) (w' := w') ?_ (by rw [hdst]; exact hnext _ _ _ _ _ _ _ k hs' (Snap.Le.refl _))
      simp [execOp, hop, resolve, invoke, builtin, hrun]
    have hflat : ∀ zs : List (List AV), (∀ e ∈ zs, e.length = 1) → ∀ n, (zs.take n).flatten = zs.flatten.take n ∧ (zs.drop n).flatten = zs.flatten.drop n := by
      intro zs
      induction zs with
      | nil => intro _ n; simp
      | cons z zs ih =>
        intro hz n
        have h1 := hz z (by simp)
        match z, h1 with
        | [c], _ =>
          cases n with
          | zero => simp
          | succ n =>
            obtain ⟨i1, i2⟩ := ih (fun e he => hz e (by simp [he])) n
            simp [i1, i2]
    rcases sl_cells hs.sin hyr with ⟨⟨ady, hyv⟩, rfl⟩ | ⟨ad, cp, news, hyv, hnl, hnr, hnc, hn1, hyk⟩
    · simp only [List.length_nil, Nat.zero_min, List.take_nil, List.drop_zero, List.nil_append] at fin
      have hset : H.set i (b, .arr T' 1 cap es) = H := by
        apply List.ext_getElem?
        intro n
        rw [List.getElem?_set]
        split
        · rename_i e; subst e
          rw [hH, if_pos (get_lt hH)]
        · rfl
      rw [hset] at fin
      refine fin w ?_ ?_
      · rw [hv, hyv]
        exact run_copy_none w T U o.type E _ _ es.length cap 0 0 hT hsz (by simp)
      · exact hs.putO (dst := dst) (fun d e => hN ▸ hd d e) rfl (by simp [Rep, goInt])
    · rw [Nat.mul_one] at hnl
      generalize hmm : min ys.length es.length = m at fin
      have hm1 : m ≤ ys.length := by omega
      have hm2 : m ≤ es.length := by omega
      have hm : (news.take m).length = m := by rw [List.length_take, hnl]; omega
      have hst := run_copy_row (P := P) w T U o.type E b 0 es.length cap ad ys.length cp cur.toArray T' (news.take m) hT hsz hrow (by rw [hm, ← hmm]) (fun j u hju => by
        rw [List.getElem?_take] at hju
        split at hju
        · exact hnc j u hju
        · cases hju) (by rw [hm, List.size_toArray, c1]; omega) (fun u hu => hn1 u (List.mem_of_mem_take hu))
      rw [hm] at hst
      have hcur : (cur.take es.length).length = es.length := by rw [List.length_take, c1]; omega
      have hlen : (ys.take m ++ es.drop m).length = es.length := by simp; omega
      have hs1 := hs.replace hH (y := .arr T' 1 cap (ys.take m ++ es.drop m)) (w' := w.setRow b (cur.toArray.toList.take 0 ++ news.take m ++ cur.toArray.toList.drop (0 + m)).toArray)
        (setRow_heap w b _ _ _ _ hrow)
        (by
          refine ⟨_, rfl, ?_, by rw [hlen]; exact c2, c3, ?_, ?_, ?_⟩
          · simp only [List.take_zero, List.nil_append, Nat.zero_add, List.length_append, hm, List.length_drop, c1, Nat.mul_one]; omega
          · intro e he
            rcases List.mem_append.1 he with he | he
            · exact hyk e (List.mem_of_mem_take he)
            · exact c4 e (List.mem_of_mem_drop he)
          · rw [hlen, Nat.mul_one]
            have e1 : (([] : List Value) ++ news.take m ++ cur.drop m).take es.length = news.take m ++ (cur.take es.length).drop m := by
              rw [List.nil_append, List.take_append, hm, List.take_of_length_le (by omega), List.drop_take]
            simp only [List.take_zero, Nat.zero_add]
            rw [e1, List.flatten_append, (hflat ys hyk m).1, (hflat es c4 m).2]
            exact (hnr.take m).append (c5.drop m)
          · rw [hlen, Nat.mul_one]
            have e1 : (([] : List Value) ++ news.take m ++ cur.drop m).take es.length = news.take m ++ (cur.take es.length).drop m := by
              rw [List.nil_append, List.take_append, hm, List.take_of_length_le (by omega), List.drop_take]
            simp only [List.take_zero, Nat.zero_add]
            rw [e1]
            intro c hc
            rcases List.mem_append.1 hc with hc | hc
            · exact hn1 c (List.mem_of_mem_take hc)
            · exact c6 c (List.mem_of_mem_drop hc))
        (setRow_size _ _ _) (fun g hg => setRow_other w b g _ hg) rfl rfl rfl
      refine fin _ (by rw [hv, hyv]; exact hst) ?_
      exact hs1.putO (dst := dst) (fun d e => hN ▸ hd d e) rfl (by simp [Rep, goInt])
end
end Go.Px

namespace Go.Px
theorem flatten_set {kk : Nat} : ∀ {es : List (List AV)} {m f : Nat} {e q : List AV}, (∀ e ∈ es, e.length = kk) → es[m]? = some e → f + q.length ≤ kk → (es.set m (setSeg e f q)).flatten = setSeg es.flatten (m * kk + f) q
  | [], m, f, e, q, _, h, _ => by simp at h
  | e0 :: es, 0, f, e, q, hk, h, hf => by
    simp only [List.getElem?_cons_zero, Option.some.injEq] at h
    subst h
    have h0 := hk e0 (by simp)
    simp only [List.set_cons_zero, List.flatten_cons, Nat.zero_mul, Nat.zero_add, setSeg]
    rw [List.take_append_of_le_length (by omega), List.drop_append_of_le_length (by omega)]
    simp [List.append_assoc]
  | e0 :: es, m + 1, f, e, q, hk, h, hf => by
    simp only [List.getElem?_cons_succ] at h
    have h0 := hk e0 (by simp)
    have ih := flatten_set (es := es) (m := m) (f := f) (e := e) (q := q) (fun e he => hk e (by simp [he])) h hf
    simp only [List.set_cons_succ, List.flatten_cons]
    rw [ih]
    simp only [setSeg]
    have e1 : (m + 1) * kk + f = e0.length + (m * kk + f) := by rw [Nat.add_mul, h0]; omega
    rw [e1, List.take_length_add_append, Nat.add_assoc e0.length, List.drop_length_add_append]
    simp [List.append_assoc]
theorem setSeg_length {e q : List AV} {f : Nat} (h : f + q.length ≤ e.length) : (setSeg e f q).length = e.length := by
  simp only [setSeg, List.length_append, List.length_take, List.length_drop]; omega
section
variable {P : Program} {r : Option Nat} {N : Nat} {env : Env} {H : Heap} {D : List Nat} {dst : Option Nat} {K : Env → Heap → List Nat → Prop} {Q : Post}
theorem Op1.storeE {T T' : TypeId} {x y : Operand} {n i b off kk cap m f : Nat} {es : List (List AV)} {e : List AV} {q : AV} (hx : evO env x = .po b off) (hH : H[i]? = some (b, .arr T' kk cap es)) (hoff : off = m * kk + f) (he : es[m]? = some e)
    (hy : evO env y = q) (hq : q.isAggOrCell = true) (hql : (cellsAV q).length = n) (hqc : (cellsAV q).all AV.isCell = true) (hfit : f + n ≤ kk)
    (k : K (updO env dst .any) (H.set i (b, .arr T' kk cap (es.set m (setSeg e f (cellsAV q))))) D) : Op1 P r N (.store T x y n) dst env H D K := by
  intro o hdst hd hlo C a w S L hN hs next Q hnext
  obtain ⟨cur, hrow, hc1, hc2, hc3, hk, hr, h1⟩ := (hs.at_ hH).arr
  have hv := hs.repO x hx rfl
  simp only [Rep] at hv
  have hqr : Rep S q (a.eval y) := hs.repO y hy (by cases q <;> simp_all [AV.isAggOrCell, AV.isCell, AV.isLin])
  have hqcells := hqr.cells hq
  have hone := hqcells.oneCells hqc
  have hlen : (a.eval y).cells.toList.length = n := by rw [hqcells.length, hql]
  have hlt := get_lt he
  have hmul : m * kk + kk ≤ es.length * kk := by rw [← Nat.succ_mul]; exact Nat.mul_le_mul_right kk hlt
  have hcm : es.length * kk ≤ cap * kk := Nat.mul_le_mul_right kk hc2
  have hst := run_storeCells_at P b off T' (a.eval y).cells.toList 0 cur.toArray w hrow (by simp only [Nat.add_zero, List.size_toArray]; omega) hone
  simp only [Nat.add_zero] at hst
  have hek : e.length = kk := hk e (List.mem_of_getElem? he)
  have hs1 := hs.replace hH (y := .arr T' kk cap (es.set m (setSeg e f (cellsAV q)))) (w' := w.setRow b (cur.take off ++ (a.eval y).cells.toList ++ cur.drop (off + (a.eval y).cells.toList.length)).toArray)
    (setRow_heap w b _ _ _ _ hrow)
    (by
      have htake : (cur.take off ++ (a.eval y).cells.toList ++ cur.drop (off + (a.eval y).cells.toList.length)).take (es.length * kk) = (cur.take (es.length * kk)).take off ++ (a.eval y).cells.toList ++ (cur.take (es.length * kk)).drop (off + n) := by
        rw [hlen, List.take_append, List.take_of_length_le (by simp only [List.length_append, List.length_take]; omega), List.take_take, Nat.min_eq_left (by omega)]
        congr 1
        simp only [List.length_append, List.length_take]
        rw [List.drop_take]
        congr 1
        omega
      refine ⟨_, rfl, ?_, ?_, hc3, ?_, ?_, ?_⟩
      · simp only [List.length_append, List.length_take, List.length_drop]; omega
      · simpa using hc2
      · intro x hx
        rcases List.mem_or_eq_of_mem_set hx with hx | rfl
        · exact hk x hx
        · rw [setSeg_length (by omega), hek]
      · rw [List.length_set, htake, flatten_set hk he (by omega), ← hoff]
        unfold setSeg
        rw [hql]
        exact ((hr.take off).append hqcells).append (hr.drop (off + n))
      · rw [List.length_set, htake]
        intro c hc
        simp only [List.mem_append] at hc
        rcases hc with (hc | hc) | hc
        · exact h1 c (List.mem_of_mem_take hc)
        · exact hone c hc
        · exact h1 c (List.mem_of_mem_drop hc))
    (setRow_size _ _ _) (fun g hg => setRow_other w b g _ hg) rfl rfl rfl
  obtain ⟨L', hs'⟩ := hs1.putO (dst := dst) (fun d e => hN ▸ hd d e) (p := .any) (y := undef) rfl (by simp [Rep])
  generalize hW : w.setRow b (cur.take off ++ (a.eval y).cells.toList ++ cur.drop (off + (a.eval y).cells.toList.length)).toArray = W at hst hs1 hs'
  cases hlo with
  | store hop hj =>
    rename_i j
    refine Oper.wpIn_skip (.store hop hj) (by simp) (w' := W) ?_ (by rw [hdst]; exact hnext _ _ _ _ _ _ _ k hs' (Snap.Le.refl _))
    have hsz : (a.eval y).cells.size = j.size := by simpa using hlen
    simp [execOp, hop, Instr.storeAt, Instr.sureAddr, hv, storeVar, sizeOf, typeInfo, hj, hsz, hst]
abbrev HR := Option (List (Nat × AV) × Heap × List Hint × Option Prop)
def xStoreH (H : Heap) (hs : List Hint) (dst : Option Nat) (x y : Operand) (n : Nat) (env : Env) : HR := match hs, dst with
  | .stO i :: hs', none => match evO env x, H[i]? with
    | .po b off, some (b', .cells T cs) => some ([], H.set i (b', .cells T (setSeg cs off (cellsAV (evO env y)))), hs', some (b' = b ∧ (evO env y).isAggOrCell = true ∧ (cellsAV (evO env y)).length = n ∧ (cellsAV (evO env y)).all AV.isCell = true ∧ off + n ≤ cs.length))
    | _, _ => none
  | .stE i m f e :: hs', none => match evO env x, H[i]? with
    | .po b off, some (b', .arr T kk cap es) => some ([], H.set i (b', .arr T kk cap (es.set m (setSeg e f (cellsAV (evO env y))))), hs',
        some (b' = b ∧ off = m * kk + f ∧ es[m]? = some e ∧ (evO env y).isAggOrCell = true ∧ (cellsAV (evO env y)).length = n ∧ (cellsAV (evO env y)).all AV.isCell = true ∧ f + n ≤ kk))
    | _, _ => none
  | _, _ => none
def xopH (P : Program) (gs : Nat → Option Bool) (H : Heap) (hs : List Hint) (dst : Option Nat) (op : LOp) (env : Env) : HR := match xopG P gs H hs dst op env with
  | some (W, hs', ob) => some (W, H, hs', ob)
  | none => match op with
    | .store _ x y n => xStoreH H hs dst x y n env
    | _ => none
theorem xopH_ok {gs : Nat → Option Bool} {hs hs' : List Hint} {op : LOp} {W : List (Nat × AV)} {H1 : Heap} {ob : Option Prop} (h : xopH P gs H hs dst op env = some (W, H1, hs', ob)) (o : obP ob) : Q1g P r N op dst env H H1 D W := by
  unfold xopH at h
  split at h
  · rename_i W0 hs0 ob0 hx
    simp only [Option.some.injEq, Prod.mk.injEq] at h
    obtain ⟨rfl, rfl, rfl, rfl⟩ := h
    exact (xopG_ok hx o).1
  · split at h
    · rename_i T x y n
      unfold xStoreH at h
      split at h
      · rename_i i hs0
        split at h
        · rename_i b off b' T' cs hx hH
          simp only [Option.some.injEq, Prod.mk.injEq] at h
          obtain ⟨rfl, rfl, rfl, rfl⟩ := h
          obtain ⟨rfl, o1, o2, o3, o4⟩ := o
          exact Op1.storeO hx hH rfl o1 o2 o3 o4 ⟨rfl, rfl, rfl⟩
        · cases h
      · rename_i i m f e hs0
        split at h
        · rename_i b off b' T' kk cap es hx hH
          simp only [Option.some.injEq, Prod.mk.injEq] at h
          obtain ⟨rfl, rfl, rfl, rfl⟩ := h
          obtain ⟨rfl, o0, o1, o2, o3, o4, o5⟩ := o
          exact Op1.storeE hx hH o0 o1 rfl o2 o3 o4 o5 ⟨rfl, rfl, rfl⟩
        · cases h
      · cases h
    · cases h
def hoper (P : Program) (gs : List (Nat × Bool)) (H : Heap) (hs : List Hint) (l : LOper) (env : Env) : HR := match l.guard with
  | none => xopH P (glook gs) H hs l.dst l.op env
  | some (t, b) => match glook gs t, env t with
    | some c, .v (.bool e) => match c, b with
      | true, true | false, false => (match xopH P (glook gs) H hs l.dst l.op env with
        | some (W, H1, hs', none) => some (W, H1, hs', some (e = c))
        | some (W, H1, hs', some q) => some (W, H1, hs', some (e = c ∧ q))
        | none => none)
      | _, _ => match l.dst with
        | some d => some ([(d, .v undef)], H, hs, some (e = c))
        | none => none
    | _, .v (.tuple _) => match l.dst with
        | some d => some ([(d, .v undef)], H, hs, none)
        | none => none
    | _, _ => none
def HStep (P : Program) (r : Option Nat) (N : Nat) (l : LOper) (env : Env) (H H1 : Heap) (D : List Nat) (W : List (Nat × AV)) : Prop := match l.guard with
  | none => Q1g P r N l.op l.dst env H H1 D W
  | some (t, b) => (∃ c : Bool, env t = .v (.bool c) ∧ ((c = b ∧ Q1g P r N l.op l.dst env H H1 D W) ∨ (c ≠ b ∧ H1 = H ∧ ∃ d, l.dst = some d ∧ W = [(d, .v undef)]))) ∨
    ((∃ cs, env t = .v (.tuple cs)) ∧ H1 = H ∧ ∃ d, l.dst = some d ∧ W = [(d, .v undef)])
theorem hoper_ok {gs : List (Nat × Bool)} {hs hs' : List Hint} {l : LOper} {W : List (Nat × AV)} {H1 : Heap} {ob : Option Prop} (h : hoper P gs H hs l env = some (W, H1, hs', ob)) (o : obP ob) : HStep P r N l env H H1 D W := by
  unfold hoper at h
  unfold HStep
  split at h
  · rename_i hg
    first | rw [hg] | skip
    exact xopH_ok h o
  · rename_i t b hg
    first | rw [hg] | skip
    split at h
    · rename_i c e hc he
      have pos : c = b → (match xopH P (glook gs) H hs l.dst l.op env with
          | some (W, H1, hs', none) => some (W, H1, hs', some (e = c))
          | some (W, H1, hs', some q) => some (W, H1, hs', some (e = c ∧ q))
          | none => none) = some (W, H1, hs', ob) → ∃ c : Bool, env t = .v (.bool c) ∧ ((c = b ∧ Q1g P r N l.op l.dst env H H1 D W) ∨ (c ≠ b ∧ H1 = H ∧ ∃ d, l.dst = some d ∧ W = [(d, .v undef)])) := by
        intro hcb h
        split at h
        · rename_i W0 H0 hs0 hx
          simp only [Option.some.injEq, Prod.mk.injEq] at h
          obtain ⟨rfl, rfl, rfl, rfl⟩ := h
          exact ⟨e, he, .inl ⟨by rw [o, hcb], xopH_ok hx trivial⟩⟩
        · rename_i W0 H0 hs0 ob0 hx
          simp only [Option.some.injEq, Prod.mk.injEq] at h
          obtain ⟨rfl, rfl, rfl, rfl⟩ := h
          obtain ⟨o1, o2⟩ := o
          exact ⟨e, he, .inl ⟨by rw [o1, hcb], xopH_ok hx o2⟩⟩
        · cases h
      have neg : c ≠ b → (match l.dst with
          | some d => some ([(d, AV.v undef)], H, hs, some (e = c))
          | none => none) = some (W, H1, hs', ob) → ∃ c : Bool, env t = .v (.bool c) ∧ ((c = b ∧ Q1g P r N l.op l.dst env H H1 D W) ∨ (c ≠ b ∧ H1 = H ∧ ∃ d, l.dst = some d ∧ W = [(d, .v undef)])) := by
        intro hcb h
        split at h
        · rename_i d hd
          simp only [Option.some.injEq, Prod.mk.injEq] at h
          obtain ⟨rfl, rfl, rfl, rfl⟩ := h
          exact ⟨e, he, .inr ⟨by rw [o]; exact hcb, rfl, d, hd, rfl⟩⟩
        · cases h
      cases c <;> cases b
      · exact .inl (pos rfl h)
      · exact .inl (neg (by simp) h)
      · exact .inl (neg (by simp) h)
      · exact .inl (pos rfl h)
    · rename_i cs he
      split at h
      · rename_i d hd
        simp only [Option.some.injEq, Prod.mk.injEq] at h
        obtain ⟨rfl, rfl, rfl, rfl⟩ := h
        exact .inr ⟨⟨cs, he⟩, rfl, d, hd, rfl⟩
      · cases h
    · cases h
def hrun (P : Program) (gs : List (Nat × Bool)) : List LOper → List Hint → Env → Heap → Env × Heap × List LOper × List Hint × Prop
  | [], hs, env, H => (env, H, [], hs, True)
  | l :: ls, hs, env, H => match hoper P gs H hs l env with
    | some (W, H1, hs', ob) => match hrun P gs ls hs' (updL env W) H1, ob with
      | (e, H2, rest, h, o), none => (e, H2, rest, h, o)
      | (e, H2, rest, h, o), some p => (e, H2, rest, h, p ∧ o)
    | none => (env, H, l :: ls, hs, True)
theorem WOps.hstep {l : LOper} {ls : List LOper} {W : List (Nat × AV)} {H1 : Heap} (h : HStep P r N l env H H1 D W) (k : WOps P r N ls Q (updL env W) H1 D) : WOps P r N (l :: ls) Q env H D := by
  obtain ⟨dst, g, op⟩ := l
  unfold HStep at h
  cases g with
  | none => exact WOps.cons (Op1.mono h (by rintro e h d ⟨rfl, rfl, rfl⟩; exact k))
  | some tb =>
    obtain ⟨t, b⟩ := tb
    rcases h with ⟨c, hc, h⟩ | ⟨⟨cs, hc⟩, rfl, d, hd, rfl⟩
    · rcases h with ⟨hcb, h⟩ | ⟨hcb, rfl, d, hd, rfl⟩
      · subst hcb; exact WOps.yes hc (Op1.mono h (by rintro e h d ⟨rfl, rfl, rfl⟩; exact k))
      · simp only at hd
        subst hd
        exact WOps.no hc hcb k
    · simp only at hd
      subst hd
      exact WOps.nop hc k
theorem WOps.hAppend {gs : List (Nat × Bool)} : ∀ {l1 l2 : List LOper} {hs : List Hint} {env env' : Env} {H H' : Heap} {hs' : List Hint} {ob : Prop}, hrun P gs l1 hs env H = (env', H', [], hs', ob) → ob → WOps P r N l2 Q env' H' D → WOps P r N (l1 ++ l2) Q env H D
  | [], l2, hs, env, env', H, H', hs', ob, h, o, k => by
    simp only [hrun, Prod.mk.injEq] at h
    obtain ⟨rfl, rfl, _, rfl, rfl⟩ := h
    exact k
  | l :: ls, l2, hs, env, env', H, H', hs', ob, h, o, k => by
    simp only [hrun] at h
    split at h
    · rename_i W H1 hs1 ob1 hx
      obtain ⟨⟨e, H2, rest, h2, o2⟩, hr⟩ : ∃ q, hrun P gs ls hs1 (updL env W) H1 = q := ⟨_, rfl⟩
      rw [hr] at h
      have h : (e, H2, rest, h2, andP ob1 o2) = (env', H', [], hs', ob) := by cases ob1 <;> exact h
      simp only [Prod.mk.injEq] at h
      obtain ⟨rfl, rfl, rfl, rfl, rfl⟩ := h
      obtain ⟨oa, ob'⟩ := andP_ok o
      exact WOps.hstep (hoper_ok hx oa) (WOps.hAppend hr ob' k)
    · simp only [Prod.mk.injEq] at h
      obtain ⟨_, _, h, _⟩ := h
      cases h
theorem WOps.hn {gs : List (Nat × Bool)} (n : Nat) {ls ls2 : List LOper} {hs hs' : List Hint} {env' : Env} {H' : Heap} {ob : Prop} (h : hrun P gs (ls.take n) hs env H = (env', H', [], hs', ob)) (h2 : ls.drop n = ls2) (o : ob) (k : WOps P r N ls2 Q env' H' D) : WOps P r N ls Q env H D := by
  subst h2
  have := WOps.hAppend (l2 := ls.drop n) h o k
  rwa [List.take_append_drop] at this
theorem WOps.hd {gs : List (Nat × Bool)} {ls : List LOper} {hs hs' : List Hint} {env' : Env} {H' : Heap} {ob : Prop} (h : hrun P gs ls hs env H = (env', H', [], hs', ob)) (o : ob) (k : Q .normal env' H' D) : WOps P r N ls Q env H D := by
  have := WOps.hAppend (P := P) (r := r) (N := N) (l2 := []) h o (WOps.nil k)
  rwa [List.append_nil] at this
theorem LWp.hx {gs : List (Nat × Bool)} {ls : List LOper} {hs hs' : List Hint} {env' : Env} {H' : Heap} {ob : Prop} (h : hrun P gs ls hs env H = (env', H', [], hs', ob)) (o : ob) (k : Q .normal env' H' D) : LWp P r N (.ops ls) Q env H D := LWp.ops (WOps.hd h o k)
theorem LWp.shx {y : LCode} {gs : List (Nat × Bool)} {ls : List LOper} {hs hs' : List Hint} {env' : Env} {H' : Heap} {ob : Prop} (h : hrun P gs ls hs env H = (env', H', [], hs', ob)) (o : ob) (k : LWp P r N y Q env' H' D) : LWp P r N (.seq (.ops ls) y) Q env H D := LWp.seq (LWp.hx h o k)
end
theorem Own.frozen {A : Nat → Prop} {S : Snap} {w : World} (hin : S.In w) {b T k cap : Nat} {es : List (List AV)} (h : Own A S w b (.arr T k cap es)) :
    ∃ S' : Snap, S.Le S' ∧ S'.In w ∧ (∀ g, S'.has g → S.has g ∨ g = b) ∧ es.length ≤ cap ∧ cap ≤ maxLen ∧ RepE S' k es b 0 := by
  obtain ⟨cur, hrow, hc1, hc2, hc3, hk, hr, h1⟩ := h.arr
  refine ⟨S.addRow b cur, Snap.addRow_le h.apart, Snap.addRow_in hin hrow, fun g hg => Snap.addRow_has hg, hc2, hc3, ?_⟩
  refine repE_of_row (RepL.mono (Snap.addRow_le h.apart) _ _ hr) hk h1 ?_
  intro j c hj
  show (if b = b then cur[0 + j]? else S.cell b (0 + j)) = some c
  rw [if_pos rfl, Nat.zero_add]
  rw [List.getElem?_take] at hj
  split at hj
  · exact hj
  · cases hj
theorem Ev.freeze {P : Program} {f : FuncId} {args : List AV} {T k : Nat} {es : List (List AV)} (h : Ev P f args (.lin T k es)) : Ev P f args (.sl k es) := by
  refine ⟨h.1, fun S w vs hin hargs => (h.2 S w vs hin hargs).mono ?_⟩
  rintro e w' ⟨v, S', g, rfl, hle, hin', hnew, hbel, hr⟩
  simp only [RepT] at hr
  rcases hr with ⟨hy, he, _⟩ | ⟨b, cap, hb, hy, ho⟩
  · exact ⟨v, S', none, rfl, hle, hin', hnew, hbel, RepT.of_rep rfl (by simp only [Rep]; exact .inl ⟨⟨_, hy⟩, he⟩)⟩
  · obtain ⟨T', h1, h2, h3, h4, h5, h6⟩ := ho.frozen hin'
    refine ⟨v, T', none, rfl, hle.trans h1, h2, fun g hg => ?_, hbel, RepT.of_rep rfl (by simp only [Rep]; exact .inr ⟨b, 0, cap, hy, h4, h5, h6⟩)⟩
    rcases h3 g hg with h | rfl
    · exact hnew g h
    · exact .inr ho.base
end Go.Px

namespace Go.Px
def SubA (p q : AV) : Prop := ∀ S v, Rep S p v → Rep S q v
theorem SubA.refl (p : AV) : SubA p p := fun _ _ h => h
theorem SubA.nil (k : Nat) : SubA .nil (.sl k []) := fun S v h => by simp only [Rep] at h ⊢; exact .inl ⟨⟨_, h⟩, trivial⟩
theorem subL_of {S : Snap} : ∀ {l m : List AV} {cs : List Value}, All2 SubA l m → RepL S l cs → RepL S m cs
  | [], [], cs, _, h => by simp only [RepL] at h ⊢; exact h
  | a :: l, b :: m, cs, hs, h => by
    simp only [RepL] at h ⊢
    obtain ⟨c, cs', e, h1, h2⟩ := h
    exact ⟨c, cs', e, hs.1 S c h1, subL_of hs.2 h2⟩
  | [], _ :: _, _, h, _ => h.elim
  | _ :: _, [], _, h, _ => h.elim
section
variable {env : Env} {H : Heap} {D : List Nat}
end
theorem isB {a b : Bool} (h : a = b) : a = b := h
end Go.Px

namespace Go.Px
section
variable {C : Ctx} {env : Env} {H : Heap} {D : List Nat} {a : Act} {w : World} {S : Snap} {L : Nat → Option Nat}
theorem Sat.resay (hs : Sat C env H D a w S L) {j b : Nat} {x y : HObj} (hH : H[j]? = some (b, x)) (h : ∀ o, Holds S x o → Holds S y o) : Sat C env (H.set j (b, y)) D a w S L := by
  have hk : (H.set j (b, y)).map (·.1) = H.map (·.1) := by
    apply List.ext_getElem?
    intro k
    rw [List.getElem?_map, List.getElem?_map, List.getElem?_set]
    by_cases e : j = k
    · subst e
      rw [if_pos rfl, if_pos (get_lt hH), hH]; rfl
    · rw [if_neg e]
  refine { hs with heap := ?_, nodup := ?_, lin := ?_ }
  · intro e he
    rcases List.mem_or_eq_of_mem_set he with he | rfl
    · exact hs.heap e he
    · have ho := hs.at_ hH
      obtain ⟨o, h1, h2⟩ := ho.holds
      exact ⟨ho.base, ho.apart, o, h1, h o h2⟩
  · rw [List.map_append, hk, ← List.map_append]; exact hs.nodup
  · intro t g e
    rw [List.map_append, hk, ← List.map_append]; exact hs.lin t g e
end
def SubS (b n cap kk : Nat) (es : List (List AV)) (p q : AV) : Prop := p = q ∨ (p = .so b n cap ∧ q = .sl kk es)
theorem subS_rep {S : Snap} {b n cap kk : Nat} {es : List (List AV)} (h : ∀ y, Rep S (.so b n cap) y → Rep S (.sl kk es) y) : ∀ {cs cs' : List AV} {l : List Value}, All2 (SubS b n cap kk es) cs cs' → RepL S cs l → RepL S cs' l
  | [], [], l, _, hr => by simp only [RepL] at hr ⊢; exact hr
  | p :: cs, q :: cs', l, h2, hr => by
    simp only [RepL] at hr ⊢
    obtain ⟨c, l', e, h3, h4⟩ := hr
    refine ⟨c, l', e, ?_, subS_rep h h2.2 h4⟩
    rcases h2.1 with rfl | ⟨rfl, rfl⟩
    · exact h3
    · exact h c h3
  | [], _ :: _, _, h2, _ => h2.elim
  | _ :: _, [], _, h2, _ => h2.elim
section
variable {env : Env} {H : Heap} {D : List Nat}
theorem Ent.freezeArrAt {i j b T kk cap bo To : Nat} {es : List (List AV)} {cs : List AV} (cs' : List AV) (hH : H[i]? = some (b, .arr T kk cap es)) (hj : (H.eraseIdx i)[j]? = some (bo, .cells To cs)) (h : All2 (SubS b es.length cap kk es) cs cs') :
    Ent env H D env ((H.eraseIdx i).set j (bo, .cells To cs')) D := by
  intro C a w S L hs
  obtain ⟨cur, hrow, hc1, hc2, hc3, hk, hr, h1⟩ := (hs.at_ hH).arr
  have hs1 := hs.freeze hH hrow
  refine ⟨_, L, Snap.addRow_le (hs.at_ hH).apart, hs1.resay hj ?_⟩
  rintro o ⟨l, rfl, h2, h3⟩
  refine ⟨l, rfl, subS_rep ?_ h h2, h3⟩
  intro y hy
  simp only [Rep] at hy ⊢
  refine .inr ⟨b, 0, cap, hy, hc2, hc3, repE_of_row (l := cur.take (es.length * kk)) (RepL.mono (Snap.addRow_le (hs.at_ hH).apart) _ _ hr) hk h1 (fun j c hj => ?_)⟩
  rw [List.getElem?_take] at hj
  split at hj
  · simp [Snap.addRow, hj]
  · cases hj
theorem Ent.cellsSub {j bo To : Nat} {cs : List AV} (cs' : List AV) (hj : H[j]? = some (bo, .cells To cs)) (h : All2 SubA cs cs') : Ent env H D env (H.set j (bo, .cells To cs')) D := by
  intro C a w S L hs
  refine ⟨S, L, Snap.Le.refl S, hs.resay hj ?_⟩
  rintro o ⟨l, rfl, h2, h3⟩
  exact ⟨l, rfl, subL_of h h2, h3⟩
end
end Go.Px

namespace Go.Px
section
variable {P : Program} {r : Option Nat} {N : Nat} {env : Env} {H : Heap} {D : List Nat} {dst : Option Nat} {K : Env → Heap → List Nat → Prop}
theorem Op1.msliceC {T d E kk bytes : Nat} {l c : Operand} {kl kc : IntKind} {z : List Value} (n cp : Nat) {nl nc : Int} (hl : evO env l = .v (.int kl nl)) (hc : evO env c = .v (.int kc nc)) (hnl : nl = n) (hnc : nc = cp) (hle : n ≤ cp)
    (hb : bytes * cp ≤ 281474976710656) (h63 : cp ≤ 9223372036854775807) (hz1 : z.all Value.oneCell' = true)
    (k : ∀ b, K (upd env d (.so b (List.replicate n (z.map AV.v)).length cp)) ((b, .arr E kk cp (List.replicate n (z.map AV.v))) :: H) D) : Op1 P r N (.mslice T l c E kk bytes z) (some d) env H D K := by
  intro o hdst hd hlo C a w S L hN hs next Q hnext
  cases hlo with
  | mslice hop hT hj hz hcond =>
    rename_i j
    simp only [not_or] at hcond
    obtain ⟨h0, hzl⟩ := hcond
    have hzl' : z.length = j.size := Decidable.not_not.1 hzl
    obtain ⟨i, v, hi, hiz, hv⟩ := zeroOf_length hz
    have hij : i = j := by rw [hj] at hi; exact (Option.some.inj hi).symm
    subst hij
    have hvs : v.cells.size = i.size := by rw [hv]; simpa using hzl'
    have hrun := run_make (P := P) w T E i v hT hj hiz kl kc (n : Int) (cp : Int) (by omega) (by omega) (by rw [← Int.natCast_mul]; omega) (by omega)
    simp only [Int.toNat_natCast] at hrun
    have hlist : (madeCells v.cells (cp * i.size)).toList = (List.replicate cp z).flatten := by
      rw [← hvs, madeCells_list v.cells (by omega), hv]
    have hlen : (madeCells v.cells (cp * i.size)).toList.length = cp * i.size := by
      rw [hlist]; simp [List.length_flatten, hzl']
    have htake : (madeCells v.cells (cp * i.size)).toList.take (n * i.size) = (List.replicate n z).flatten := by
      rw [hlist]
      have e : List.replicate cp z = List.replicate n z ++ List.replicate (cp - n) z := by rw [List.replicate_append_replicate]; congr 1; omega
      rw [e, List.flatten_append]
      have e2 : (List.replicate n z).flatten.length = n * i.size := by simp [List.length_flatten, hzl']
      rw [← e2, List.take_left']
      rfl
    have hs1 := hs.alloc (x := .arr E i.size cp (List.replicate n (z.map AV.v))) (o := .cells (madeCells v.cells (cp * i.size)) E (0, 0))
      ⟨(madeCells v.cells (cp * i.size)).toList, by rw [Array.toArray_toList], hlen, by rw [List.length_replicate]; exact hle, by unfold maxLen; omega, by
        intro e he
        rw [(List.mem_replicate.1 he).2]
        simpa using hzl', by
        rw [List.length_replicate, htake]
        exact repL_replicate S z n, by
        intro x hx
        rw [List.length_replicate, htake] at hx
        simp only [List.mem_flatten, List.mem_replicate] at hx
        obtain ⟨l, ⟨_, rfl⟩, hx⟩ := hx
        exact List.all_eq_true.1 hz1 x hx⟩
    have hs2 := hs1.put (d := d) (Nat.lt_of_lt_of_le (hN ▸ hd d rfl) hs.size) (p := .so w.heap.size (List.replicate n (z.map AV.v)).length cp) (y := .slice (some ⟨w.heap.size, 0, none⟩) n cp) rfl (by simp [Rep])
    subst hnl hnc
    refine Oper.wpIn_value (.mslice hop hT hj hz (by simp only [not_or]; exact ⟨h0, hzl⟩)) (by simp) (y := .slice (some ⟨w.heap.size, 0, none⟩) n cp) (w' := w.alloc (.cells (madeCells v.cells (cp * i.size)) E (0, 0))) ?_
      (by rw [hdst]; exact hnext _ _ _ _ _ _ _ (k _) hs2 (Snap.Le.refl _))
    simp [execOp, hop, hs.int hl, hs.int hc, hrun]
end
end Go.Px

namespace Go.Px
inductive J where
  | go
  | ret
  | exit (id : Nat)
  deriving DecidableEq
def J.code : J → Option Code
  | .go => none
  | .ret => some .ret
  | .exit id => some (.exit id)
def J.ex : J → Exit
  | .go => .normal
  | .ret => .ret
  | .exit id => .exit id
def J.on : J → Bool
  | .go => true
  | _ => false
def J.st : J → LoopState
  | .go => .ready
  | _ => .done
section
variable {P : Program}
theorem EvY.loopJ {l N : Nat} {fn : FuncId} {env0 : Env} {ps : Array Nat} {assign body : Code} {dfr : Nat} {H1 : Heap} {RB : J → Heap → Prop} {args : List AV} {la lb : LCode} (ha : Lc P N assign la) (hb : Lc P N body lb) (hlen : args.length = ps.size)
    (hps : ∀ t ∈ ps.toList, t < N)
    (h : LWp P (some l) N la (fun e env' H' D' => e = .normal ∧ LWp P (some l) N lb (fun e _env' H' _D' => ∃ j H2, e = J.ex j ∧ RB j H2 ∧ H2.Sublist H') env' H' D') (setPs ps.toList args env0) H1 []) :
    EvY P l args ((l, .loopA .ready none fn N env0 ps assign body dfr) :: H1) (fun res Ho => ∃ j H2, RB j H2 ∧ res = B j.on ∧ Ho = (l, .loopA j.st j.code fn N env0 ps assign body dfr) :: H2) := by
  intro S w vs hin hargs hHin hnd
  have hloop := hHin _ (List.mem_cons_self ..)
  obtain ⟨o, ho, tmps, rfl, hN, hrep⟩ := hloop.holds
  refine ⟨_, ho, by simp only; rw [← hlen, hargs.length], ?_⟩
  rw [zip_foldl]
  obtain ⟨hsz, hrep'⟩ := setPs_rep (N := N) hargs hN hrep hps
  generalize (ps.toList.zip vs).foldl (fun tmps (x : Nat × Value) => tmps.setIfInBounds x.1 x.2) tmps = tmps' at hsz hrep'
  simp only [List.map_cons, List.nodup_cons] at hnd
  let Hin : Heap := (l, .loopA .ready none fn N env0 ps assign body dfr) :: H1
  let C : Ctx := { A := AH w Hin, w0 := w, S0 := S, F := [(l, .loopA .ready none fn N env0 ps assign body dfr)], N := N, hA := fun _ h => .inl h }
  have nl : ∀ {S : Snap} {p : AV} {y : Value}, Rep S p y → p.isLin = false := fun h => h.not_lin
  have hs : Sat C (setPs ps.toList args env0) H1 [] { tmps := tmps', defers := [] } w S (fun _ => none) := by
    refine
      { size := hsz, dfs := rfl, le := Snap.Le.refl S, sin := hin, snew := fun _ h => .inl h, below := BelowA.refl _ _, env := fun t => RepT.of_rep (nl (hrep' t)) (hrep' t), heap := ?_, frame := ?_, nodup := ?_, lin := by simp, linj := by simp }
    · intro e he
      exact (hHin e (List.mem_cons_of_mem _ he)).base_any (fun _ => .inr (List.mem_map.2 ⟨e, List.mem_cons_of_mem _ he, rfl⟩))
    · intro e he
      simp only [C, List.mem_singleton] at he
      subst he
      exact hloop.base_any (fun _ => .inr (List.mem_map.2 ⟨_, List.mem_cons_self .., rfl⟩))
    · simp only [C, List.map_append, List.map_cons, List.map_nil]
      rw [List.nodup_append]
      refine ⟨hnd.2, by simp, ?_⟩
      intro b hb b' hb' e
      simp only [List.mem_singleton] at hb'
      subst hb' e
      exact hnd.1 hb
  have hround : ∀ (S' : Snap) (w' : World) (st : LoopState), Own C.A S' w' l (.loopA st none fn N env0 ps assign body dfr) →
      ∃ tmps, w'.heap[l]? = some (.loop { state := st, pending := none, fn := fn, tmps := tmps, params := ps, assign := assign, body := body, defers := dfr }) ∧ N ≤ tmps.size ∧ ∀ t, Rep S' (env0 t) (tmps.getD t undef) := by
    intro S' w' st ho
    obtain ⟨o, ho, tmps, rfl, h1, h2⟩ := ho.holds
    exact ⟨tmps, ho, h1, h2⟩
  refine roundIn_of_wpIn trivial ?_
  refine wpIn_mono (h assign ha C _ w S _ rfl hs) ?_
  rintro e a₁ w₁ ⟨env', H', D', S', L', hs', rfl, hbody⟩
  obtain ⟨tmps1, hl1, hN1, hr1⟩ := hround S' w₁ .ready (hs'.frame (l, .loopA .ready none fn N env0 ps assign body dfr) (by simp [C]))
  have hs2 := hs'.frameSet (l := l) (x := .loopA .ready none fn N env0 ps assign body dfr) rfl (y := .loopA .busy none fn N env0 ps assign body dfr)
    (o := .loop { state := .busy, pending := none, fn := fn, tmps := tmps1, params := ps, assign := assign, body := body, defers := dfr }) ⟨tmps1, rfl, hN1, hr1⟩
  refine ⟨_, ?_, wpIn_mono (hbody body hb _ a₁ _ S' L' rfl hs2) ?_⟩
  · simp [Instr.beginRound, Instr.getLoop, getObj, setObj, Sem.run, hl1]
  rintro e a₂ w₂ ⟨env'', H'', D'', S'', L'', hs'', j, H2, rfl, hRB, hsub⟩
  obtain ⟨tmps2, hl2, hN2, hr2⟩ := hround S'' w₂ .busy (hs''.frame (l, .loopA .busy none fn N env0 ps assign body dfr) (by simp))
  have hs3 := hs''.frameSet (l := l) (x := .loopA .busy none fn N env0 ps assign body dfr) rfl (y := .loopA j.st j.code fn N env0 ps assign body dfr)
    (o := .loop { state := j.st, pending := j.code, fn := fn, tmps := tmps2, params := ps, assign := assign, body := body, defers := dfr }) ⟨tmps2, rfl, hN2, hr2⟩
  have fin : EffR S w Hin (fun res Ho => ∃ j H2, RB j H2 ∧ res = B j.on ∧ Ho = (l, .loopA j.st j.code fn N env0 ps assign body dfr) :: H2) (.returned (.bool j.on))
      { w₂ with heap := w₂.heap.setIfInBounds l (.loop { state := j.st, pending := j.code, fn := fn, tmps := tmps2, params := ps, assign := assign, body := body, defers := dfr }) } := by
    refine ⟨.bool j.on, S'', none, B j.on, _, rfl, ⟨j, H2, hRB, rfl, rfl⟩, hs3.le, hs3.sin, hs3.snew, hs3.below, RepT.of_rep rfl (by simp [Rep]), ?_, ?_, fun _ e => by cases e⟩
    · intro e he
      rcases List.mem_cons.1 he with rfl | he
      · exact hs3.frame (l, .loopA j.st j.code fn N env0 ps assign body dfr) (by simp)
      · exact hs3.heap e (hsub.subset he)
    · have hnd3 := hs3.nodup
      simp only [List.map_append, List.map_cons, List.map_nil] at hnd3
      rw [List.nodup_append] at hnd3
      simp only [List.map_cons, List.nodup_cons]
      refine ⟨fun hm => ?_, sub_nodup hsub hnd3.1⟩
      exact hnd3.2.2 l ((hsub.map _).subset hm) l (by simp) rfl
  cases j with
  | go => exact ⟨.bool true, _, by simp [Instr.endRound, Instr.getLoop, getObj, setObj, Sem.run, hl2, J.st, J.code], fin⟩
  | ret => exact ⟨.bool false, _, by simp [Instr.endRound, Instr.getLoop, getObj, setObj, Sem.run, hl2, J.st, J.code], fin⟩
  | exit id => exact ⟨.bool false, _, by simp [Instr.endRound, Instr.getLoop, getObj, setObj, Sem.run, hl2, J.st, J.code], fin⟩
variable {N : Nat} {env : Env} {H : Heap} {D : List Nat} {Q : Post}
theorem LWp.rfunJ {X : Type} {f : Operand} {ps : List Nat} {la lb : LCode} {g : FuncId} {first caps : List AV} (HS : X → Heap) {H0 : Heap} (x0 : X) (Fin : J → X → Prop) (Y : X → List AV → Prop) (Z : X → List AV → J → X → Prop) (env0 : Env)
    (hx : evO env f = .fn (.func g) first caps) (hH : H = HS x0 ++ H0) (h0 : ∀ t, env0 t = .any ∨ (env0 t = env t ∧ (env t).isLin = false)) (hps : ∀ t ∈ ps, t < N)
    (hbody : ∀ l x args, Y x args → args.length = ps.length ∧
      LWp P (some l) N la (fun e env' H' D' => e = .normal ∧ LWp P (some l) N lb (fun e _ H' _ => ∃ j x', e = J.ex j ∧ Z x args j x' ∧ (HS x').Sublist H') env' H' D') (setPs ps args env0) (HS x) [])
    (hiter : ∀ (l : Nat) (lo : J → HObj), (∀ x args, Y x args → EvY P l args ((l, lo .go) :: HS x) (fun res Ho => ∃ j x', Z x args j x' ∧ res = B j.on ∧ Ho = (l, lo j) :: HS x')) →
      EvR P g (first ++ [.fn (.yield l) [] []] ++ caps) ((l, lo .go) :: HS x0) (fun _ Ho => ∃ j x', Fin j x' ∧ Ho = (l, lo j) :: HS x'))
    (k : ∀ j x' rD, Fin j x' → Q j.ex env ((rD, .dfr) :: (HS x' ++ H0)) (rD :: D)) : LWp P none N (.rfun f ps la lb) Q env H D := by
  subst hH
  intro c hc C a w S L hN hs
  cases hc with
  | rfun ha hb =>
    rename_i psA ca cb
    refine wpIn_rangeFunc (fun fn _ => ?_)
    have hxr := hs.repO f hx rfl
    simp only [Rep] at hxr
    obtain ⟨fs, cs, hxv, hfr, hcr⟩ := hxr
    have hs1 := hs.alloc (x := .dfr) (o := .deferred (some [])) rfl
    have hrep0 : ∀ t, Rep S (env0 t) (a.tmps.getD t undef) := by
      intro t
      rcases h0 t with e | ⟨e, hl⟩
      · rw [e]; simp [Rep]
      · rw [e]; exact hs.rep rfl hl
    have hsz : N ≤ a.tmps.size := hN ▸ hs.size
    have hs2 := hs1.alloc (x := .loopA .ready none fn N env0 psA ca cb w.heap.size)
      (o := .loop { state := .ready, pending := none, fn := fn, tmps := a.tmps, params := psA, assign := ca, body := cb, defers := w.heap.size }) ⟨a.tmps, rfl, hsz, hrep0⟩
    generalize hl : (w.alloc (.deferred (some []))).heap.size = l at hs2
    generalize hw2 : (w.alloc (.deferred (some []))).alloc (.loop { state := .ready, pending := none, fn := fn, tmps := a.tmps, params := psA, assign := ca, body := cb, defers := w.heap.size }) = w2 at hs2
    let lo : J → HObj := fun j => .loopA j.st j.code fn N env0 psA ca cb w.heap.size
    have hdfs : ({ a with defers := [markOf w.heap.size] ++ a.defers } : Act).defers = (w.heap.size :: D).map markOf := by
      show [markOf w.heap.size] ++ a.defers = _
      rw [hs2.dfs]
      rfl
    have hs3 : Sat C env ((l, lo .go) :: (w.heap.size, .dfr) :: (HS x0 ++ H0)) (w.heap.size :: D) { a with defers := [markOf w.heap.size] ++ a.defers } w2 S L :=
      { hs2 with dfs := hdfs, size := hs2.size }
    have hs4 := hs3.permH (H' := ((l, lo .go) :: HS x0) ++ ((w.heap.size, .dfr) :: H0)) (by
      rw [List.cons_append]
      exact (List.perm_middle).symm.cons _)
    have hy : ∀ x args, Y x args → EvY P l args ((l, lo .go) :: HS x) (fun res Ho => ∃ j x', Z x args j x' ∧ res = B j.on ∧ Ho = (l, lo j) :: HS x') := by
      intro x args hY
      obtain ⟨h1, h2⟩ := hbody l x args hY
      have h3 := EvY.loopJ (RB := fun j H2 => ∃ x', Z x args j x' ∧ H2 = HS x') (fn := fn) (env0 := env0) (dfr := w.heap.size) ha hb (by rw [h1]; simp) hps (by
        refine LWp.mono h2 ?_
        rintro e env' H' D' ⟨rfl, h⟩
        refine ⟨rfl, LWp.mono h ?_⟩
        rintro e env'' H'' D'' ⟨j, x', rfl, hz, hsub⟩
        exact ⟨j, HS x', rfl, ⟨x', hz, rfl⟩, hsub⟩)
      intro S w vs a1 a2 a3 a4
      obtain ⟨lp, b1, b2, b3⟩ := h3 S w vs a1 a2 a3 a4
      refine ⟨lp, b1, b2, b3.mono ?_⟩
      rintro e w' ⟨v, S', g, res, Hout, rfl, ⟨j, H2, ⟨x', hz, rfl⟩, rfl, rfl⟩, rest⟩
      exact ⟨v, S', g, _, _, rfl, ⟨j, x', hz, rfl, rfl⟩, rest⟩
    have hev := hiter l lo hy
    have hargs : RepL S (first ++ [.fn (.yield l) [] []] ++ caps) (fs ++ [Value.func (.yield l) #[] #[]] ++ cs) :=
      (hfr.append (by simp only [RepL, Rep]; exact ⟨_, [], rfl, ⟨[], [], rfl, rfl, rfl⟩, rfl⟩)).append hcr
    refine ⟨l, [markOf w.heap.size], w2, { target := .fn (.func g) cs.toArray, args := (fs ++ [Value.func (.yield l) #[] #[]]).toArray }, w2, g, (fs ++ [Value.func (.yield l) #[] #[]] ++ cs).toArray, w2, ?_, ?_, fun _ _ => trivial, ?_, fun hd => by simp [Fw, Fence.wide] at hd, ?_⟩
    · rw [← hl, ← hw2]
      simp [Instr.enterLoop, newObj, Sem.run, Fw, Fence.wide, markOf]
    · have e1 : a.eval (.const (.func (.yield l) #[] #[])) = .func (.yield l) #[] #[] := rfl
      simp [resolve, Deferred.ofValue, hxv, e1]
    · have e : (fs ++ [Value.func (.yield l) #[] #[]]).toArray ++ cs.toArray = (fs ++ [Value.func (.yield l) #[] #[]] ++ cs).toArray := by
        apply Array.toList_inj.1; simp
      simp only [invoke, e, run_callFunc hev.1]
    · refine calls_Fw ((hev.2 S w2 _ hs4.sin hargs hs4.ownHin.1 hs4.ownHin.2).mono ?_) none
      rintro e w' ⟨v, S', gg, res, Hout, rfl, ⟨j, x', hfin, rfl⟩, hle, hin, hnew, hbel, hr, ho, hnd, hg⟩
      obtain ⟨L', hs5⟩ := hs4.calledR (dst := none) (fun d e => by cases e) hle hin hnew hbel hr ho hnd hg
      have hi : ((l, lo j) :: HS x' ++ ((w.heap.size, HObj.dfr) :: H0))[0]? = some (l, lo j) := rfl
      have hown := hs5.at_ hi
      obtain ⟨o, hrow, tmps, rfl, hN', hr'⟩ := hown.holds
      have hlt : l < w'.heap.size := (Array.getElem?_eq_some_iff.1 hrow).1
      have hs6 := hs5.replace hi (y := .raw (.loop { state := .exhausted, pending := j.code, fn := fn, tmps := tmps, params := psA, assign := ca, body := cb, defers := w.heap.size }))
        (w' := { w' with heap := w'.heap.setIfInBounds l (.loop { state := .exhausted, pending := j.code, fn := fn, tmps := tmps, params := psA, assign := ca, body := cb, defers := w.heap.size }) })
        (o := .loop { state := .exhausted, pending := j.code, fn := fn, tmps := tmps, params := psA, assign := ca, body := cb, defers := w.heap.size })
        (by simp [hlt]) rfl (by simp) (fun g hg => by
          show (w'.heap.setIfInBounds l _)[g]? = w'.heap[g]?
          rw [Array.getElem?_setIfInBounds, if_neg (fun e => hg e.symm)]) rfl rfl rfl
      have hs7 := hs6.drop 0
      have hs8 := hs7.permH (H' := (w.heap.size, .dfr) :: (HS x' ++ H0)) (by
        simp only [List.cons_append, List.set_cons_zero, List.eraseIdx_cons_zero]
        exact List.perm_middle)
      have hk := k j x' w.heap.size hfin
      refine ⟨j.code, { w' with heap := w'.heap.setIfInBounds l (.loop { state := .exhausted, pending := j.code, fn := fn, tmps := tmps, params := psA, assign := ca, body := cb, defers := w.heap.size }) }, ?_, ?_⟩
      · cases j <;> simp [Instr.endLoop, Instr.getLoop, getObj, setObj, Sem.run, hrow, J.st, J.code]
      · cases j with
        | go => exact ⟨env, _, _, S', L', hs8, hk⟩
        | ret => exact wpIn_ret ⟨env, _, _, S', L', hs8, hk⟩
        | exit id => exact wpIn_exit ⟨env, _, _, S', L', hs8, hk⟩
end
end Go.Px

namespace Go.Px
open Go.MapKept
theorem KeyOK.plain {P : Program} {K : TypeId} {d : TypeDesc} (hd : P.underlying K = some d) : KeyOK P K (IsKey d) where
  check := fun k hk em w => run_checkKey hd hk em 9999
  find := by
    intro k l hk hl w
    rcases findNow_spec hk l 0 hl with ⟨h1, h2⟩ | ⟨j, e, h1, h2, h3⟩
    · exact .inl ⟨run_findKey hd h1, h2⟩
    · exact .inr ⟨j, e, by have := run_findKey (w := w) hd h1; rwa [Nat.zero_add] at this, h2, h3⟩
  same := by
    intro k hk
    cases d <;> cases k <;> simp_all [IsKey, Instr.sameBits, (bytes_beq _ _).2]
structure MOK (G : Value → AV → Prop) (es : List (Value × AV)) : Prop where
  nd : (es.map (·.1)).Nodup
  ok : ∀ e ∈ es, G e.1 e.2
theorem MOK.nil (G : Value → AV → Prop) : MOK G [] := ⟨List.nodup_nil, fun _ h => by cases h⟩
theorem mat_ex (es : List (Value × AV)) (k : Value) : ∃ o, MAt es k o := by
  by_cases h : ∃ e ∈ es, e.1 = k
  · obtain ⟨⟨k', p⟩, he, rfl⟩ := h
    obtain ⟨j, hj⟩ := List.getElem?_of_mem he
    exact ⟨some (j, p), .some hj⟩
  · exact ⟨none, .none fun e he hk => h ⟨e, he, hk⟩⟩
theorem MOK.mono {G G' : Value → AV → Prop} {es : List (Value × AV)} (h : MOK G es) (k : ∀ a b, G a b → G' a b) : MOK G' es := ⟨h.nd, fun e he => k _ _ (h.ok e he)⟩
theorem mput_keys {es : List (Value × AV)} {k : Value} {v : AV} {o : Option (Nat × AV)} (ho : MAt es k o) : (mput es k v o).map (·.1) = match o with | none => es.map (·.1) ++ [k] | some _ => es.map (·.1) := by
  cases ho with
  | none h => simp [mput]
  | @some j p h =>
    simp only [mput]
    apply List.ext_getElem?
    intro i
    rw [List.getElem?_map, List.getElem?_map, List.getElem?_set]
    by_cases e : j = i
    · subst e
      rw [if_pos rfl, if_pos (List.getElem?_eq_some_iff.1 h).1, h]; rfl
    · rw [if_neg e]
theorem MOK.put {G : Value → AV → Prop} {es : List (Value × AV)} {k : Value} {v : AV} {o : Option (Nat × AV)} (ho : MAt es k o) (h : MOK (fun a b => a = k ∨ G a b) es) (hv : G k v) : MOK G (mput es k v o) := by
  have hk := mput_keys (v := v) ho
  cases ho with
  | none hn =>
    simp only at hk
    refine ⟨?_, fun e he => ?_⟩
    · rw [hk, List.nodup_append]
      refine ⟨h.nd, by simp, fun a ha b hb e => ?_⟩
      simp only [List.mem_singleton] at hb
      subst hb e
      obtain ⟨x, hx, hxa⟩ := List.mem_map.1 ha
      exact hn x hx hxa
    · simp only [mput, List.mem_append, List.mem_singleton] at he
      rcases he with he | rfl
      · rcases h.ok e he with h1 | h1
        · exact absurd h1 (hn e he)
        · exact h1
      · exact hv
  | @some j p hj =>
    simp only at hk
    refine ⟨by rw [hk]; exact h.nd, fun e he => ?_⟩
    simp only [mput] at he
    obtain ⟨i, hi⟩ := List.getElem?_of_mem he
    rw [List.getElem?_set] at hi
    by_cases e1 : j = i
    · subst e1
      rw [if_pos rfl] at hi
      split at hi
      · cases hi; exact hv
      · cases hi
    · rw [if_neg e1] at hi
      rcases h.ok e (List.mem_of_getElem? hi) with h1 | h1
      · exfalso
        have a1 : (es.map (·.1))[i]? = some k := by rw [List.getElem?_map, hi, ← h1]; rfl
        have a2 : (es.map (·.1))[j]? = some k := by rw [List.getElem?_map, hj]; rfl
        have hlt := (List.getElem?_eq_some_iff.1 a2).1
        have := (List.getElem?_inj hlt h.nd).1 (a2.trans a1.symm)
        exact e1 this
      · exact h1
theorem MOK.weak {G : Value → AV → Prop} {es : List (Value × AV)} (k : Value) (h : MOK G es) : MOK (fun a b => a = k ∨ G a b) es := h.mono fun _ _ => .inr
theorem mput_at {es : List (Value × AV)} {k : Value} {v : AV} {o : Option (Nat × AV)} (ho : MAt es k o) : MAt (mput es k v o) k (some (mpos es o, v)) := by
  cases ho with
  | none hn => exact .some (by simp [mput, mpos])
  | @some j p hj => exact .some (by simp only [mput, mpos]; rw [List.getElem?_set, if_pos rfl, if_pos (List.getElem?_eq_some_iff.1 hj).1])
theorem mat_good {G : Value → AV → Prop} {es : List (Value × AV)} {k : Value} {o : Option (Nat × AV)} (ho : MAt es k o) (h : MOK G es) : o = none ∨ ∃ j p, o = some (j, p) ∧ G k p := by
  cases ho with
  | none hn => exact .inl rfl
  | @some j p hj => exact .inr ⟨j, p, rfl, h.ok _ (List.mem_of_getElem? hj)⟩
end Go.Px

namespace Go.Px
def runL {α X : Type} (f : X → α → J × X) : List α → X → J × X
  | [], x => (.go, x)
  | p :: L, x => match f x p with
    | (.go, x') => runL f L x'
    | r => r
section
variable {α X : Type} {f : X → α → J × X}
theorem runL_app : ∀ {a b : List α} {x : X}, (runL f a x).1 = .go → runL f (a ++ b) x = runL f b (runL f a x).2
  | [], _, _, _ => rfl
  | p :: a, b, x, h => by
    simp only [List.cons_append, runL] at h ⊢
    rcases hf : f x p with ⟨j, x'⟩
    rw [hf] at h
    cases j with
    | go => exact runL_app h
    | ret => cases h
    | exit id => cases h
theorem runL_stop : ∀ {a b : List α} {x : X}, (runL f a x).1 ≠ .go → runL f (a ++ b) x = runL f a x
  | [], _, _, h => absurd rfl h
  | p :: a, b, x, h => by
    simp only [List.cons_append, runL] at h ⊢
    rcases hf : f x p with ⟨j, x'⟩
    rw [hf] at h
    cases j with
    | go => exact runL_stop h
    | ret => rfl
    | exit id => rfl
theorem runL_one {x : X} {p : α} : runL f [p] x = f x p := by
  simp only [runL]
  rcases f x p with ⟨j, x'⟩
  cases j <;> rfl
end
theorem j_on {j : J} : j.on = true ↔ j = .go := by cases j <;> simp [J.on]
section
variable {P : Program}
theorem EvR.perm {f : FuncId} {args : List AV} {H H' : Heap} {R R' : AV → Heap → Prop} (h : EvR P f args H R) (hp : H.Perm H') (k : ∀ r Ho, R r Ho → ∃ Ho', Ho.Perm Ho' ∧ R' r Ho') : EvR P f args H' R' := by
  obtain ⟨h1, h2⟩ := h
  refine ⟨h1, fun S w vs hin hargs hH hnd => ?_⟩
  have hAH : AH w H = AH w H' := by
    funext b
    unfold AH
    exact propext (or_congr_right ((hp.map _).mem_iff))
  refine (h2 S w vs hin hargs (fun e he => hH e (hp.subset he)) ((hp.map (·.1)).symm.nodup hnd)).mono ?_
  rintro e w' ⟨v, S', g, res, Hout, he, hR, a1, a2, a3, a4, a5, a6, a7, a8⟩
  obtain ⟨Ho', hp', hR'⟩ := k _ _ hR
  rw [hAH] at a3 a4 a5 a6
  exact ⟨v, S', g, res, Ho', he, hR', a1, a2, a3, a4, a5, fun e he => a6 e (hp'.symm.subset he), (hp'.map (·.1)).nodup a7, fun b hb hm => a8 b hb ((hp'.map (·.1)).symm.subset hm)⟩
theorem EvY.perm {l : Nat} {args : List AV} {H H' : Heap} {R R' : AV → Heap → Prop} (h : EvY P l args H R) (hp : H.Perm H') (k : ∀ r Ho, R r Ho → ∃ Ho', Ho.Perm Ho' ∧ R' r Ho') : EvY P l args H' R' := by
  intro S w vs hin hargs hH hnd
  have hAH : AH w H = AH w H' := by
    funext b
    unfold AH
    exact propext (or_congr_right ((hp.map _).mem_iff))
  obtain ⟨lp, e1, e2, e3⟩ := h S w vs hin hargs (fun e he => hH e (hp.subset he)) ((hp.map (·.1)).symm.nodup hnd)
  refine ⟨lp, e1, e2, e3.mono ?_⟩
  rintro e w' ⟨v, S', g, res, Hout, he, hR, a1, a2, a3, a4, a5, a6, a7, a8⟩
  obtain ⟨Ho', hp', hR'⟩ := k _ _ hR
  rw [hAH] at a3 a4 a5 a6
  exact ⟨v, S', g, res, Ho', he, hR', a1, a2, a3, a4, a5, fun e he => a6 e (hp'.symm.subset he), (hp'.map (·.1)).nodup a7, fun b hb hm => a8 b hb ((hp'.map (·.1)).symm.subset hm)⟩
end
end Go.Px

namespace Go.Px
section
variable {P : Program} {r : Option Nat} {N : Nat} {env : Env} {H : Heap} {D : List Nat} {Q : Post}
theorem LWp.dSame {gs : List (Nat × Bool)} {ops : List (LOper × List Nat)} {hs hs' : List Hint} {env' : Env} {infos : List (List Nat × List Nat)} {rest : List (LOper × List Nat)} {ob : Prop} {T T' : TypeId} {x y : Operand} {n b off : Nat} {pr : List Nat} {cs : List AV} {q : AV}
    (f : List Nat) (i : Nat) (hm : P.follows .mixedOrders = true) (h : drun P gs H ops hs env = (env', infos, (⟨none, none, .store T x y n⟩, pr) :: rest, hs', ob)) (hok : okDraw (ops.map (·.2)) (infos ++ [(f, [])]) = true) (o : ob)
    (hx : evO (only f env') x = .po b off) (hH : H[i]? = some (b, .cells T' cs)) (hy : evO (only f env') y = q) (hq : q.isAggOrCell = true) (hql : (cellsAV q).length = n) (hqc : (cellsAV q).all AV.isCell = true) (hfit : off + n ≤ cs.length)
    (hset : H.set i (b, .cells T' (setSeg cs off (cellsAV q))) = H) (k : WOps P r N (rest.map (·.1)) Q env' H D) : LWp P r N (.dops ops) Q env H D := by
  refine LWp.dops hm (DCh.run h o (DCh.cons (W := []) f ?_ rfl rfl DCh.nil)) hok k
  exact Op1.storeO hx hH hy hq hql hqc hfit ⟨rfl, hset, rfl⟩
end
end Go.Px

namespace Go.Px
def okCut (A : List Nat) (m n : Nat) : Bool := (List.range n).all fun k => Nat.blt k m || (List.range m).all fun i => (A.getD k 0).testBit i
def okBar (A : List Nat) (m n : Nat) : Bool := (List.range n).all fun k => Nat.ble k m || (A.getD k 0).testBit m
def okPairsO (A : List Nat) (o : Nat) (infos : List (List Nat × List Nat)) : Bool :=
  (List.range infos.length).all fun j => (List.range j).all fun i => (A.getD (o + j) 0).testBit (o + i) ||
    (match infos[i]?, infos[j]? with
      | some (fi, ki), some (fj, kj) => disjB ki fj && disjB kj fi
      | _, _ => false)
def RAny (P : Program) (r : Option Nat) (N : Nat) (ops : List (LOper × List Nat)) (j : Nat) (Q : Post) (env : Env) (H : Heap) (D : List Nat) : Prop :=
  ∀ (arr : Array Oper) (ls : List LOper), MatchL P N arr (List.range arr.size) ls → ops = ls.zip (arr.toList.map boundBy) →
    ∀ (C : Ctx) (a : Act) (w : World) (S : Snap) (L : Nat → Option Nat), C.N = N → Sat C env H D a w S L → ∀ (fuel : Nat) (listed : Array Bool), listed.size = arr.size →
      (∀ k, k < arr.size → (listed.getD k true = true ↔ k < j)) → arr.size ≤ j + fuel → wpAnyIn (Fw r) 0 P .any arr (PostC C Q) fuel listed a w
section
variable {P : Program} {r : Option Nat} {N : Nat} {env : Env} {H : Heap} {D : List Nat} {Q : Post} {ops : List (LOper × List Nat)}
theorem draw0 {arr : Array Oper} {ps : List (List Nat)} (h : ps = arr.toList.map boundBy) (hb : okBack 0 ps = true) : Draw arr ps ps.length := by
  refine ⟨h, hb, List.all_eq_true.2 fun j hj => ?_, Nat.le_refl _⟩
  have := List.mem_range.1 hj
  rw [Bool.or_eq_true]
  exact .inl (Nat.ble_eq_true_of_le this)
theorem zip_facts {arr : Array Oper} {ls : List LOper} (hml : MatchL P N arr (List.range arr.size) ls) (hop : ops = ls.zip (arr.toList.map boundBy)) : ls.length = arr.size ∧ ops.map (·.2) = arr.toList.map boundBy ∧ ops.map (·.1) = ls ∧ ops.length = arr.size := by
  have hls : ls.length = arr.size := by rw [hml.length]; simp
  have hl1 : ops.map (·.1) = ls := by rw [hop, List.map_fst_zip]; simp [hls]
  exact ⟨hls, by rw [hop, List.map_snd_zip]; simp [hls], hl1, by rw [← hls, ← hl1]; simp⟩
theorem RAny.nil {j : Nat} (hb : okBack 0 (ops.map (·.2)) = true) (hj : ops.length ≤ j) (k : Q .normal env H D) : RAny P r N ops j Q env H D := by
  intro arr ls hml hop C a w S L hN hs fuel listed hsz hl hf
  obtain ⟨h1, h2, h3, h4⟩ := zip_facts hml hop
  have hd := draw0 h2 hb
  have hno : Region.ready .any arr listed = [] := by
    cases hr : Region.ready .any arr listed with
    | nil => rfl
    | cons x xs =>
      obtain ⟨e1, e2, _⟩ := hd.ready (listed := listed) (j := x) (by rw [hr]; simp)
      rw [(hl x e1).2 (by omega)] at e2; cases e2
  cases fuel with
  | zero => exact ⟨hno, env, H, D, S, L, hs, k⟩
  | succ fuel => exact ⟨fun _ => ⟨env, H, D, S, L, hs, k⟩, fun i hi => by rw [hno] at hi; cases hi⟩
theorem RAny.op {j : Nat} {dst : Option Nat} {l : LOp} {pr : List Nat} {rest : List (LOper × List Nat)} (hdr : ops.drop j = (⟨dst, none, l⟩, pr) :: rest) (hb : okBack 0 (ops.map (·.2)) = true) (hbar : okBar (ancs [] (ops.map (·.2))) j ops.length = true)
    (h : Op1 P r N l dst env H D (fun env' H' D' => RAny P r N ops (j + 1) Q env' H' D')) : RAny P r N ops j Q env H D := by
  intro arr ls hml hop C a w S L hN hs fuel listed hsz hl hf
  obtain ⟨h1, h2, h3, h4⟩ := zip_facts hml hop
  have hd := draw0 h2 hb
  have hjl : j < ops.length := by
    rcases Nat.lt_or_ge j ops.length with h | h
    · exact h
    · rw [List.drop_eq_nil_of_le h] at hdr; cases hdr
  have hlj : listed.getD j true = false := by
    cases hx : listed.getD j true with
    | false => rfl
    | true => have := (hl j (by omega)).1 hx; omega
  obtain ⟨fuel, rfl⟩ : ∃ f, fuel = f + 1 := ⟨fuel - 1, by omega⟩
  have hjr : j ∈ Region.ready .any arr listed := hd.isReady hsz (by omega) hlj (fun i hi => (hl i (by omega)).2 hi)
  refine ⟨fun hr => (by rw [hr] at hjr; cases hjr), fun i hi => ?_⟩
  obtain ⟨hin, hfi, p, hp, hpall⟩ := hd.ready hi
  have hcl : Closed (ops.map (·.2)) (fun k => listed.getD k true) := by
    intro k p' hk hs q hq
    have hkn : k < arr.size := by
      have := (List.getElem?_eq_some_iff.1 hk).1
      rw [List.length_map] at this; omega
    have hkj := (hl k hkn).1 hs
    have := okBack_spec hb k p' hk q hq
    exact (hl q (by omega)).2 (by omega)
  have hij : i = j := by
    have hge : j ≤ i := by
      rcases Nat.lt_or_ge i j with hh | hh
      · rw [(hl i hin).2 hh] at hfi; cases hfi
      · exact hh
    rcases Nat.lt_or_ge j i with hh | hh
    · have h5 := List.all_eq_true.1 hbar i (List.mem_range.2 (by omega))
      simp only [Bool.or_eq_true] at h5
      rcases h5 with h5 | h5
      · have := Nat.le_of_ble_eq_true h5; omega
      · have := (hcl.add hp hpall).anc (i := j) (j := i) (by simp) h5
        simp only [Bool.or_eq_true, hlj, Bool.false_eq_true, false_or] at this
        have := Nat.eq_of_beq_eq_true this; omega
    · omega
  subst hij
  have hmi : Match1 P N arr i ⟨dst, none, l⟩ := by
    obtain ⟨l', e1, e2⟩ := hml.get (k := i) (i := i) (by simp [hin])
    have : ops[i]? = some (⟨dst, none, l⟩, pr) := by
      have := congrArg (fun x => x[0]?) hdr
      simpa using this
    rw [← h3, List.getElem?_map, this] at e1
    simp only [Option.map_some, Option.some.injEq] at e1
    subst e1; exact e2
  obtain ⟨o, ho, hdst, hdN, hlo, hg⟩ := hmi.at_
  have hgn : o.guard = none := by
    rcases hg with ⟨_, hg⟩ | ⟨_, _, _, hg, _⟩
    · exact hg
    · cases hg
  simp only [wpOpIn, ho, wanted_none hgn, if_true]
  refine h o hdst hdN hlo C a w S L hN hs _ _ (fun env' H' D' y w' S' L' hk hs' _ => ?_)
  refine hk arr ls hml hop C _ w' S' L' hN hs' fuel (listed.setIfInBounds i true) (by simpa using hsz) ?_ (by omega)
  intro k hk
  rw [getD_set (by omega)]
  simp only [Bool.or_eq_true, hl k hk]
  constructor
  · rintro (h | h)
    · omega
    · have := Nat.eq_of_beq_eq_true h; omega
  · intro h
    by_cases hki : k = i
    · subst hki; exact .inr (Nat.beq_refl k)
    · exact .inl (by omega)
theorem RAny.chain {j n : Nat} {opsA : List (LOper × List Nat)} {infos : List (List Nat × List Nat)} {env' : Env} (hA : (ops.drop j).take n = opsA) (hch : DCh P r N H D env opsA infos [] env') (hb : okBack 0 (ops.map (·.2)) = true)
    (hcut : okCut (ancs [] (ops.map (·.2))) (j + infos.length) ops.length = true) (hpairs : okPairsO (ancs [] (ops.map (·.2))) j infos = true) (hk : RAny P r N ops (j + infos.length) Q env' H D) : RAny P r N ops j Q env H D := by
  intro arr ls hml hop C a w S L hN hs fuel listed hsz hl hf
  obtain ⟨h1, h2, h3, h4⟩ := zip_facts hml hop
  have hd := draw0 h2 hb
  obtain ⟨Ws, f1, f2, f3, f4, f5⟩ := (hch.toG (q := opsA.length) 0 (by omega)).facts
  rw [List.length_map] at f1 f2
  have hAl : opsA.length ≤ ops.length - j := by
    rw [← hA, List.length_take, List.length_drop]; omega
  have hgA : ∀ i x, opsA[i]? = some x → ops[j + i]? = some x := by
    intro i x hx
    rw [← hA, List.getElem?_take] at hx
    split at hx
    · rwa [List.getElem?_drop] at hx
    · cases hx
  have hfi : ∀ (i : Nat) f k, infos[i]? = some (f, k) → ∃ W l pr, Ws[i]? = some W ∧ opsA[i]? = some (l, pr) ∧ QStep P r N l (only f (updL env (Ws.take i).flatten)) H D W ∧ k = keysOf W ∧ subB k f = true ∧ dstIn l.dst k = true := by
    intro i f k hik
    obtain ⟨W, l, pr, e1, e2, e3, _, e5, e6, e7⟩ := f5 i f k true true (by rw [List.getElem?_map, hik]; rfl)
    have hil := (List.getElem?_eq_some_iff.1 hik).1
    exact ⟨W, l, pr, e1, e2, (e3 (by omega)).1 rfl, e5, e6, e7⟩
  have hjm : infos.length = 0 ∨ j + infos.length ≤ ops.length := by
    by_cases h : infos.length = 0
    · exact .inl h
    · right; omega
  have pairs : ∀ i k fi ki fj kj, i < k → infos[i]? = some (fi, ki) → infos[k]? = some (fj, kj) → ((ancs [] (ops.map (·.2))).getD (j + k) 0).testBit (j + i) = true ∨ ((∀ x ∈ ki, x ∉ fj) ∧ (∀ x ∈ kj, x ∉ fi)) := by
    intro i k fi ki fj kj hik hi hk
    have hkl := (List.getElem?_eq_some_iff.1 hk).1
    have h1 := List.all_eq_true.1 (List.all_eq_true.1 hpairs k (List.mem_range.2 hkl)) i (List.mem_range.2 hik)
    rw [hi, hk] at h1
    simp only [Bool.or_eq_true, Bool.and_eq_true] at h1
    rcases h1 with h1 | h1
    · exact .inl h1
    · exact .inr ⟨fun x hx => disjB_spec h1.1 hx, fun x hx => disjB_spec h1.2 hx⟩
  have key : ∀ (fuel : Nat) (listed : Array Bool) (a : Act) (w : World) (S : Snap) (L : Nat → Option Nat), listed.size = arr.size → Closed (ops.map (·.2)) (fun k => listed.getD k true) →
      (∀ k, k < j → listed.getD k true = true) → (∀ k, j + infos.length ≤ k → k < arr.size → listed.getD k true = false) → (List.range arr.size).countP (fun k => !listed.getD k true) ≤ fuel →
      Sat C (updL env (wsel (fun k => listed.getD (j + k) true) 0 Ws)) H D a w S L → wpAnyIn (Fw r) 0 P .any arr (PostC C Q) fuel listed a w := by
    intro fuel
    induction fuel with
    | zero =>
      intro listed a w S L hsz hcl hbj hno hct hs
      have hall : ∀ k, k < arr.size → listed.getD k true = true := by
        intro k hk
        have h0 : (List.range arr.size).countP (fun k => !listed.getD k true) = 0 := by omega
        have := List.countP_eq_zero.1 h0 k (List.mem_range.2 hk)
        simpa using this
      have hge : arr.size ≤ j + infos.length := by
        rcases Nat.lt_or_ge (j + infos.length) arr.size with h | h
        · have := hno _ (Nat.le_refl _) h
          rw [hall _ h] at this; cases this
        · exact h
      have hout : ∀ k, ¬ k < arr.size → listed.getD k true = true := fun k hk => by simp [Array.getD, show ¬ k < listed.size by omega]
      rw [wsel_all (fun k hk => by rw [Nat.zero_add]; by_cases hlt : j + k < arr.size; exact hall _ hlt; exact hout _ hlt), ← f4] at hs
      exact hk arr ls hml hop C a w S L hN hs 0 listed hsz (fun k hk => ⟨fun _ => by omega, fun _ => hall k hk⟩) (by omega)
    | succ fuel ih =>
      intro listed a w S L hsz hcl hbj hno hct hs
      have hout : ∀ k, ¬ k < arr.size → listed.getD k true = true := fun k hk => by simp [Array.getD, show ¬ k < listed.size by omega]
      by_cases hpre : ∀ k, k < j + infos.length → listed.getD k true = true
      · rw [wsel_all (fun k hk => by rw [Nat.zero_add]; exact hpre _ (by omega)), ← f4] at hs
        refine hk arr ls hml hop C a w S L hN hs (fuel + 1) listed hsz (fun k hk => ⟨fun hh => ?_, fun hh => hpre k hh⟩) ?_
        · rcases Nat.lt_or_ge k (j + infos.length) with h | h
          · exact h
          · rw [hno k h hk] at hh; cases hh
        · have : arr.size - (j + infos.length) ≤ (List.range arr.size).countP (fun k => !listed.getD k true) := by
            by_cases hle : j + infos.length ≤ arr.size
            · have e : List.range arr.size = List.range (j + infos.length) ++ List.range' (j + infos.length) (arr.size - (j + infos.length)) := by
                rw [List.range_eq_range', List.range_eq_range']
                have := List.range'_append_1 (s := 0) (m := j + infos.length) (n := arr.size - (j + infos.length))
                rw [Nat.zero_add] at this
                rw [this]; congr 1; omega
              rw [e, List.countP_append]
              have : (List.range' (j + infos.length) (arr.size - (j + infos.length))).countP (fun k => !listed.getD k true) = arr.size - (j + infos.length) := by
                rw [List.countP_eq_length.2]
                · simp
                · intro k hk
                  have := List.mem_range'_1.1 hk
                  simp [hno k this.1 (by omega)]
              omega
            · omega
          omega
      · have hex : ∃ k, k < j + infos.length ∧ listed.getD k true = false ∧ ∀ i, i < k → listed.getD i true = true := by
          have : ∀ n, (∀ k, k < n → listed.getD k true = true) ∨ ∃ k, k < n ∧ listed.getD k true = false ∧ ∀ i, i < k → listed.getD i true = true := by
            intro n
            induction n with
            | zero => exact .inl (by intro k hk; omega)
            | succ n ihn =>
              rcases ihn with h | ⟨k, h1, h2, h3⟩
              · cases hb : listed.getD n true with
                | true => exact .inl (fun k hk => by
                    rcases Nat.lt_or_ge k n with hh | hh
                    · exact h k hh
                    · have : k = n := by omega
                      subst this; exact hb)
                | false => exact .inr ⟨n, by omega, hb, h⟩
              · exact .inr ⟨k, by omega, h2, h3⟩
          rcases this (j + infos.length) with h | h
          · exact absurd h hpre
          · exact h
        obtain ⟨k0, hk0, hf0, hb0⟩ := hex
        have hk0s : k0 < arr.size := by
          rcases Nat.lt_or_ge k0 arr.size with h | h
          · exact h
          · rw [hout k0 (by omega)] at hf0; cases hf0
        have hr0 := hd.isReady hsz (j := k0) hk0s hf0 hb0
        refine ⟨fun hr => (by rw [hr] at hr0; cases hr0), fun i hi => ?_⟩
        obtain ⟨hin, hfi0, p, hp, hpall⟩ := hd.ready hi
        have hij : j ≤ i := by
          rcases Nat.lt_or_ge i j with h | h
          · rw [hbj i h] at hfi0; cases hfi0
          · exact h
        have him : i < j + infos.length := by
          rcases Nat.lt_or_ge i (j + infos.length) with h | h
          · exact h
          · have h5 := List.all_eq_true.1 hcut i (List.mem_range.2 (by omega))
            simp only [Bool.or_eq_true] at h5
            rcases h5 with h5 | h5
            · have := Nat.le_of_ble_eq_true h5
              omega
            · have h6 := List.all_eq_true.1 h5 k0 (List.mem_range.2 hk0)
              have := (hcl.add hp hpall).anc (i := k0) (j := i) (by simp) h6
              simp only [Bool.or_eq_true, hf0, Bool.false_eq_true, false_or] at this
              have := Nat.eq_of_beq_eq_true this; omega
        obtain ⟨d, rfl⟩ : ∃ d, i = j + d := ⟨i - j, by omega⟩
        have hdl : d < infos.length := by omega
        obtain ⟨fi, ki, hinf⟩ : ∃ fi ki, infos[d]? = some (fi, ki) := ⟨_, _, List.getElem?_eq_getElem hdl⟩
        obtain ⟨W, l, pr, hW, hop', hq, rfl, hsubk, hdst⟩ := hfi d fi ki hinf
        have hmi : Match1 P N arr (j + d) l := by
          obtain ⟨l', e1, e2⟩ := hml.get (k := j + d) (i := j + d) (by simp [hin])
          rw [← h3, List.getElem?_map, hgA d _ hop'] at e1
          simp only [Option.map_some, Option.some.injEq] at e1
          subst e1; exact e2
        have hsubenv : ∀ t, only fi (updL env (Ws.take d).flatten) t = .any ∨ only fi (updL env (Ws.take d).flatten) t = updL env (wsel (fun k => listed.getD (j + k) true) 0 Ws) t := by
          intro t
          by_cases hany : only fi (updL env (Ws.take d).flatten) t = .any
          · exact .inl hany
          · obtain ⟨htf, he⟩ := only_in hany
            refine .inr ?_
            rw [he]
            have e0 : (Ws.take d).flatten = wsel (fun k => decide (k < 0 + d)) 0 Ws := wsel_take.symm
            rw [e0]
            refine wsel_congr rfl (fun k W' hk => ?_)
            simp only [Nat.zero_add]
            have hkl : k < infos.length := by
              have := (List.getElem?_eq_some_iff.1 hk).1
              omega
            obtain ⟨fk, kk, hinfk⟩ : ∃ fk kk, infos[k]? = some (fk, kk) := ⟨_, _, List.getElem?_eq_getElem hkl⟩
            obtain ⟨Wk, _, _, hWk, _, _, rfl, _, _⟩ := hfi k fk kk hinfk
            rw [hk] at hWk; cases hWk
            rcases Nat.lt_trichotomy k d with hki | hki | hki
            · rcases pairs k d fk _ fi _ hki hinfk hinf with h1 | h1
              · have := (hcl.add hp hpall).anc (i := j + k) (j := j + d) (by simp) h1
                simp only [Bool.or_eq_true] at this
                rcases this with h | h
                · exact .inl (by simp [hki, h])
                · have := Nat.eq_of_beq_eq_true h; omega
              · exact .inr (fun hx => h1.1 t hx htf)
            · subst hki; exact .inl (by simp [hfi0])
            · rcases pairs d k fi _ fk _ hki hinf hinfk with h1 | h1
              · left
                have hnlt : ¬ k < d := by omega
                simp only [hnlt, decide_false]
                cases hb : listed.getD (j + k) true with
                | false => rfl
                | true =>
                  have := hcl.anc (i := j + d) (j := j + k) hb h1
                  simp only [hfi0] at this; cases this
              · exact .inr (fun hx => h1.2 t hx htf)
        refine QStep.wpOpIn hmi hq hdst hsubenv hN hs (fun a' w' S' L' hs' => ?_)
        have e1 : (fun k => (listed.setIfInBounds (j + d) true).getD k true) = (fun k => listed.getD k true || Nat.beq k (j + d)) := by
          funext k; rw [getD_set (by omega)]
        have e1' : (fun k => (listed.setIfInBounds (j + d) true).getD (j + k) true) = (fun k => listed.getD (j + k) true || Nat.beq k (0 + d)) := by
          funext k
          rw [getD_set (by omega), Nat.zero_add]
          congr 1
          rw [Bool.eq_iff_iff]
          constructor
          · intro h
            have := Nat.eq_of_beq_eq_true h
            have : k = d := by omega
            subst this; exact Nat.beq_refl k
          · intro h
            have := Nat.eq_of_beq_eq_true h
            subst this; exact Nat.beq_refl _
        refine ih (listed.setIfInBounds (j + d) true) a' w' S' L' (by simpa using hsz) ?_ ?_ ?_ ?_ ?_
        · rw [e1]; exact hcl.add hp hpall
        · intro k hk
          rw [getD_set (by omega), hbj k hk, Bool.true_or]
        · intro k h1 h2
          rw [getD_set (by omega), hno k h1 h2, Bool.false_or]
          cases hb : Nat.beq k (j + d) with
          | false => rfl
          | true => have := Nat.eq_of_beq_eq_true hb; omega
        · have := countP_lt (p := fun k => !listed.getD k true) (q := fun k => !(listed.setIfInBounds (j + d) true).getD k true) (i := j + d) (l := List.range arr.size)
            (by intro x hx; rw [getD_set (by omega)] at hx; simp only [Bool.not_eq_true', Bool.or_eq_false_iff] at hx ⊢; exact hx.1) (List.mem_range.2 hin) (by simp only [hfi0, Bool.not_false])
            (by simp only [getD_set (show j + d < listed.size by omega), Nat.beq_refl, Bool.or_true, Bool.not_true])
          omega
        · rw [e1', wsel_add hW (by rw [Nat.zero_add]; exact hfi0)]
          · exact hs'
          · intro k W' hk hik hkl x hx hx'
            have hkl' : k < infos.length := by
              have := (List.getElem?_eq_some_iff.1 hk).1
              omega
            obtain ⟨fk, kk, hinfk⟩ : ∃ fk kk, infos[k]? = some (fk, kk) := ⟨_, _, List.getElem?_eq_getElem hkl'⟩
            obtain ⟨Wk, _, _, hWk, _, _, rfl, hsk, _⟩ := hfi k fk kk hinfk
            rw [hk] at hWk; cases hWk
            rcases pairs d k fi _ fk _ hik hinf hinfk with h1 | h1
            · rw [Nat.zero_add] at hkl
              have := hcl.anc (i := j + d) (j := j + k) hkl h1
              simp only [hfi0] at this; cases this
            · exact h1.1 x hx (subB_spec hsk hx')
  refine key fuel listed a w S L hsz ?_ (fun k hk => ?_) (fun k h1 h2 => ?_) ?_ ?_
  · intro k p' hk hs' q hq
    have hkn : k < arr.size := by
      have := (List.getElem?_eq_some_iff.1 hk).1
      rw [List.length_map] at this; omega
    have hkj := (hl k hkn).1 hs'
    have := okBack_spec hb k p' hk q hq
    exact (hl q (by omega)).2 (by omega)
  · by_cases hlt : k < arr.size
    · exact (hl k hlt).2 hk
    · simp [Array.getD, show ¬ k < listed.size by omega]
  · cases hx : listed.getD k true with
    | false => rfl
    | true => have := (hl k h2).1 hx; omega
  · have : (List.range arr.size).countP (fun k => !listed.getD k true) ≤ arr.size - j := by
      by_cases hle : j ≤ arr.size
      · have e : List.range arr.size = List.range j ++ List.range' j (arr.size - j) := by
          rw [List.range_eq_range', List.range_eq_range']
          have := List.range'_append_1 (s := 0) (m := j) (n := arr.size - j)
          rw [Nat.zero_add] at this
          rw [this]; congr 1; omega
        rw [e, List.countP_append]
        have h0 : (List.range j).countP (fun k => !listed.getD k true) = 0 := by
          rw [List.countP_eq_zero]
          intro k hk
          have := List.mem_range.1 hk
          simp [(hl k (by omega)).2 this]
        have := List.countP_le_length (p := fun k => !listed.getD k true) (l := List.range' j (arr.size - j))
        simp only [List.length_range'] at this
        omega
      · have h0 : (List.range arr.size).countP (fun k => !listed.getD k true) = 0 := by
          rw [List.countP_eq_zero]
          intro k hk
          have := List.mem_range.1 hk
          simp [(hl k this).2 (by omega)]
        omega
    omega
  · have e : updL env (wsel (fun k => listed.getD (j + k) true) 0 Ws) = env := by
      funext t
      have : updL env (wsel (fun k => listed.getD (j + k) true) 0 Ws) t = updL env (wsel (fun _ => false) 0 Ws) t := by
        refine wsel_congr rfl (fun k W hk => .inl ?_)
        have hkl := (List.getElem?_eq_some_iff.1 hk).1
        rw [Nat.zero_add]
        have hjk : j + k < arr.size := by omega
        cases hx : listed.getD (j + k) true with
        | false => rfl
        | true => have := (hl _ hjk).1 hx; omega
      rw [this, wsel_none (fun _ => rfl)]
      rfl
    rw [e]
    exact hs
theorem DCh.run_all {gs : List (Nat × Bool)} {ls : List (LOper × List Nat)} {hs hs' : List Hint} {env' : Env} {infos : List (List Nat × List Nat)} {ob : Prop} (h : drun P gs H ls hs env = (env', infos, [], hs', ob)) (o : ob) : DCh P r N H D env ls infos [] env' := by
  have := DCh.run (P := P) (r := r) (N := N) (D := D) (i2 := []) (suf := []) h o DCh.nil
  rwa [List.append_nil] at this
theorem RAny.q {j : Nat} {gs : List (Nat × Bool)} (n : Nat) {hs hs' : List Hint} {env' : Env} {infos : List (List Nat × List Nat)} {ob : Prop} (h : drun P gs H ((ops.drop j).take n) hs env = (env', infos, [], hs', ob))
    (hb : (okBack 0 (ops.map (·.2)) && (okCut (ancs [] (ops.map (·.2))) (j + infos.length) ops.length && okPairsO (ancs [] (ops.map (·.2))) j infos)) = true) (o : ob) (k : RAny P r N ops (j + infos.length) Q env' H D) : RAny P r N ops j Q env H D := by
  simp only [Bool.and_eq_true] at hb
  exact RAny.chain rfl (DCh.run_all h o) hb.1 hb.2.1 hb.2.2 k
theorem RAny.o {j : Nat} {dst : Option Nat} {l : LOp} {pr : List Nat} {rest : List (LOper × List Nat)} (hdr : ops.drop j = (⟨dst, none, l⟩, pr) :: rest) (hb : (okBack 0 (ops.map (·.2)) && okBar (ancs [] (ops.map (·.2))) j ops.length) = true)
    (h : Op1 P r N l dst env H D (fun env' H' D' => RAny P r N ops (j + 1) Q env' H' D')) : RAny P r N ops j Q env H D := by
  simp only [Bool.and_eq_true] at hb
  exact RAny.op hdr hb.1 hb.2 h
theorem RAny.end {j : Nat} (hb : (okBack 0 (ops.map (·.2)) && Nat.ble ops.length j) = true) (k : Q .normal env H D) : RAny P r N ops j Q env H D := by
  simp only [Bool.and_eq_true] at hb
  exact RAny.nil hb.1 (Nat.le_of_ble_eq_true hb.2) k
theorem LWp.dopsS (hm : P.follows .mixedOrders = true) (h : RAny P r N ops 0 Q env H D) : LWp P r N (.dops ops) Q env H D := by
  intro c hc C a w S L hN hs
  generalize hop : LCode.dops ops = lc at hc
  cases hc with
  | @dops id arr ls hml =>
    simp only [LCode.dops.injEq] at hop
    refine wpIn_region_any hm ?_
    refine h arr ls hml hop C a { w with drawn := w.drawn + 1 } S L hN (hs.grow ⟨rfl, rfl, rfl, Nat.le_refl _, fun _ _ => rfl⟩) arr.size (Array.replicate arr.size false) (by simp) (fun k hk => ?_) (by omega)
    simp [Array.getD_eq_getD_getElem?, hk]
  | _ => cases hop
end
end Go.Px

namespace Go.Px
section
variable {P : Program} {r : Option Nat} {N : Nat} {env : Env} {H : Heap} {D : List Nat} {dst : Option Nat} {K : Env → Heap → List Nat → Prop}
theorem run_eqNil {T E : Nat} (hT : P.underlying T = some (.slice E)) (d : Nat) (ad : Option Addr) (n c : Nat) (w : World) : (Op.equalIn (d + 1) T (.slice ad n c) (.slice none 0 0)).run P w = .ok ad.isNone w := by
  cases ad <;> simp [Op.equalIn, underlying, hT, Result.andThen]
theorem Op1.eqNil {T E kk : Nat} {x y : Operand} {es : List (List AV)} (hT : P.underlying T = some (.slice E)) (_hg : P.eqGuardType P.depth T = false) (hx : evO env x = .sl kk es) (hy : evO env y = .nil)
    (k : ∀ b : Bool, (b = true → es = []) → K (updO env dst (.v (.bool b))) H D) : Op1 P r N (.eqT false T x y) dst env H D K := by
  intro o hdst hd hlo C a w S L hN hs next Q hnext
  have hyv := hs.repO y hy rfl
  simp only [Rep] at hyv
  have hxv := hs.repO x hx rfl
  simp only [Rep] at hxv
  have key : ∃ b : Bool, (b = true → es = []) ∧ (execOp a.eval o).run P w = .ok (.value (.bool b)) w := by
    cases hlo with
    | eqT hop hT' =>
      rcases hxv with ⟨⟨ad, hv⟩, he⟩ | ⟨bb, off, cap, hv, _⟩
      · refine ⟨ad.isNone, fun _ => he, ?_⟩
        have he : (Op.equal T (.slice ad 0 0) (.slice none 0 0)).run P w = .ok ad.isNone w := run_eqNil hT 9999 ad 0 0 w
        simp [execOp, hop, hv, hyv, eqGuard, binOp, he]
      · refine ⟨false, (fun h => by cases h), ?_⟩
        have he : (Op.equal T (.slice (some ⟨bb, off, none⟩) es.length cap) (.slice none 0 0)).run P w = .ok false w := run_eqNil hT 9999 (some ⟨bb, off, none⟩) es.length cap w
        simp [execOp, hop, hv, hyv, eqGuard, binOp, he]
  obtain ⟨b, hb, hrun⟩ := key
  obtain ⟨L', hs'⟩ := hs.putO (dst := dst) (fun d e => hN ▸ hd d e) (p := .v (.bool b)) (y := .bool b) rfl (by simp [Rep])
  exact Oper.wpIn_value hlo (by simp) hrun (by rw [hdst]; exact hnext _ _ _ _ _ _ _ (k b hb) hs' (Snap.Le.refl _))
end
end Go.Px

